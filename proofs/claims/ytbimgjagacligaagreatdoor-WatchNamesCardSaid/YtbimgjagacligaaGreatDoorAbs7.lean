/- A part of the abstract machine: an evaluator of the model's code over an abstract heap, proved sound against the model's walks (Calls, wp). No condition beyond each theorem's own premises. -/
import Derived.Test.YtbimgjagacligaaGreatDoorAbs6
import Derived.DeepKeys3
set_option linter.unusedVariables false
set_option linter.unusedSimpArgs false
namespace Go.Abs
open Go Go.RowKit
noncomputable section

section
variable {P : Program} {Γ : Ctx} {w0 : World} {π : Pi} {h : AH} {w : World}

/-! #### plain structs, as literals -/
def litSame : Lit → Lit → Bool
  | .bool a, .bool b => a == b
  | .int k a, .int j b => decide (k = j) && decide (a = b)
  | .float k a, .float j b => decide (k = j) && decide (a = b)
  | .string a, .string b => decide (a = b)
  | .nil, .nil => true
  | _, _ => false
theorem litSame_iff (a b : Lit) : litSame a b = true ↔ a = b := by cases a <;> cases b <;> simp [litSame]
def litsSame : List Lit → List Lit → Bool
  | [], [] => true
  | a :: l, b :: m => litSame a b && litsSame l m
  | _, _ => false
theorem litsSame_iff : ∀ (a b : List Lit), litsSame a b = true ↔ a = b
  | [], [] => by simp [litsSame]
  | [], _ :: _ => by simp [litsSame]
  | _ :: _, [] => by simp [litsSame]
  | a :: l, b :: m => by simp [litsSame, litSame_iff, litsSame_iff l m]

def flatLit : Value → Bool
  | .bool _ | .int _ _ | .string _ => true
  | _ => false
theorem flatLit_lit {v : Value} (h : flatLit v = true) : isLit v = true := by cases v <;> first | rfl | cases h
def allLit (l : List Value) : Bool := l.all flatLit
theorem allLit_eq {l L : List Value} (hl : allLit l = true) (h : VRL π l L) : L = l := by
  apply List.ext_getElem?
  intro i
  cases hi : l[i]? with
  | none =>
    have : l.length ≤ i := List.getElem?_eq_none_iff.1 hi
    exact List.getElem?_eq_none_iff.2 (by rw [← h.1]; exact this)
  | some v =>
    obtain ⟨V, h1, h2⟩ := h.get hi
    have : isLit v = true := flatLit_lit (List.all_eq_true.1 hl v (List.mem_of_getElem? hi))
    rw [h1, h2.lit_inv this]
theorem agg_lit {xs : Array Value} {V : Value} (hl : allLit xs.toList = true) (h : VR π (.agg xs) V) : V = .agg xs := by
  obtain ⟨ys, rfl, h2⟩ := h.agg_inv
  have := allLit_eq hl h2
  congr 1
  exact Array.ext' this

/-- the literals of a plain struct -/
def aLits (P : Program) (Γ : Ctx) (t : TypeId) (cs : List Value) : Option (List Lit) :=
  match Γ.ty t with
  | some i => if i.flat && i.k.agg && cs.length == i.size && allLit cs then P.keyLits 100 t cs else none
  | none => none

theorem aLits_ok (hΓ : CtxOk P Γ) {t : TypeId} {xs : Array Value} {L : List Lit} (hr : aLits P Γ t xs.toList = some L) :
    P.keyLits 100 t xs.toList = some L ∧ (Value.agg xs).formed P t = true ∧ allLit xs.toList = true ∧ P.keyTypeAt 100 t = true ∧ P.eqGuardType P.depth t = false ∧ (∀ d, P.underlying t = some d → (∃ fs, d = .struct fs) ∨ ∃ n e, d = .array n e) := by
  unfold aLits at hr
  split at hr
  · next i hi =>
    split at hr
    · next hc =>
      simp only [Bool.and_eq_true, beq_iff_eq] at hc
      obtain ⟨⟨⟨hf, ha⟩, hs⟩, hl⟩ := hc
      have ok := hΓ.ty _ _ hi
      obtain ⟨d, h1, h2⟩ := ok.k
      obtain ⟨inf, g1, g2, _⟩ := ok.info
      have hd : (∃ fs, d = .struct fs) ∨ ∃ n e, d = .array n e := by
        rw [← h2] at ha
        cases d <;> simp [kOf, K.agg] at ha
        · exact .inr ⟨_, _, rfl⟩
        · exact .inl ⟨_, rfl⟩
      refine ⟨hr, ?_, hl, (ok.flat hf).2.1, (ok.flat hf).1, fun d' hd' => by rw [h1] at hd'; cases hd'; exact hd⟩
      have hsz : xs.size = P.cellsOf t := by simp [Program.cellsOf, g1, g2]; simpa using hs
      rcases hd with ⟨fs, rfl⟩ | ⟨n, e, rfl⟩ <;> simp [Value.formed, h1, hsz]
    · cases hr
  · cases hr

theorem aLits_inj (hΓ : CtxOk P Γ) {t : TypeId} {xs ys : Array Value} {L : List Lit} (hx : aLits P Γ t xs.toList = some L) (hy : aLits P Γ t ys.toList = some L) : xs = ys := by
  have h1 := (aLits_ok hΓ hx).1
  have h2 := (aLits_ok hΓ hy).1
  have ht : P.tiled 100 t = true := by
    unfold aLits at hx
    split at hx
    · next i hi =>
      split at hx
      · next hc =>
        simp only [Bool.and_eq_true] at hc
        exact ((hΓ.ty _ _ hi).flat hc.1.1.1).2.2
      · cases hx
    · cases hx
  apply Array.ext'
  rw [cells_of_lits 100 t ht _ _ _ h1, cells_of_lits 100 t ht _ _ _ h2]

theorem run_equal_aggs (hΓ : CtxOk P Γ) {t : TypeId} {xs ys : Array Value} {L M : List Lit} (hx : aLits P Γ t xs.toList = some L) (hy : aLits P Γ t ys.toList = some M) (w : World) :
    (Op.equal t (.agg xs) (.agg ys)).run P w = .ok (litsSame L M) w := by
  obtain ⟨h1, h2, _, h3, _⟩ := aLits_ok hΓ hx
  obtain ⟨k1, k2, _, _, _⟩ := aLits_ok hΓ hy
  obtain ⟨r, hr, hiff⟩ := run_equalIn_deep (10000 - 100) 100 t h3 w 100 100 (.agg xs) (.agg ys) L M h2 k2 h1 k1
  have : r = (litsSame L M) := by
    cases r with
    | true => exact ((litsSame_iff _ _).2 (hiff.1 rfl)).symm
    | false =>
      cases h : (litsSame L M) with
      | false => rfl
      | true => have := hiff.2 ((litsSame_iff _ _).1 h); cases this
  rw [← this]
  exact hr

/-! #### equality -/
def aEqual (P : Program) (Γ : Ctx) (t : TypeId) (x y : Value) : Option Bool :=
  match x, y with
  | .agg xs, .agg ys => match aLits P Γ t xs.toList, aLits P Γ t ys.toList with
    | some L, some M => some (litsSame L M)
    | _, _ => none
  | x, y => match Γ.ty t with
    | some i => aEq i x y
    | none => none

/-- '==' and '!=' of these go by Op.equal -/
def EqShape (X Y : Value) : Prop := ∀ t, binOp .eql t X Y = (do pure (.bool (← Op.equal t X Y))) ∧ binOp .neq t X Y = (do pure (.bool (!(← Op.equal t X Y))))

theorem run_isNil {k : K} {x y X Y : Value} {b : Bool} {t : TypeId} {i : Ty} (hi : TyOk P t i) (hn : nilOf i.k x = true) (hb : isNil i.k y = some b) (hx : VR π x X) (hy : VR π y Y) (w : World) :
    ((Op.equal t X Y).run P w = .ok b w ∧ EqShape X Y) ∧ (Op.equal t Y X).run P w = .ok b w ∧ EqShape Y X := by
  have E : ∀ A B : Value, Op.equal t A B = Op.equalIn (9999 + 1) t A B := fun A B => rfl
  rw [E, E]
  unfold Op.equalIn
  cases hk : i.k with
  | ptr e =>
    have hu := hi.ptr hk
    rw [hk] at hn hb
    cases x <;> simp [nilOf] at hn
    rename_i a
    cases a with
    | some a => simp [nilOf] at hn
    | none =>
      obtain rfl := hx.lit_inv rfl
      cases y <;> simp [isNil] at hb
      rename_i c
      subst hb
      cases c with
      | none => obtain rfl := hy.lit_inv rfl; exact ⟨⟨by simp [run_underlying hu], fun _ => ⟨rfl, rfl⟩⟩, by simp [run_underlying hu], fun _ => ⟨rfl, rfl⟩⟩
      | some c => obtain ⟨p, _, _, rfl⟩ := hy.ptr_inv; exact ⟨⟨by simp [run_underlying hu], fun _ => ⟨rfl, rfl⟩⟩, by simp [run_underlying hu], fun _ => ⟨rfl, rfl⟩⟩
  | slice e =>
    have hu := hi.slice hk
    rw [hk] at hn hb
    cases x <;> simp [nilOf] at hn
    rename_i a n c
    cases a with
    | some a => simp [nilOf] at hn
    | none =>
      obtain rfl := hx.lit_inv rfl
      cases y <;> simp [isNil] at hb
      rename_i d _ _
      subst hb
      cases d with
      | none => obtain rfl := hy.lit_inv rfl; exact ⟨⟨by simp [run_underlying hu], fun _ => ⟨rfl, rfl⟩⟩, by simp [run_underlying hu], fun _ => ⟨rfl, rfl⟩⟩
      | some c => obtain ⟨p, o', c', _, _, rfl, _⟩ := hy.slice_inv; exact ⟨⟨by simp [run_underlying hu], fun _ => ⟨rfl, rfl⟩⟩, by simp [run_underlying hu], fun _ => ⟨rfl, rfl⟩⟩
  | map kk e =>
    have hu := hi.map hk
    rw [hk] at hn hb
    cases x <;> simp [nilOf] at hn
    rename_i a
    cases a with
    | some a => simp [nilOf] at hn
    | none =>
      obtain rfl := hx.lit_inv rfl
      cases y <;> simp [isNil] at hb
      rename_i c
      subst hb
      cases c with
      | none => obtain rfl := hy.lit_inv rfl; exact ⟨⟨by simp [run_underlying hu], fun _ => ⟨rfl, rfl⟩⟩, by simp [run_underlying hu], fun _ => ⟨rfl, rfl⟩⟩
      | some c => obtain ⟨p, _, rfl⟩ := hy.map_inv; exact ⟨⟨by simp [run_underlying hu], fun _ => ⟨rfl, rfl⟩⟩, by simp [run_underlying hu], fun _ => ⟨rfl, rfl⟩⟩
  | func =>
    obtain ⟨a1, a2, a3, hu⟩ := hi.func hk
    rw [hk] at hn hb
    cases x <;> simp [nilOf] at hn
    obtain rfl := hx.lit_inv rfl
    cases y <;> simp [isNil] at hb <;> subst hb
    · obtain ⟨_, _, _, rfl⟩ := hy.func_some; exact ⟨⟨by simp [run_underlying hu], fun _ => ⟨rfl, rfl⟩⟩, by simp [run_underlying hu], fun _ => ⟨rfl, rfl⟩⟩
    · obtain rfl := hy.lit_inv rfl; exact ⟨⟨by simp [run_underlying hu], fun _ => ⟨rfl, rfl⟩⟩, by simp [run_underlying hu], fun _ => ⟨rfl, rfl⟩⟩
  | iface b' =>
    obtain ⟨ms, hu, hms⟩ := hi.iface hk
    rw [hk] at hn hb
    cases x <;> cases b' <;> simp [nilOf] at hn
    obtain rfl := hx.lit_inv rfl
    cases y <;> simp [isNil] at hb <;> subst hb
    · obtain ⟨_, rfl, _⟩ := hy.iface_inv; exact ⟨⟨by simp [run_underlying hu], fun _ => ⟨rfl, rfl⟩⟩, by simp [run_underlying hu], fun _ => ⟨rfl, rfl⟩⟩
    · obtain rfl := hy.lit_inv rfl; exact ⟨⟨by simp [run_underlying hu], fun _ => ⟨rfl, rfl⟩⟩, by simp [run_underlying hu], fun _ => ⟨rfl, rfl⟩⟩
  | _ => rw [hk] at hn; simp [nilOf] at hn

theorem aEq_agg (i : Ty) (ms : Array Value) (y : Value) : aEq i (.agg ms) y = none := by
  have a1 : ∀ k, nilOf k (.agg ms) = false := by
    intro k
    cases k <;> first | rfl | (rename_i b; cases b <;> rfl)
  have a2 : ∀ k, isNil k (.agg ms) = none := by
    intro k
    cases k <;> rfl
  unfold aEq
  cases i.k <;> simp only [a1, a2, Bool.false_eq_true, if_false, ite_self]

theorem equal_ok (hΓ : CtxOk P Γ) {t : TypeId} {x y X Y : Value} {b : Bool} (hr : aEqual P Γ t x y = some b) (hx : VR π x X) (hy : VR π y Y) (w : World) :
    (Op.equal t X Y).run P w = .ok b w ∧ (∀ op ox oy, (eqGuard op t ox oy X Y).run P w = .ok () w) ∧ EqShape X Y := by
  unfold aEqual at hr
  split at hr
  · next xs ys =>
    split at hr
    · next L M hL hM =>
      cases hr
      obtain ⟨_, _, l1, _, hg, _⟩ := aLits_ok hΓ hL
      obtain ⟨_, _, l2, _, _, _⟩ := aLits_ok hΓ hM
      obtain rfl := agg_lit l1 hx
      obtain rfl := agg_lit l2 hy
      refine ⟨run_equal_aggs hΓ hL hM w, fun op ox oy => ?_, fun _ => ⟨rfl, rfl⟩⟩
      cases op <;> simp [eqGuard, hg]
    · cases hr
  · next hno =>
    split at hr
    · next i hi =>
      have ok := hΓ.ty _ _ hi
      have notagg : ∀ ms, X ≠ .agg ms := by
        intro ms e
        subst e
        cases hx with
        | lit h => cases h
        | agg _ _ => rw [aEq_agg] at hr; cases hr
      unfold aEq at hr
      split at hr
      · rename_i a c hk
        cases hr
        obtain rfl := hx.lit_inv rfl
        obtain rfl := hy.lit_inv rfl
        have hu := ok.bool hk
        refine ⟨?_, fun op ox oy => eqGuard_none op t ox oy notagg (fun h => by cases h), fun _ => ⟨rfl, rfl⟩⟩
        show (Op.equalIn (9999 + 1) t _ _).run P w = _
        unfold Op.equalIn
        simp [run_underlying hu]
      · split at hr
        · next h1 =>
          refine ⟨(run_isNil (k := i.k) ok h1 hr hx hy w).1.1, fun op ox oy => eqGuard_none op t ox oy notagg (fun e1 e2 => ?_), (run_isNil (k := i.k) ok h1 hr hx hy w).1.2⟩
          subst e1
          cases hx with
          | lit _ =>
            cases hk : i.k <;> rw [hk] at h1 <;> simp [nilOf] at h1
            rename_i b'
            cases b' <;> simp [nilOf] at h1
            obtain ⟨ms, hu, hms⟩ := ok.iface hk
            exact ⟨true, ms, hu, hms, rfl⟩
        · split at hr
          · next h1 =>
            refine ⟨(run_isNil (k := i.k) ok h1 hr hy hx w).2.1, fun op ox oy => eqGuard_none op t ox oy notagg (fun e1 e2 => ?_), (run_isNil (k := i.k) ok h1 hr hy hx w).2.2⟩
            subst e2
            cases hy with
            | lit _ =>
              cases hk : i.k <;> rw [hk] at h1 <;> simp [nilOf] at h1
              rename_i b'
              cases b' <;> simp [nilOf] at h1
              obtain ⟨ms, hu, hms⟩ := ok.iface hk
              exact ⟨true, ms, hu, hms, rfl⟩
          · cases hr
    · cases hr

/-- an operation on two operands -/
def aBin (P : Program) (Γ : Ctx) (op : BinOp) (t : TypeId) (x y : Value) : Option Value :=
  match x, y with
  | .int k a, .int k' b =>
    match op with
    | .shl | .shr => aShift op k a b
    | _ => if k = k' then aInt op k a b else none
  | .string a, .string b => aStr op a b
  | x, y =>
    match op with
    | .eql => (aEqual P Γ t x y).map .bool
    | .neq => (aEqual P Γ t x y).map fun b => .bool !b
    | _ => none

theorem bin_ok (hΓ : CtxOk P Γ) {op : BinOp} {t : TypeId} {ox oy : Operand} {x y X Y r : Value} (hr : aBin P Γ op t x y = some r) (hx : VR π x X) (hy : VR π y Y) (w : World) :
    (do eqGuard op t ox oy X Y; binOp op t X Y : Sem Value).run P w = .ok r w ∧ VR π r r := by
  unfold aBin at hr
  split at hr
  · next k a k' b =>
    obtain rfl := hx.lit_inv rfl
    obtain rfl := hy.lit_inv rfl
    have hg : (eqGuard op t ox oy (.int k a) (.int k' b)).run P w = .ok () w := eqGuard_none op t ox oy (fun _ => by simp) (fun h => by cases h)
    split at hr
    · exact ⟨by simp only [Sem.run_bind, hg, Result.andThen_ok, run_aShift hr], .lit (aShift_lit hr)⟩
    · exact ⟨by simp only [Sem.run_bind, hg, Result.andThen_ok, run_aShift hr], .lit (aShift_lit hr)⟩
    · next h1 h2 =>
      split at hr
      · next hk =>
        subst hk
        exact ⟨by simp only [Sem.run_bind, hg, Result.andThen_ok]; exact run_aInt hr (fun e => h1 e) (fun e => h2 e) t, .lit (aInt_lit hr)⟩
      · cases hr
  · next a b =>
    obtain rfl := hx.lit_inv rfl
    obtain rfl := hy.lit_inv rfl
    have hg : (eqGuard op t ox oy (.string a) (.string b)).run P w = .ok () w := eqGuard_none op t ox oy (fun _ => by simp) (fun h => by cases h)
    exact ⟨by simp only [Sem.run_bind, hg, Result.andThen_ok, run_aStr hr], .lit (aStr_lit hr)⟩
  · next hn1 hn2 =>
    split at hr
    · simp only [Option.map_eq_some_iff] at hr
      obtain ⟨b, hb, rfl⟩ := hr
      obtain ⟨h1, h2, h3⟩ := equal_ok hΓ hb hx hy w
      exact ⟨by simp only [Sem.run_bind, h2, Result.andThen_ok, (h3 t).1, h1, Sem.run_pure], .lit rfl⟩
    · simp only [Option.map_eq_some_iff] at hr
      obtain ⟨b, hb, rfl⟩ := hr
      obtain ⟨h1, h2, h3⟩ := equal_ok hΓ hb hx hy w
      exact ⟨by simp only [Sem.run_bind, h2, Result.andThen_ok, (h3 t).2, h1, Sem.run_pure], .lit rfl⟩
    · cases hr

end
end
end Go.Abs
