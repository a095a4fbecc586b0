/- A part of the abstract machine: an evaluator of the model's code over an abstract heap, proved sound against the model's walks (Calls, wp). No condition beyond each theorem's own premises. -/
import Derived.Test.YtbimgjagacligaaGreatDoorAbsJ
set_option linter.unusedVariables false
set_option linter.unusedSimpArgs false
namespace Go.Abs
open Go Go.RowKit
noncomputable section

section
variable {α : Type}
def T.all (p : Nat → α → Bool) : T α → Bool
  | .leaf => true
  | .node l v r => (match v with
    | some x => p 0 x
    | none => true) && T.all (fun k x => p (2 * k + 1) x) l && T.all (fun k x => p (2 * k + 2) x) r
def T.Forall (p : Nat → α → Prop) : T α → Prop
  | .leaf => True
  | .node l v r => (match v with
    | some x => p 0 x
    | none => True) ∧ T.Forall (fun k x => p (2 * k + 1) x) l ∧ T.Forall (fun k x => p (2 * k + 2) x) r

theorem T.Forall_get : ∀ (t : T α) (p : Nat → α → Prop), T.Forall p t → ∀ k x, t.get k = some x → p k x
  | .leaf, p, _, k, x, h => by simp [T.get] at h
  | .node l v r, p, hf, k, x, h => by
    obtain ⟨h1, h2, h3⟩ := hf
    unfold T.get at h
    cases k with
    | zero => simp only at h; subst h; exact h1
    | succ m =>
      simp only at h
      rcases Nat.mod_two_eq_zero_or_one m with e | e
      · rw [e] at h
        have := T.Forall_get l _ h2 _ _ h
        rwa [show 2 * (m / 2) + 1 = m + 1 by omega] at this
      · rw [e] at h
        have := T.Forall_get r _ h3 _ _ h
        rwa [show 2 * (m / 2) + 2 = m + 1 by omega] at this
theorem T.all_get (t : T α) (p : Nat → α → Bool) (h : T.all p t = true) : ∀ k x, t.get k = some x → p k x = true := by
  have : ∀ (t : T α) (p : Nat → α → Bool), T.all p t = true → T.Forall (fun k x => p k x = true) t := by
    intro t
    induction t with
    | leaf => intro p _; trivial
    | node l v r ihl ihr =>
      intro p h
      simp only [T.all, Bool.and_eq_true] at h
      refine ⟨?_, ihl _ h.1.2, ihr _ h.2⟩
      cases v with
      | none => trivial
      | some x => exact h.1.1
  exact T.Forall_get t _ (this t p h)
end

/-! #### types -/
def tyCheck (P : Program) (t : Nat) (i : Ty) : Bool :=
  match P.underlying t, P.info? t with
  | some d, some f => decide (kOf d = i.k) && Nat.beq f.size i.size && Nat.beq f.bytes i.bytes && (match f.zero with
      | some z => vSame 30 z i.zero
      | none => false) && constOk 20 i.zero && Nat.beq i.zero.cells.size i.size && i.zero.cells.toList.all oneCell && (match i.k.agg with
      | true => (match i.zero with
        | .agg _ => true
        | _ => false)
      | false => oneCell i.zero) && (!i.flat || (!P.eqGuardType P.depth t && P.keyTypeAt 100 t && P.tiled 100 t))
  | _, _ => false

theorem tyCheck_ok {P : Program} {t : Nat} {i : Ty} (h : tyCheck P t i = true) : TyOk P t i := by
  unfold tyCheck at h
  split at h
  case h_2 => cases h
  next d f hd hf =>
  simp only [Bool.and_eq_true] at h
  obtain ⟨⟨⟨⟨⟨⟨⟨⟨h1, h2⟩, h3⟩, h4⟩, h5⟩, h6⟩, h7⟩, h8⟩, h9⟩ := h
  split at h4
  case h_2 => cases h4
  next z hz =>
  have hz' := vSame_eq _ _ _ h4
  refine ⟨⟨d, hd, of_decide_eq_true h1⟩, ⟨f, hf, Nat.eq_of_beq_eq_true h2, Nat.eq_of_beq_eq_true h3, by rw [hz, hz']⟩, h5, Nat.eq_of_beq_eq_true h6, List.all_eq_true.1 h7, ?_, ?_, ?_⟩
  · intro e; rw [e] at h8; exact h8
  · intro e
    rw [e] at h8
    simp only at h8
    split at h8
    · exact ⟨_, ‹_›⟩
    · cases h8
  · intro e
    rw [e] at h9
    simp only [Bool.not_true, Bool.false_or, Bool.and_eq_true, Bool.not_eq_true'] at h9
    exact ⟨h9.1.1, h9.1.2, h9.2⟩

/-! #### methods, functions without a body -/
def findM : List (String × FuncId × Recv) → String → Option (FuncId × Recv)
  | [], _ => none
  | (s, q) :: r, n => if s = n then some q else findM r n
def methCheck (P : Program) (t : Nat) (q : String × FuncId × Recv) : Bool :=
  match P.info? t with
  | some info => match info.methods.find? (·.name == q.1) with
    | some m => m.path.isEmpty && (match m.func with
      | some (f, pr) => Nat.beq f q.2.1 && (match q.2.2 with
        | .same => (match P.underlying t with
          | some d => (match kOf d with
            | .ptr _ => pr
            | _ => !pr)
          | none => false)
        | .deref e => !pr && (match P.underlying t with
          | some d => decide (kOf d = .ptr e)
          | none => false))
      | none => false)
    | none => false
  | none => false

theorem findM_mem : ∀ {l : List (String × FuncId × Recv)} {n : String} {q : FuncId × Recv}, findM l n = some q → (n, q) ∈ l
  | [], n, q, h => by simp [findM] at h
  | (s, q') :: r, n, q, h => by
    unfold findM at h
    split at h
    · next e => cases h; subst e; simp
    · exact List.mem_cons_of_mem _ (findM_mem h)

def extName : Ext' → String
  | .indexByteString => "internal/bytealg.IndexByteString"
  | .countString => "internal/bytealg.CountString"
  | .cmpString => "internal/bytealg.CompareString"

structure Tabs where
  ty : T Ty
  fn : T Func
  pl : T (T Plan)
  meth : T (List (String × FuncId × Recv))
  ext : T Ext'
def Tabs.Γ (B : Tabs) : Ctx := { ty := B.ty.get, fn := B.fn.get }
def Tabs.mt (B : Tabs) (t : TypeId) (n : String) : Option (FuncId × Recv) := match B.meth.get t with
  | some l => findM l n
  | none => none
def Tabs.Δ (B : Tabs) : Ctx2 := { meth := B.mt, ext := B.ext.get }
def Tabs.plan (B : Tabs) (f id : Nat) : Option Plan := match B.pl.get f with
  | some t => t.get id
  | none => none

structure TabsOk (P : Program) (NG : Nat) (B : Tabs) : Prop where
  ty : B.ty.all (tyCheck P) = true
  fn : B.fn.Forall fun k F => P.funcs[k]? = some F
  nm : B.fn.all (fun _ F => !(F.name == "runtime.NumGoroutine")) = true
  mixed : P.follows .mixedOrders = true
  meth : B.meth.all (fun t l => l.all (methCheck P t)) = true
  ext : ∀ f k, B.ext.get f = some k → ∃ F, P.funcs[f]? = some F ∧ (F.name == "runtime.NumGoroutine") = false ∧ F.body = none ∧ Extern.findNext F = none ∧ Extern.find F = some (extSem k)
  codes : B.fn.all (fun f F => match F.body with
    | some c => codeOk NG (B.plan f) c
    | none => true) = true

theorem TabsOk.Γ {P : Program} {NG : Nat} {B : Tabs} (h : TabsOk P NG B) : CtxOk P B.Γ :=
  ⟨fun t i e => tyCheck_ok (T.all_get _ _ h.ty t i e), fun f F e => T.Forall_get _ _ h.fn f F e, h.mixed⟩
theorem TabsOk.Δ {P : Program} {NG : Nat} {B : Tabs} (h : TabsOk P NG B) : Ctx2Ok P B.Γ B.Δ where
  fnName := fun f F e => by
    have := T.all_get _ _ h.nm f F e
    simpa using this
  meth := by
    intro t name f r e
    simp only [Tabs.Δ, Tabs.mt] at e
    split at e
    case h_2 => cases e
    next l hl =>
    have h1 := T.all_get _ _ h.meth t l hl
    have h2 := List.all_eq_true.1 h1 _ (findM_mem e)
    unfold methCheck at h2
    split at h2
    case h_2 => cases h2
    next info hi =>
    split at h2
    case h_2 => cases h2
    next m hm =>
    simp only [Bool.and_eq_true] at h2
    obtain ⟨h3, h4⟩ := h2
    split at h4
    case h_2 => cases h4
    next f' pr hf =>
    simp only [Bool.and_eq_true] at h4
    obtain ⟨h5, h6⟩ := h4
    have h5' : f' = f := Nat.eq_of_beq_eq_true h5
    subst h5'
    refine ⟨info, m, pr, hi, hm, by simpa using h3, hf, ?_⟩
    cases r with
    | same =>
      simp only at h6 ⊢
      split at h6
      case h_2 => cases h6
      next d hd =>
      split at h6
      · next e' hk =>
        left
        cases d <;> simp [kOf] at hk
        subst hk
        exact ⟨_, h6, hd⟩
      · next hk =>
        right
        refine ⟨by simpa using h6, d, hd, fun e' he => ?_⟩
        subst he
        exact hk e' rfl
    | deref e' =>
      simp only [Bool.and_eq_true, Bool.not_eq_true'] at h6 ⊢
      obtain ⟨h7, h8⟩ := h6
      split at h8
      case h_2 => cases h8
      next d hd =>
      have hk := of_decide_eq_true h8
      cases d <;> simp [kOf] at hk
      subst hk
      exact ⟨h7, hd⟩
  ext := fun f k e => h.ext f k e
theorem TabsOk.codes' {P : Program} {NG : Nat} {B : Tabs} (h : TabsOk P NG B) : CodesOk B.Γ NG B.plan := by
  intro f F c hF hb
  have := T.all_get _ _ h.codes f F hF
  simpa [hb] using this

/-- a call run in the tables -/
def Tabs.run (P : Program) (B : Tabs) (ov : Over) (NG n m : Nat) : Caller := evCall P B.Γ B.Δ B.plan ov NG n m
theorem Tabs.run_ok {P : Program} {NG : Nat} {B : Tabs} (h : TabsOk P NG B) {w0 : World} {ov : Over} (hov : OvOk P w0 NG ov) (n m : Nat) : CallerOk P w0 NG (B.run P ov NG n m) :=
  evCall_ok h.Γ h.Δ h.codes' hov n m

/-- does it answer true? -/
def saysTrue : Option CRes → Bool
  | some (.ret (.bool true) _) => true
  | _ => false
end
end Go.Abs
