/- A part of the abstract machine: an evaluator of the model's code over an abstract heap, proved sound against the model's walks (Calls, wp). No condition beyond each theorem's own premises. -/
import Derived.Test.YtbimgjagacligaaGreatDoorAbs8
set_option linter.unusedVariables false
set_option linter.unusedSimpArgs false
namespace Go.Abs
open Go Go.RowKit
noncomputable section

section
variable {P : Program} {Γ : Ctx} {w0 : World} {π : Pi} {h : AH} {w : World}

/-! #### keys -/
inductive KeyK where
  | int (k : IntKind) | string | agg
  deriving DecidableEq

def keyK (i : Ty) : Option KeyK :=
  match i.k with
  | .int k => some (.int k)
  | .string => some .string
  | _ => if i.flat && i.k.agg then some .agg else none

/-- are two keys one? -/
def keySame (P : Program) (Γ : Ctx) (kt : TypeId) (kk : KeyK) (x y : Value) : Option Bool :=
  match kk, x, y with
  | .int _, .int j a, .int j' b => if j = j' then some (a == b) else none
  | .string, .string a, .string b => some (a == b)
  | .agg, .agg xs, .agg ys => match aLits P Γ kt xs.toList, aLits P Γ kt ys.toList with
    | some L, some M => some (litsSame L M)
    | _, _ => none
  | _, _, _ => none

def keyFine (P : Program) (Γ : Ctx) (kt : TypeId) (kk : KeyK) (x : Value) : Bool :=
  match kk, x with
  | .int _, .int _ _ => true
  | .string, .string _ => true
  | .agg, .agg xs => (aLits P Γ kt xs.toList).isSome
  | _, _ => false

def afind (P : Program) (Γ : Ctx) (kt : TypeId) (kk : KeyK) (k : Value) : List MapEntry → Nat → Option (Option (Nat × Value))
  | [], _ => some none
  | e :: es, i =>
    match keySame P Γ kt kk k e.key with
    | some true => some (some (i, e.val))
    | some false => afind P Γ kt kk k es (i + 1)
    | none => none

theorem keySame_lit (hΓ : CtxOk P Γ) {kt : TypeId} {kk : KeyK} {x y X Y : Value} {b : Bool} (hr : keySame P Γ kt kk x y = some b) (hx : VR π x X) (hy : VR π y Y) : X = x ∧ Y = y := by
  unfold keySame at hr
  split at hr
  · exact ⟨hx.lit_inv rfl, hy.lit_inv rfl⟩
  · exact ⟨hx.lit_inv rfl, hy.lit_inv rfl⟩
  · split at hr
    · next L M h1 h2 => exact ⟨agg_lit (aLits_ok hΓ h1).2.2.1 hx, agg_lit (aLits_ok hΓ h2).2.2.1 hy⟩
    · cases hr
  · cases hr

theorem checkKey_ok (hΓ : CtxOk P Γ) {kt : TypeId} {i : Ty} {kk : KeyK} {x X : Value} (hi : Γ.ty kt = some i) (hk : keyK i = some kk) (hf : keyFine P Γ kt kk x = true) (hx : VR π x X) (em : Bool) (w : World) :
    (Instr.checkKey em 10000 kt X).run P w = .ok () w := by
  have ok := hΓ.ty _ _ hi
  unfold keyFine at hf
  split at hf
  · next k j n =>
    have hu : P.underlying kt = some (.int k) := by
      unfold keyK at hk
      split at hk
      · next k' e => cases hk; exact ok.int e
      · cases hk
      · split at hk <;> cases hk
    obtain rfl := hx.lit_inv rfl
    show (Instr.checkKey em (9999 + 1) kt _).run P w = _
    unfold Instr.checkKey
    simp [run_underlying hu]
  · next s =>
    have hu : P.underlying kt = some .string := by
      unfold keyK at hk
      split at hk
      · cases hk
      · next e => exact ok.string e
      · split at hk <;> cases hk
    obtain rfl := hx.lit_inv rfl
    show (Instr.checkKey em (9999 + 1) kt _).run P w = _
    unfold Instr.checkKey
    simp [run_underlying hu]
  · next xs =>
    obtain ⟨L, hL⟩ := Option.isSome_iff_exists.1 hf
    obtain ⟨h1, h2, h3, h4, _⟩ := aLits_ok hΓ hL
    obtain rfl := agg_lit h3 hx
    have hh := run_checkKey_deep em 9900 100 kt h4 w 100 (.agg xs) L h2 h1
    exact hh
  · cases hf

theorem EntsR.nil_inv {L : List MapEntry} (h : EntsR π [] L) : L = [] := List.length_eq_zero_iff.1 h.1.symm
theorem EntsR.cons_inv {e : MapEntry} {es L : List MapEntry} (h : EntsR π (e :: es) L) : ∃ E ES, L = E :: ES ∧ EntR π e E ∧ EntsR π es ES := by
  cases L with
  | nil => have := h.1; simp at this
  | cons E ES => exact ⟨E, ES, rfl, h.2 0 e E rfl rfl, by have := h.1; simpa using this, fun i a b x y => h.2 (i + 1) a b (by simpa using x) (by simpa using y)⟩
theorem EntsR.cons {e E : MapEntry} {es ES : List MapEntry} (h : EntR π e E) (k : EntsR π es ES) : EntsR π (e :: es) (E :: ES) := by
  refine ⟨by simp [k.1], fun i a b x y => ?_⟩
  cases i with
  | zero => simp at x y; subst x; subst y; exact h
  | succ i => exact k.2 i a b (by simpa using x) (by simpa using y)
theorem EntsR.get {es ES : List MapEntry} (h : EntsR π es ES) {i : Nat} {e : MapEntry} (hi : es[i]? = some e) : ∃ E, ES[i]? = some E ∧ EntR π e E := by
  have hlt : i < ES.length := h.1 ▸ (List.getElem?_eq_some_iff.1 hi).1
  exact ⟨ES[i], List.getElem?_eq_getElem hlt, h.2 i _ _ hi (List.getElem?_eq_getElem hlt)⟩
theorem EntsR.snoc {e E : MapEntry} {es ES : List MapEntry} (k : EntsR π es ES) (h : EntR π e E) : EntsR π (es ++ [e]) (ES ++ [E]) := by
  refine ⟨by simp [k.1], fun i a b x y => ?_⟩
  by_cases hi : i < es.length
  · rw [List.getElem?_append_left hi] at x
    rw [List.getElem?_append_left (k.1 ▸ hi)] at y
    exact k.2 i a b x y
  · rw [List.getElem?_append_right (by omega)] at x
    rw [List.getElem?_append_right (by have := k.1; omega), ← k.1] at y
    cases hn : i - es.length with
    | zero => rw [hn] at x y; simp at x y; subst x; subst y; exact h
    | succ n => rw [hn] at x; simp at x
theorem EntsR.set {es ES : List MapEntry} (k : EntsR π es ES) (i : Nat) {e E : MapEntry} (h : EntR π e E) : EntsR π (es.set i e) (ES.set i E) := by
  refine ⟨by simp [k.1], fun j a b x y => ?_⟩
  rw [List.getElem?_set] at x y
  split at x
  · next hj =>
    subst hj
    rw [if_pos rfl] at y
    split at x
    · split at y
      · cases x; cases y; exact h
      · cases y
    · cases x
  · next hj => rw [if_neg hj] at y; exact k.2 j a b x y
theorem EntsR.erase {es ES : List MapEntry} (k : EntsR π es ES) (i : Nat) : EntsR π (es.eraseIdx i) (ES.eraseIdx i) := by
  refine ⟨by simp [List.length_eraseIdx, k.1], fun j a b x y => ?_⟩
  rw [List.getElem?_eraseIdx] at x y
  split at x
  · next hj => rw [if_pos hj] at y; exact k.2 _ a b x y
  · next hj => rw [if_neg hj] at y; exact k.2 _ a b x y

theorem findKey_ok (hΓ : CtxOk P Γ) {kt : TypeId} {i : Ty} {kk : KeyK} {k X : Value} (hi : Γ.ty kt = some i) (hk : keyK i = some kk) {es ES : List MapEntry} {r : Option (Nat × Value)}
    (hr : afind P Γ kt kk k es 0 = some r) (hx : VR π k X) (hes : EntsR π es ES) (w : World) :
    ∃ R, (Instr.findKey kt X ES).run P w = .ok R w ∧ (r = none → R = none) ∧ (∀ n v, r = some (n, v) → ∃ V e, R = some (n, V) ∧ VR π v V ∧ es[n]? = some e ∧ e.val = v ∧ keySame P Γ kt kk k e.key = some true) := by
  have ok := hΓ.ty _ _ hi
  -- by looking now
  have now : ∀ (d : TypeDesc), (∀ (y Y : Value) b, keySame P Γ kt kk k y = some b → VR π y Y → Instr.sameNow d X Y = some b) → ∀ (es ES : List MapEntry) (n : Nat) (r : Option (Nat × Value)), afind P Γ kt kk k es n = some r → EntsR π es ES →
      ∃ R, Instr.findNow d X ES n = some R ∧ (r = none → R = none) ∧ (∀ m v, r = some (m, v) → ∃ V e, R = some (m, V) ∧ VR π v V ∧ n ≤ m ∧ es[m - n]? = some e ∧ e.val = v ∧ keySame P Γ kt kk k e.key = some true) := by
    intro d hd es
    induction es with
    | nil =>
      intro ES n r hr hes
      obtain rfl := hes.nil_inv
      simp [afind] at hr; subst hr
      exact ⟨none, rfl, fun _ => rfl, fun m v h => by cases h⟩
    | cons e es ih =>
      intro ES n r hr hes
      obtain ⟨E, ES', rfl, hE, hes'⟩ := hes.cons_inv
      simp only [afind] at hr
      split at hr
      · next hs =>
        cases hr
        refine ⟨some (n, E.val), by simp [Instr.findNow, hd _ _ _ hs hE.1], fun h => (by cases h), fun m v h => ?_⟩
        simp only [Option.some.injEq, Prod.mk.injEq] at h
        obtain ⟨rfl, rfl⟩ := h
        exact ⟨E.val, e, rfl, hE.2.1, Nat.le_refl _, by simp, rfl, hs⟩
      · next hs =>
        obtain ⟨R, h1, h2, h3⟩ := ih ES' (n + 1) r hr hes'
        refine ⟨R, by simp [Instr.findNow, hd _ _ _ hs hE.1, h1], h2, fun m v h => ?_⟩
        obtain ⟨V, e', a, b, c, d', f⟩ := h3 m v h
        refine ⟨V, e', a, b, by omega, ?_, f⟩
        rw [show m - n = (m - (n + 1)) + 1 from by omega, List.getElem?_cons_succ]; exact d'
      · cases hr
  cases kk with
  | int q =>
    have hu : P.underlying kt = some (.int q) := by
      unfold keyK at hk
      split at hk
      · next k' e => cases hk; exact ok.int e
      · cases hk
      · split at hk <;> cases hk
    obtain ⟨R, h1, h2, h3⟩ := now (.int q) (fun y Y b hb hy => by
      obtain ⟨rfl, rfl⟩ := keySame_lit hΓ hb hx hy
      unfold keySame at hb
      split at hb
      · next h => cases h; exact hb
      · next h => cases h
      · next h => cases h
      · cases hb) es ES 0 r hr hes
    refine ⟨R, by simp [Instr.findKey, run_underlying hu, h1], h2, fun n v h => ?_⟩
    obtain ⟨V, e, a, b, _, c, d⟩ := h3 n v h
    exact ⟨V, e, a, b, by simpa using c, d⟩
  | string =>
    have hu : P.underlying kt = some .string := by
      unfold keyK at hk
      split at hk
      · cases hk
      · next e => exact ok.string e
      · split at hk <;> cases hk
    obtain ⟨R, h1, h2, h3⟩ := now .string (fun y Y b hb hy => by
      obtain ⟨rfl, rfl⟩ := keySame_lit hΓ hb hx hy
      unfold keySame at hb
      split at hb
      · next h => cases h
      · exact hb
      · next h => cases h
      · cases hb) es ES 0 r hr hes
    refine ⟨R, by simp [Instr.findKey, run_underlying hu, h1], h2, fun n v h => ?_⟩
    obtain ⟨V, e, a, b, _, c, d⟩ := h3 n v h
    exact ⟨V, e, a, b, by simpa using c, d⟩
  | agg =>
    have hagg : i.k.agg = true := by
      unfold keyK at hk
      split at hk
      · cases hk
      · cases hk
      · split at hk
        · next h => simp only [Bool.and_eq_true] at h; exact h.2
        · cases hk
    obtain ⟨d, hu, hd⟩ := ok.k
    have hnow : ∀ (Y : Value), Instr.sameNow d X Y = none := by
      intro Y
      rw [← hd] at hagg
      cases d <;> simp [kOf, K.agg] at hagg <;> rfl
    have asking : ∀ (es ES : List MapEntry) (n : Nat) (r : Option (Nat × Value)), afind P Γ kt .agg k es n = some r → EntsR π es ES →
        ∃ R, (Instr.findAsking kt X ES n).run P w = .ok R w ∧ (r = none → R = none) ∧ (∀ m v, r = some (m, v) → ∃ V e, R = some (m, V) ∧ VR π v V ∧ n ≤ m ∧ es[m - n]? = some e ∧ e.val = v ∧ keySame P Γ kt .agg k e.key = some true) := by
      intro es
      induction es with
      | nil =>
        intro ES n r hr hes
        obtain rfl := hes.nil_inv
        simp [afind] at hr; subst hr
        exact ⟨none, by simp [Instr.findAsking], fun _ => rfl, fun m v h => by cases h⟩
      | cons e es ih =>
        intro ES n r hr hes
        obtain ⟨E, ES', rfl, hE, hes'⟩ := hes.cons_inv
        have heq : ∀ b, keySame P Γ kt .agg k e.key = some b → (Op.equal kt X E.key).run P w = .ok b w := by
          intro b hb
          have hb' := hb
          unfold keySame at hb
          split at hb
          · next h _ _ => cases h
          · next h _ _ => cases h
          · next xs ys _ _ _ =>
            split at hb
            · next L M h1 h2 =>
              cases hb
              obtain rfl := agg_lit (aLits_ok hΓ h1).2.2.1 hx
              have he := hE.1
              rename_i hek _ _
              first
                | (rw [hek] at he; rw [agg_lit (aLits_ok hΓ h2).2.2.1 he]; exact run_equal_aggs hΓ h1 h2 w)
                | (simp_all; rw [agg_lit (aLits_ok hΓ h2).2.2.1 he]; exact run_equal_aggs hΓ h1 h2 w)
            · cases hb
          · cases hb
        simp only [afind] at hr
        split at hr
        · next hs =>
          cases hr
          refine ⟨some (n, E.val), by simp [Instr.findAsking, heq _ hs], fun h => (by cases h), fun m v h => ?_⟩
          simp only [Option.some.injEq, Prod.mk.injEq] at h
          obtain ⟨rfl, rfl⟩ := h
          exact ⟨E.val, e, rfl, hE.2.1, Nat.le_refl _, by simp, rfl, hs⟩
        · next hs =>
          obtain ⟨R, h1, h2, h3⟩ := ih ES' (n + 1) r hr hes'
          refine ⟨R, by simp [Instr.findAsking, heq _ hs, h1], h2, fun m v h => ?_⟩
          obtain ⟨V, e', a, b, c, d', f⟩ := h3 m v h
          refine ⟨V, e', a, b, by omega, ?_, f⟩
          rw [show m - n = (m - (n + 1)) + 1 from by omega, List.getElem?_cons_succ]; exact d'
        · cases hr
    obtain ⟨R, h1, h2, h3⟩ := asking es ES 0 r hr hes
    refine ⟨R, ?_, h2, fun n v h => ?_⟩
    · cases ES with
      | nil =>
        simp [Instr.findAsking] at h1
        simp [Instr.findKey, run_underlying hu, Instr.findNow, h1]
      | cons E ES =>
        simp [Instr.findKey, run_underlying hu, Instr.findNow, hnow, h1]
    · obtain ⟨V, e, a, b, _, c, d⟩ := h3 n v h
      exact ⟨V, e, a, b, by simpa using c, d⟩

/-! #### looking up, writing, deleting -/
def mapAt (h : AH) (b : Nat) : Option (List MapEntry × Nat) :=
  match h.get b with
  | some (.map es c) => some (es, c)
  | _ => none
theorem mapAt_get {b : Nat} {es : List MapEntry} {c : Nat} (e : mapAt h b = some (es, c)) : h.get b = some (.map es c) := by
  unfold mapAt at e
  split at e
  · next h1 => rw [h1]; simp at e; obtain ⟨rfl, rfl⟩ := e; rfl
  · cases e

def aLookup (P : Program) (Γ : Ctx) (t : TypeId) (m k : Value) (ok : Bool) (h : AH) : Option Value :=
  match Γ.ty t with
  | some i => match i.k with
    | .map kt et => match Γ.ty kt, Γ.ty et with
      | some ik, some ie => match keyK ik with
        | some kk =>
          if keyFine P Γ kt kk k then
            match (match m with | .map none => some [] | .map (some b) => (mapAt h b).map (·.1) | _ => none) with
            | some es => match afind P Γ kt kk k es 0 with
              | some (some (_, v)) => some (if ok then .tuple #[v, .bool true] else v)
              | some none => some (if ok then .tuple #[ie.zero, .bool false] else ie.zero)
              | none => none
            | none => none
          else none
        | none => none
      | _, _ => none
    | _ => none
  | none => none

theorem pairVR {a A : Value} (h : VR π a A) (b : Bool) : VR π (.tuple #[a, .bool b]) (.tuple #[A, .bool b]) := by
  have := VR.tuple' (π := π) (VRL.cons h (VRL.cons (.lit (v := .bool b) rfl) (VRL.nil _)))
  exact this

theorem run_getMap {B : Nat} {ES : Array MapEntry} {c : Nat} (hB : w.heap[B]? = some (.map ES c)) : (getObj B).run P w = .ok (.map ES c) w := by
  simp [getObj, Sem.run, hB]

theorem lookup_ok (hΓ : CtxOk P Γ) (s : Sim w0 π h w) {t : TypeId} {m k M X r : Value} {okf : Bool} (hr : aLookup P Γ t m k okf h = some r) (hm : VR π m M) (hk : VR π k X) :
    ∃ R, (Instr.lookup t M X okf).run P w = .ok R w ∧ VR π r R := by
  unfold aLookup at hr
  split at hr
  case h_2 => cases hr
  next i hi =>
  split at hr
  case h_2 => cases hr
  next kt et hik =>
  have hu := (hΓ.ty _ _ hi).map hik
  split at hr
  case h_2 => cases hr
  next ik ie hkt het =>
  have oke := hΓ.ty _ _ het
  split at hr
  case h_2 => cases hr
  next kk hkk =>
  split at hr
  case isFalse => cases hr
  next hfine =>
  split at hr
  case h_2 => cases hr
  next es hes =>
  -- the entries
  have ents : ∃ ES : Array MapEntry, EntsR π es ES.toList ∧ ((M = .map none ∧ ES = #[]) ∨ ∃ B c, M = .map (some B) ∧ w.heap[B]? = some (.map ES c)) := by
    cases m <;> try (simp at hes; done)
    rename_i b
    cases b with
    | none =>
      simp at hes; subst hes
      obtain rfl := hm.lit_inv rfl
      exact ⟨#[], ⟨rfl, fun i e E a => by simp at a⟩, .inl ⟨rfl, rfl⟩⟩
    | some b =>
      simp only [Option.map_eq_some_iff] at hes
      obtain ⟨⟨es', c⟩, h1, h2⟩ := hes
      simp only at h2; subst h2
      obtain ⟨p, hp, rfl⟩ := hm.map_inv
      obtain ⟨_, ES, hB, hE⟩ := s.blk _ _ _ hp (mapAt_get h1)
      exact ⟨ES, hE, .inr ⟨_, _, rfl, hB⟩⟩
  obtain ⟨ES, hE, hK⟩ := ents
  have hck := checkKey_ok hΓ hkt hkk hfine hk ES.isEmpty w
  have body : ∀ R : Option (Nat × Value), (Instr.findKey kt X ES.toList).run P w = .ok R w → ∀ V, (R = none → V = ie.zero) → (∀ n v, R = some (n, v) → V = v) →
      (Instr.lookup t M X okf).run P w = .ok (if okf then .tuple #[V, .bool R.isSome] else V) w := by
    intro R hR V h1 h2
    rcases hK with ⟨rfl, rfl⟩ | ⟨B, c, rfl, hB⟩
    · simp only [Instr.lookup, Sem.run_bind, run_underlying hu, Result.andThen_ok, Sem.run_pure, hck, hR]
      cases R with
      | none => simp [oke.run_zero, h1 rfl]
      | some q => obtain ⟨n, v⟩ := q; simp [h2 n v rfl]
    · simp only [Instr.lookup, Sem.run_bind, run_underlying hu, Result.andThen_ok, run_getMap hB, Sem.run_pure, hck, hR]
      cases R with
      | none => simp [oke.run_zero, h1 rfl]
      | some q => obtain ⟨n, v⟩ := q; simp [h2 n v rfl]
  split at hr
  · next n v hf =>
    cases hr
    obtain ⟨R, h1, h2, h3⟩ := findKey_ok hΓ hkt hkk hf hk hE w
    obtain ⟨V, e, rfl, hV, _⟩ := h3 n v rfl
    refine ⟨_, body _ h1 V (fun h => by cases h) (fun n' v' h => by cases h; rfl), ?_⟩
    cases okf
    · exact hV
    · exact pairVR hV true
  · next hf =>
    cases hr
    obtain ⟨R, h1, h2, h3⟩ := findKey_ok hΓ hkt hkk hf hk hE w
    obtain rfl := h2 rfl
    refine ⟨_, body _ h1 ie.zero (fun h => rfl) (fun n' v' h => by cases h), ?_⟩
    cases okf
    · exact zeroVR oke
    · exact pairVR (zeroVR oke) false
  · cases hr

end
end
end Go.Abs
