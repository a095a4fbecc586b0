/- A part of the abstract machine: an evaluator of the model's code over an abstract heap, proved sound against the model's walks (Calls, wp). No condition beyond each theorem's own premises. -/
import Derived.Test.YtbimgjagacligaaGreatDoorAbsE
set_option linter.unusedVariables false
set_option linter.unusedSimpArgs false
namespace Go.Abs
open Go Go.RowKit
noncomputable section

/-- what an operation waits for -/
def aft (o : Oper) : List Nat := (o.after.toList.filter (Region.binds .any ·)).map (·.on)

structure Rec where
  i : Nat
  o : Oper
  τ : List Value
  v : Value
  id : Option Nat

abbrev Order := List (Nat × Option (List Nat))

section
variable (P : Program) (Γ : Ctx) (Δ : Ctx2) (call : Caller) (ops : Array Oper)

def reck (h : AH) (r : Rec) : Bool :=
  match r.id with
  | some _ => true
  | none => match aWanted ops r.τ r.o with
    | some false => true
    | some true => match isPR Γ r.o.op with
      | true => match evStep P Γ Δ call r.o r.τ h with
        | some (.next v _) => vSame 30 v r.v
        | _ => false
      | false => false
    | none => false

def evAny : Order → List Rec → List Value → AH → Option (List Value × AH)
  | [], pend, t, h => some (t, h)
  | (i, k) :: rest, pend, t, h =>
    match ops[i]? with
    | none => none
    | some o =>
      match aWanted ops t o with
      | none => none
      | some false => match k with
        | none => evAny rest (⟨i, o, t, undef, none⟩ :: pend) (aput t o.dst undef) h
        | some an => evAny rest (pend.filter fun r => !an.elem r.i) (aput t o.dst undef) h
      | some true => match k with
        | some an => match evStep P Γ Δ call o t h with
          | some (.next v h') => match (pend.filter fun r => !an.elem r.i).all (reck P Γ Δ call ops h') with
            | true => evAny rest (pend.filter fun r => !an.elem r.i) (aput t o.dst v) h'
            | false => none
          | _ => none
        | none => match isPR Γ o.op with
          | true => match evStep P Γ Δ call o t h with
            | some (.next v _) => evAny rest (⟨i, o, t, v, none⟩ :: pend) (aput t o.dst v) h
            | _ => none
          | false => match aNew Γ o.op t with
            | some (blk, mk) => match pend.all (reck P Γ Δ call ops (h.new blk)) with
              | true => evAny rest (⟨i, o, t, mk h.next, some h.next⟩ :: pend) (aput t o.dst (mk h.next)) (h.new blk)
              | false => none
            | none => none
end

section
variable {P : Program} {Γ : Ctx} {Δ : Ctx2} {w0 : World} {NG : Nat} {call : Caller} {ops : Array Oper}

/-! #### what is known of the order beforehand -/
def Closed (ops : Array Oper) (D : Nat → Prop) : Prop := ∀ i o, ops[i]? = some o → D i → ∀ p ∈ aft o, D p
def Anc (ops : Array Oper) (k i : Nat) : Prop := ∀ D, Closed ops D → D i → D k

structure Static (ops : Array Oper) (NG : Nat) : Prop where
  low : ∀ (i : Nat) (o : Oper), ops[i]? = some o → ∀ p ∈ aft o, p < i
  uniq : ∀ (i j : Nat) (oi oj : Oper) (d : Tmp), ops[i]? = some oi → ops[j]? = some oj → oi.dst = some d → oj.dst = some d → i = j
  tri : ∀ (i : Nat) (oi : Oper), ops[i]? = some oi → ∀ s ∈ oi.looksAt ops, ∀ (k : Nat) (ok : Oper), ops[k]? = some ok → ok.dst = some s → k = i ∨ Anc ops k i ∨ Anc ops i k
  gl : ∀ (i : Nat) (o : Oper), ops[i]? = some o → opGl NG o = true

/-- how the order stands to what is done -/
inductive OrderOk (ops : Array Oper) : List Nat → Order → Prop where
  | nil {X : List Nat} (all : ∀ i, i < ops.size → i ∈ X) : OrderOk ops X []
  | eager {X : List Nat} {i : Nat} {rest : Order} (hi : i ∉ X) (hp : ∀ o, ops[i]? = some o → ∀ p ∈ aft o, p ∈ X) (hr : OrderOk ops (i :: X) rest) : OrderOk ops X ((i, none) :: rest)
  | eff {X : List Nat} {i : Nat} {an : List Nat} {rest : Order} (hi : i ∉ X) (hp : ∀ o, ops[i]? = some o → ∀ p ∈ aft o, p ∈ X) (han : ∀ k ∈ an, Anc ops k i)
      (hall : ∀ j o, ops[j]? = some o → j ∈ X ∨ j = i ∨ ∃ p ∈ aft o, p ∉ X) (hr : OrderOk ops (i :: X) rest) : OrderOk ops X ((i, some an) :: rest)

/-! #### slots -/
def SlotIs (ops : Array Oper) (val : Nat → Value) (t0 : List Value) (S : Nat → Prop) (s : Nat) (v : Value) : Prop :=
  (∃ k o, ops[k]? = some o ∧ o.dst = some s ∧ S k ∧ v = val k) ∨ ((∀ k o, ops[k]? = some o → o.dst = some s → ¬ S k) ∧ t0[s]? = some v)

theorem SlotIs.fn (st : Static ops NG) {val : Nat → Value} {t0 : List Value} {S : Nat → Prop} {s : Nat} {v v' : Value} (a : SlotIs ops val t0 S s v) (b : SlotIs ops val t0 S s v') : v = v' := by
  rcases a with ⟨k, o, h1, h2, h3, h4⟩ | ⟨h1, h2⟩ <;> rcases b with ⟨k', o', h1', h2', h3', h4'⟩ | ⟨h1', h2'⟩
  · rw [h4, h4', st.uniq k k' o o' s h1 h1' h2 h2']
  · exact absurd h3 (h1' k o ‹_› ‹_›)
  · exact absurd h3' (h1 k' o' ‹_› ‹_›)
  · rw [h2] at h2'; cases h2'; rfl

theorem SlotIs.iff {val val' : Nat → Value} {t0 : List Value} {S S' : Nat → Prop} {s : Nat} {v : Value} (hS : ∀ k o, ops[k]? = some o → o.dst = some s → (S k ↔ S' k)) (hv : ∀ k, S k → val k = val' k) (a : SlotIs ops val t0 S s v) : SlotIs ops val' t0 S' s v := by
  rcases a with ⟨k, o, h1, h2, h3, h4⟩ | ⟨h1, h2⟩
  · exact .inl ⟨k, o, h1, h2, (hS k o h1 h2).1 h3, by rw [h4, hv k h3]⟩
  · exact .inr ⟨fun k o h3 h4 h5 => h1 k o h3 h4 ((hS k o h3 h4).2 h5), h2⟩

/-- a reader sees the same value wherever it stands -/
theorem read_iff (st : Static ops NG) {S D : Nat → Prop} (cS : Closed ops S) (cD : Closed ops D) {i : Nat} {o : Oper} (ho : ops[i]? = some o) (hS : ¬ S i) (hD : ¬ D i) (pS : ∀ p ∈ aft o, S p) (pD : ∀ p ∈ aft o, D p)
    {s : Nat} (hs : s ∈ o.looksAt ops) : ∀ k ok, ops[k]? = some ok → ok.dst = some s → (S k ↔ D k) := by
  have ins : ∀ {S : Nat → Prop}, Closed ops S → (∀ p ∈ aft o, S p) → Closed ops (fun k => S k ∨ k = i) := by
    intro S cS pS j oj hj hSj p hp
    rcases hSj with h | h
    · exact .inl (cS j oj hj h p hp)
    · subst h; rw [ho] at hj; cases hj; exact .inl (pS p hp)
  intro k ok hk hd
  rcases st.tri i o ho s hs k ok hk hd with rfl | h | h
  · exact ⟨fun x => absurd x hS, fun x => absurd x hD⟩
  · by_cases e : k = i
    · subst e; exact ⟨fun x => absurd x hS, fun x => absurd x hD⟩
    · have a := h _ (ins cS pS) (.inr rfl)
      have b := h _ (ins cD pD) (.inr rfl)
      exact ⟨fun _ => b.resolve_right e, fun _ => a.resolve_right e⟩
  · exact ⟨fun x => absurd (h S cS x) hS, fun x => absurd (h D cD x) hD⟩

/-- one more is done -/
theorem SlotIs.put {val : Nat → Value} {t0 : List Value} {S S' : Nat → Prop} (st : Static ops NG) {i : Nat} {o : Oper} (ho : ops[i]? = some o) (hS' : ∀ k, S' k ↔ S k ∨ k = i) {t : List Value} {s : Nat}
    (ht : t.length = t0.length) {v u : Value} (hu : val i = u) (hsl : ∀ s v, t[s]? = some v → SlotIs ops val t0 S s v) (h : (aput t o.dst u)[s]? = some v) : SlotIs ops val t0 S' s v := by
  cases hd : o.dst with
  | none =>
    rw [hd] at h
    refine SlotIs.iff (fun k ok hk hkd => ?_) (fun _ _ => rfl) (hsl s v h)
    rw [hS']
    refine ⟨.inl, fun x => x.resolve_right ?_⟩
    rintro rfl
    rw [ho] at hk; cases hk
    rw [hd] at hkd; cases hkd
  | some d =>
    rw [hd] at h
    simp only [aput, lset_eq] at h
    rw [List.getElem?_set] at h
    by_cases e : d = s
    · subst e
      rw [if_pos rfl] at h
      split at h
      · cases h
        exact .inl ⟨i, o, ho, hd, (hS' i).2 (.inr rfl), hu.symm⟩
      · cases h
    · rw [if_neg e] at h
      refine SlotIs.iff (fun k ok hk hkd => ?_) (fun _ _ => rfl) (hsl s v h)
      rw [hS']
      refine ⟨.inl, fun x => x.resolve_right ?_⟩
      rintro rfl
      rw [ho] at hk; cases hk
      rw [hd] at hkd; cases hkd
      exact e rfl

@[simp] theorem aput_length (t : List Value) (d : Option Tmp) (v : Value) : (aput t d v).length = t.length := by cases d <;> simp [aput, lset_eq]

/-! #### the invariant -/
def Fact (P : Program) (Γ : Ctx) (Δ : Ctx2) (call : Caller) (ops : Array Oper) (N : Nat) (π : Pi) (h : AH) (r : Rec) : Prop :=
  match r.id with
  | none => (aWanted ops r.τ r.o = some false ∧ r.v = undef) ∨ (aWanted ops r.τ r.o = some true ∧ evStep P Γ Δ call r.o r.τ h = some (.next r.v h))
  | some id => aWanted ops r.τ r.o = some true ∧ π id = none ∧ id < h.next ∧ N ≤ id ∧ ∃ blk mk, aNew Γ r.o.op r.τ = some (blk, mk) ∧ r.v = mk id ∧ h.get id = some blk

structure RecOk (ops : Array Oper) (val : Nat → Value) (t0 : List Value) (X : List Nat) (r : Rec) : Prop where
  op : ops[r.i]? = some r.o
  mem : r.i ∈ X
  v : r.v = val r.i
  len : r.τ.length = t0.length
  read : ∃ S : Nat → Prop, Closed ops S ∧ ¬ S r.i ∧ (∀ p ∈ aft r.o, S p) ∧ (∀ k, S k → k ∈ X) ∧ ∀ s v, r.τ[s]? = some v → SlotIs ops val t0 S s v

/-- the abstract side -/
structure AInv (P : Program) (Γ : Ctx) (Δ : Ctx2) (call : Caller) (ops : Array Oper) (t0 : List Value) (val : Nat → Value) (X : List Nat) (pend : List Rec) (t : List Value) : Prop where
  len : t.length = t0.length
  sl : ∀ s v, t[s]? = some v → SlotIs ops val t0 (· ∈ X) s v
  cl : Closed ops (· ∈ X)
  recs : ∀ r ∈ pend, RecOk ops val t0 X r

/-- both sides -/
structure CInv (P : Program) (Γ : Ctx) (Δ : Ctx2) (call : Caller) (ops : Array Oper) (w0 : World) (t0 : List Value) (π0 : Pi) (h0 : AH) (val : Nat → Value) (X : List Nat) (pend : List Rec) (D : Nat → Prop) (π : Pi) (h : AH) (a : Act) (w : World) : Prop where
  ext : Ext w0 π0 h0 π h w
  size : a.tmps.size = t0.length
  cl : Closed ops D
  sub : ∀ i, D i → i ∈ X
  cover : ∀ i ∈ X, D i ∨ ∃ r ∈ pend, r.i = i
  slots : ∀ s V, a.tmps[s]? = some V → ∃ v, SlotIs ops val t0 D s v ∧ VR π v V
  facts : ∀ r ∈ pend, ¬ D r.i → Fact P Γ Δ call ops h0.next π h r
  ids : ∀ r ∈ pend, ∀ r' ∈ pend, ∀ id, r.id = some id → r'.id = some id → r.i = r'.i
  idlt : ∀ r ∈ pend, ∀ id, r.id = some id → id < h.next

variable {t0 : List Value} {π0 : Pi} {h0 : AH} {val : Nat → Value} {X : List Nat} {pend : List Rec} {D : Nat → Prop} {π : Pi} {h : AH} {a : Act} {w : World} {t : List Value}

theorem reck_ok {r : Rec} (hr : reck P Γ Δ call ops h r = true) (hid : r.id = none) (hv : aWanted ops r.τ r.o = some false → r.v = undef) {N : Nat} : Fact P Γ Δ call ops N π h r := by
  unfold reck at hr
  unfold Fact
  rw [hid] at hr ⊢
  simp only at hr ⊢
  split at hr
  · next hw => exact .inl ⟨hw, hv hw⟩
  · next hw =>
    split at hr
    case h_2 => cases hr
    next hp =>
    split at hr
    · next v h' he =>
      obtain ⟨v', e⟩ := evStep_pr hp he
      cases e
      rw [vSame_eq _ _ _ hr] at he
      exact .inr ⟨hw, he⟩
    · cases hr
  · cases hr

/-- a pending operation reads the same now -/
theorem pend_read (st : Static ops NG) (ai : AInv P Γ Δ call ops t0 val X pend t) (ci : CInv P Γ Δ call ops w0 t0 π0 h0 val X pend D π h a w) {i : Nat} {o : Oper} (ho : ops[i]? = some o) {S : Nat → Prop} (cS : Closed ops S)
    (hS : ¬ S i) (hD : ¬ D i) (pS : ∀ p ∈ aft o, S p) (pD : ∀ p ∈ aft o, D p) {τ : List Value} (hl : τ.length = t0.length) (hτ : ∀ s v, τ[s]? = some v → SlotIs ops val t0 S s v) : ReadR π ops o τ a := by
  intro s hs v hv
  have hlt : s < a.tmps.size := by
    rw [ci.size, ← hl]
    exact (List.getElem?_eq_some_iff.1 hv).1
  obtain ⟨u, h1, h2⟩ := ci.slots s _ (Array.getElem?_eq_getElem hlt)
  have h3 := hτ s v hv
  have h4 := SlotIs.iff (val' := val) (read_iff st cS ci.cl ho hS hD pS pD hs) (fun _ _ => rfl) h3
  rw [SlotIs.fn st h4 h1]
  exact ⟨_, Array.getElem?_eq_getElem hlt, h2⟩

/-- the slots, when one more is done on the real side -/
theorem slots_put (st : Static ops NG) {i : Nat} {o : Oper} (ho : ops[i]? = some o) {D' : Nat → Prop} (hD' : ∀ k, D' k ↔ D k ∨ k = i) {π' : Pi} (hle : PLe π π') {V : Value} (hV : VR π' (val i) V)
    (hs : ∀ s V, a.tmps[s]? = some V → ∃ v, SlotIs ops val t0 D s v ∧ VR π v V) : ∀ s U, (a.put o.dst V).tmps[s]? = some U → ∃ v, SlotIs ops val t0 D' s v ∧ VR π' v U := by
  intro s U hU
  have other : (∀ k ok, ops[k]? = some ok → ok.dst = some s → k ≠ i) → a.tmps[s]? = some U → ∃ v, SlotIs ops val t0 D' s v ∧ VR π' v U := by
    intro hne hU
    obtain ⟨v, x, y⟩ := hs s U hU
    refine ⟨v, SlotIs.iff (fun k ok hk hkd => ?_) (fun _ _ => rfl) x, y.mono hle⟩
    rw [hD']
    exact ⟨.inl, fun z => z.resolve_right (hne k ok hk hkd)⟩
  cases hd : o.dst with
  | none =>
    rw [hd] at hU
    refine other (fun k ok hk hkd e => ?_) hU
    subst e; rw [ho] at hk; cases hk; rw [hd] at hkd; cases hkd
  | some d =>
    rw [hd] at hU
    simp only [Act.put, Array.getElem?_setIfInBounds] at hU
    by_cases e : d = s
    · subst e
      rw [if_pos rfl] at hU
      split at hU
      · cases hU
        exact ⟨val i, .inl ⟨i, o, ho, hd, (hD' i).2 (.inr rfl), rfl⟩, hV⟩
      · cases hU
    · rw [if_neg e] at hU
      refine other (fun k ok hk hkd e' => ?_) hU
      subst e'; rw [ho] at hk; cases hk; rw [hd] at hkd; cases hkd; exact e rfl

@[simp] theorem put_size (a : Act) (dst : Option Tmp) (V : Value) : (a.put dst V).tmps.size = a.tmps.size := by cases dst <;> simp [Act.put]

theorem closed_ins {i : Nat} {o : Oper} (ho : ops[i]? = some o) (c : Closed ops D) (p : ∀ p ∈ aft o, D p) {D' : Nat → Prop} (hD' : ∀ k, D' k ↔ D k ∨ k = i) : Closed ops D' := by
  intro j oj hj hDj q hq
  rw [hD'] at hDj ⊢
  rcases hDj with h | h
  · exact .inl (c j oj hj h q hq)
  · subst h; rw [ho] at hj; cases hj; exact .inl (p q hq)

/-- a pending one is done -/
theorem CInv.done (st : Static ops NG) (ci : CInv P Γ Δ call ops w0 t0 π0 h0 val X pend D π h a w) {i : Nat} {o : Oper} (ho : ops[i]? = some o) (hX : i ∈ X) (pD : ∀ p ∈ aft o, D p) {D' : Nat → Prop} (hD' : ∀ k, D' k ↔ D k ∨ k = i)
    {π' : Pi} {w' : World} {V : Value} (hle : PLe π π') (hx : Ext w0 π0 h0 π' h w') (hV : VR π' (val i) V) (hpi : ∀ r ∈ pend, r.i ≠ i → ∀ id, r.id = some id → π id = none → π' id = none) :
    CInv P Γ Δ call ops w0 t0 π0 h0 val X pend D' π' h (a.put o.dst V) w' where
  ext := hx
  size := by simpa using ci.size
  cl := closed_ins ho ci.cl pD hD'
  sub := fun k hk => by
    rcases (hD' k).1 hk with h | h
    · exact ci.sub k h
    · subst h; exact hX
  cover := fun k hk => (ci.cover k hk).imp (fun h => (hD' k).2 (.inl h)) id
  slots := slots_put st ho hD' hle hV ci.slots
  facts := fun r hr hn => by
    have h1 : ¬ D r.i := fun h => hn ((hD' _).2 (.inl h))
    have h2 : r.i ≠ i := fun h => hn ((hD' _).2 (.inr h))
    have h3 := ci.facts r hr h1
    unfold Fact at h3 ⊢
    cases hid : r.id with
    | none => rw [hid] at h3; exact h3
    | some id =>
      rw [hid] at h3
      obtain ⟨x1, x2, x3⟩ := h3
      exact ⟨x1, hpi r hr h2 id hid x2, x3⟩
  ids := ci.ids
  idlt := ci.idlt

/-- what is read at a fact's place -/
theorem pend_step (hΓ : CtxOk P Γ) (hΔ : Ctx2Ok P Γ Δ) (hc : CallerOk P w0 NG call) (gl0 : Glob NG π0) (st : Static ops NG) (ai : AInv P Γ Δ call ops t0 val X pend t) (ci : CInv P Γ Δ call ops w0 t0 π0 h0 val X pend D π h a w)
    {r : Rec} (hr : r ∈ pend) (hD : ¬ D r.i) (pD : ∀ p ∈ aft r.o, D p) {D' : Nat → Prop} (hD' : ∀ k, D' k ↔ D k ∨ k = r.i) {Q : Exit → Act → World → Prop} {K : Act → World → Prop}
    (hK : ∀ π' a' w', CInv P Γ Δ call ops w0 t0 π0 h0 val X pend D' π' h a' w' → a'.defers = a.defers → K a' w') : wpOp P ops Q r.i K a w := by
  obtain ⟨op, mem, hv, hl, S, cS, hS, pS, hSX, hτ⟩ := ai.recs r hr
  have rd := pend_read st ai ci op cS hS hD pS pD hl hτ
  have gl := gl0.mono ci.ext.le
  have f := ci.facts r hr hD
  unfold wpOp
  simp only [op]
  unfold Fact at f
  cases hid : r.id with
  | none =>
    rw [hid] at f
    rcases f with ⟨f1, f2⟩ | ⟨f1, f2⟩
    · rw [wanted_ok rd f1]
      simp only [Bool.false_eq_true, if_false]
      exact hK π _ w (ci.done st op mem pD hD' (PLe.refl _) ci.ext (by rw [← hv, f2]; exact undefVR) (fun _ _ _ _ _ h => h)) (by simp)
    · rw [wanted_ok rd f1]
      simp only [if_true]
      left
      refine evStep_ok hΓ hΔ hc ci.ext.sim gl (st.gl _ _ op) rd f2 ?_
      intro π' V w' hV hx
      refine hK π' _ w' (ci.done st op mem pD hD' hx.le (ci.ext.trans hx) (by rw [← hv]; exact hV) ?_) (by simp)
      intro r' hr' _ id hid' hn
      exact (hx.pend id (ci.idlt r' hr' id hid') hn).1
  | some id =>
    rw [hid] at f
    obtain ⟨f1, f2, f3, f4, blk, mk, f5, f6, f7⟩ := f
    rw [wanted_ok rd f1]
    simp only [if_true]
    left
    obtain ⟨p, V, w', e, x, y⟩ := late_ok (P := P) hΓ ci.ext.sim (ρ := a.eval) (rd.operands gl (st.gl _ _ op)) f5 f2 f3 f7
    unfold Oper.wp
    rw [e]
    refine hK _ _ w' (ci.done st op mem pD hD' (PLe.add p f2) ⟨ci.ext.le.trans (PLe.add p f2), y, ci.ext.next, ?_⟩ (by rw [← hv, f6]; exact x) ?_) (by simp)
    · intro b hb hn
      obtain ⟨z1, z2⟩ := ci.ext.pend b hb hn
      exact ⟨by rw [Pi.add_ne _ _ (by omega)]; exact z1, z2⟩
    · intro r' hr' hne id' hid' hn
      rw [Pi.add_ne]
      · exact hn
      · rintro rfl
        exact hne (ci.ids r' hr' r hr _ hid' hid)
end
end
end Go.Abs
