/- A part of the abstract machine: an evaluator of the model's code over an abstract heap, proved sound against the model's walks (Calls, wp). No condition beyond each theorem's own premises. -/
import Derived.Test.YtbimgjagacligaaGreatDoorAbsF
import Derived.StillTail
set_option linter.unusedVariables false
set_option linter.unusedSimpArgs false
namespace Go.Abs
open Go Go.RowKit
noncomputable section

section
variable {P : Program} {Γ : Ctx} {Δ : Ctx2} {w0 : World} {NG : Nat} {call : Caller} {ops : Array Oper}
variable {t0 : List Value} {π0 : Pi} {h0 : AH} {val : Nat → Value} {X : List Nat} {pend : List Rec} {D : Nat → Prop} {π : Pi} {h : AH} {a : Act} {w : World} {t : List Value}

def vset (val : Nat → Value) (i : Nat) (v : Value) : Nat → Value := fun k => if k = i then v else val k
theorem vset_same (val : Nat → Value) (i : Nat) (v : Value) : vset val i v i = v := by simp [vset]
theorem vset_ne (val : Nat → Value) {i k : Nat} (v : Value) (h : k ≠ i) : vset val i v k = val k := by simp [vset, h]
theorem vset_in {i : Nat} (hi : i ∉ X) (v : Value) : ∀ k, k ∈ X → val k = vset val i v k := fun k hk => by
  rw [vset_ne]; rintro rfl; exact hi hk

theorem RecOk.next {i : Nat} (hi : i ∉ X) (v : Value) {r : Rec} (r' : RecOk ops val t0 X r) : RecOk ops (vset val i v) t0 (i :: X) r := by
  obtain ⟨op, mem, hv, hl, S, cS, hS, pS, hSX, hτ⟩ := r'
  refine ⟨op, by simp [mem], ?_, hl, S, cS, hS, pS, fun k hk => by simp [hSX k hk], fun s u hu => ?_⟩
  · rw [hv]; exact vset_in hi v _ mem
  · exact SlotIs.iff (fun _ _ _ _ => Iff.rfl) (fun k hk => vset_in hi v k (hSX k hk)) (hτ s u hu)

theorem AInv.next (st : Static ops NG) (ai : AInv P Γ Δ call ops t0 val X pend t) {i : Nat} {o : Oper} (ho : ops[i]? = some o) (hi : i ∉ X) (hp : ∀ p ∈ aft o, p ∈ X) (v : Value) {pend' : List Rec}
    (hr : ∀ r ∈ pend', r ∈ pend ∨ (r.i = i ∧ r.o = o ∧ r.τ = t ∧ r.v = v)) : AInv P Γ Δ call ops t0 (vset val i v) (i :: X) pend' (aput t o.dst v) where
  len := by simpa using ai.len
  sl := fun s u hu => by
    have h1 : ∀ s u, t[s]? = some u → SlotIs ops (vset val i v) t0 (· ∈ X) s u := fun s u h => SlotIs.iff (fun _ _ _ _ => Iff.rfl) (vset_in hi v) (ai.sl s u h)
    exact SlotIs.put (S := (· ∈ X)) st ho (fun k => by simp [or_comm]) ai.len (vset_same val i v) h1 hu
  cl := closed_ins (D := (· ∈ X)) ho ai.cl hp (fun k => by simp [or_comm])
  recs := fun r h => by
    rcases hr r h with h | ⟨h1, h2, h3, h4⟩
    · exact (ai.recs r h).next hi v
    · refine ⟨by rw [h1, h2]; exact ho, by simp [h1], by rw [h1, vset_same]; exact h4, by rw [h3]; exact ai.len, (· ∈ X), ai.cl, by rw [h1]; exact hi, by rw [h2]; exact hp, fun k hk => by simp [hk], ?_⟩
      intro s u hu
      rw [h3] at hu
      exact SlotIs.iff (fun _ _ _ _ => Iff.rfl) (vset_in hi v) (ai.sl s u hu)

theorem Sim.newPend (s : Sim w0 π h w) (o : AO) : Sim w0 π (h.new o) w := by
  have hn : π h.next = none := s.fresh _ (Nat.le_refl _)
  have key : ∀ b p x, π b = some p → (h.new o).get b = some x → h.get b = some x := by
    intro b p x hp hx
    rw [AH.get_new] at hx
    split at hx
    · next e => subst e; rw [hn] at hp; cases hp
    · exact hx
  exact ⟨s.below, fun b hb => s.fresh b (by simp at hb; omega), fun b p x hp hx => s.blk b p x hp (key b p x hp hx), fun b b' p p' x x' hp hp' hx hx' => s.sep b b' p p' x x' hp hp' (key _ _ _ hp hx) (key _ _ _ hp' hx')⟩

/-- an eager one goes onto the list of the pending -/
theorem CInv.push (ci : CInv P Γ Δ call ops w0 t0 π0 h0 val X pend D π h a w) {i : Nat} (hi : i ∉ X) (v : Value) {h' : AH} {r : Rec} (hri : r.i = i)
    (hext : Ext w0 π0 h0 π h' w) (hf : Fact P Γ Δ call ops h0.next π h' r) (hold : ∀ r ∈ pend, ¬ D r.i → Fact P Γ Δ call ops h0.next π h' r) (hnext : h.next ≤ h'.next) (hid : ∀ id, r.id = some id → id = h.next ∧ id < h'.next) :
    CInv P Γ Δ call ops w0 t0 π0 h0 (vset val i v) (i :: X) (r :: pend) D π h' a w where
  ext := hext
  size := ci.size
  cl := ci.cl
  sub := fun k hk => by simp [ci.sub k hk]
  cover := fun k hk => by
    rcases List.mem_cons.1 hk with rfl | hk
    · exact .inr ⟨r, by simp, hri⟩
    · exact (ci.cover k hk).imp id (fun ⟨r', x, y⟩ => ⟨r', by simp [x], y⟩)
  slots := fun s V hV => by
    obtain ⟨u, x, y⟩ := ci.slots s V hV
    exact ⟨u, SlotIs.iff (fun _ _ _ _ => Iff.rfl) (fun k hk => vset_in hi v k (ci.sub k hk)) x, y⟩
  facts := fun r' hr' hn => by
    rcases List.mem_cons.1 hr' with rfl | hr'
    · exact hf
    · exact hold r' hr' hn
  ids := fun r1 h1 r2 h2 id e1 e2 => by
    rcases List.mem_cons.1 h1 with g1 | g1 <;> rcases List.mem_cons.1 h2 with g2 | g2
    · rw [g1, g2]
    · have := ci.idlt r2 g2 id e2
      have := (hid id (by rw [← g1]; exact e1)).1
      omega
    · have := ci.idlt r1 g1 id e1
      have := (hid id (by rw [← g2]; exact e2)).1
      omega
    · exact ci.ids r1 g1 r2 g2 id e1 e2
  idlt := fun r1 h1 id e1 => by
    rcases List.mem_cons.1 h1 with rfl | h1
    · exact (hid id e1).2
    · exact Nat.lt_of_lt_of_le (ci.idlt r1 h1 id e1) hnext

theorem Fact.undef {r : Rec} {N : Nat} {π : Pi} {h : AH} (f : Fact P Γ Δ call ops N π h r) (hid : r.id = none) : aWanted ops r.τ r.o = some false → r.v = undef := by
  intro e
  unfold Fact at f
  rw [hid] at f
  rcases f with ⟨_, x⟩ | ⟨x, _⟩
  · exact x
  · rw [e] at x; cases x

theorem advance1 (st : Static ops NG) (ai : AInv P Γ Δ call ops t0 val X pend t) (ci : CInv P Γ Δ call ops w0 t0 π0 h0 val X pend D π h a w) {i : Nat} {rest : Order} {res : List Value × AH}
    (hi : i ∉ X) (hp : ∀ o, ops[i]? = some o → ∀ p ∈ aft o, p ∈ X) (he : evAny P Γ Δ call ops ((i, none) :: rest) pend t h = some res) :
    ∃ val' pend' t' h', evAny P Γ Δ call ops rest pend' t' h' = some res ∧ AInv P Γ Δ call ops t0 val' (i :: X) pend' t' ∧ CInv P Γ Δ call ops w0 t0 π0 h0 val' (i :: X) pend' D π h' a w := by
  simp only [evAny] at he
  split at he
  case h_1 => cases he
  next o ho =>
  have hp' := hp o ho
  split at he
  case h_1 => cases he
  · next hw =>
    refine ⟨_, _, _, _, he, ai.next st ho hi hp' undef (fun r hr => ?_), ci.push (r := ⟨i, o, t, undef, none⟩) hi undef rfl ci.ext (.inl ⟨hw, rfl⟩) ci.facts (Nat.le_refl _) (fun id e => by cases e)⟩
    rcases List.mem_cons.1 hr with rfl | hr
    · exact .inr ⟨rfl, rfl, rfl, rfl⟩
    · exact .inl hr
  · next hw =>
    split at he
    · next hpr =>
      split at he
      case h_2 => cases he
      next v h' hs =>
      obtain ⟨v', e⟩ := evStep_pr hpr hs
      cases e
      refine ⟨_, _, _, _, he, ai.next st ho hi hp' v (fun r hr => ?_), ci.push (r := ⟨i, o, t, v, none⟩) hi v rfl ci.ext (.inr ⟨hw, hs⟩) ci.facts (Nat.le_refl _) (fun id e => by cases e)⟩
      rcases List.mem_cons.1 hr with rfl | hr
      · exact .inr ⟨rfl, rfl, rfl, rfl⟩
      · exact .inl hr
    · next hpr =>
      split at he
      case h_2 => cases he
      next blk mk hn =>
      split at he
      case h_2 => cases he
      next hall =>
      have hN := ci.ext.next
      refine ⟨_, _, _, _, he, ai.next st ho hi hp' (mk h.next) (fun r hr => ?_), ci.push (r := ⟨i, o, t, mk h.next, some h.next⟩) hi (mk h.next) rfl ?_ ?_ ?_ (Nat.le_succ _) (fun id e => by cases e; exact ⟨rfl, Nat.lt_succ_self _⟩)⟩
      · rcases List.mem_cons.1 hr with rfl | hr
        · exact .inr ⟨rfl, rfl, rfl, rfl⟩
        · exact .inl hr
      · refine ⟨ci.ext.le, ci.ext.sim.newPend blk, Nat.le_succ_of_le hN, fun b hb hb' => ?_⟩
        obtain ⟨x, y⟩ := ci.ext.pend b hb hb'
        refine ⟨x, ?_⟩
        rw [AH.get_new, if_neg (by omega)]
        exact y
      · exact ⟨hw, ci.ext.sim.fresh _ (Nat.le_refl _), Nat.lt_succ_self _, hN, blk, mk, hn, rfl, by rw [AH.get_new, if_pos rfl]⟩
      · intro r hr hnD
        have f := ci.facts r hr hnD
        have hrk := List.all_eq_true.1 hall r hr
        cases hid : r.id with
        | none => exact reck_ok hrk hid (f.undef hid)
        | some id =>
          unfold Fact at f ⊢
          rw [hid] at f ⊢
          obtain ⟨f1, f2, f3, f4, blk', mk', f5, f6, f7⟩ := f
          exact ⟨f1, f2, Nat.lt_succ_of_lt f3, f4, blk', mk', f5, f6, by rw [AH.get_new, if_neg (by omega)]; exact f7⟩

theorem advance (st : Static ops NG) {res : List Value × AH} : ∀ (order : Order) {val : Nat → Value} {X : List Nat} {pend : List Rec} {t : List Value} {h : AH}, OrderOk ops X order → AInv P Γ Δ call ops t0 val X pend t →
    CInv P Γ Δ call ops w0 t0 π0 h0 val X pend D π h a w → evAny P Γ Δ call ops order pend t h = some res →
    ∃ order' val' X' pend' t' h', OrderOk ops X' order' ∧ AInv P Γ Δ call ops t0 val' X' pend' t' ∧ CInv P Γ Δ call ops w0 t0 π0 h0 val' X' pend' D π h' a w ∧ evAny P Γ Δ call ops order' pend' t' h' = some res ∧
      (order' = [] ∨ ∃ e an rest, order' = (e, some an) :: rest)
  | [], val, X, pend, t, h, ok, ai, ci, he => ⟨_, _, _, _, _, _, ok, ai, ci, he, .inl rfl⟩
  | (i, some an) :: rest, val, X, pend, t, h, ok, ai, ci, he => ⟨_, _, _, _, _, _, ok, ai, ci, he, .inr ⟨_, _, _, rfl⟩⟩
  | (i, none) :: rest, val, X, pend, t, h, ok, ai, ci, he => by
    cases ok with
    | eager hi hp hr =>
      obtain ⟨val', pend', t', h', x, y, z⟩ := advance1 st ai ci hi hp he
      exact advance st rest hr y z x

/-- an operation with an effect is done -/
theorem CInv.eff (st : Static ops NG) (ci : CInv P Γ Δ call ops w0 t0 π0 h0 val X pend D π h a w) {i : Nat} {o : Oper} (ho : ops[i]? = some o) (hi : i ∉ X) (pD : ∀ p ∈ aft o, D p) {an : List Nat} (han : ∀ k ∈ an, Anc ops k i)
    {D' : Nat → Prop} (hD' : ∀ k, D' k ↔ D k ∨ k = i) {π' : Pi} {h' : AH} {w' : World} {v V : Value} (hx : Ext w0 π h π' h' w') (hV : VR π' v V)
    (hf : ∀ r ∈ pend.filter (fun r => !an.elem r.i), ¬ D r.i → r.id = none → Fact P Γ Δ call ops h0.next π' h' r) :
    CInv P Γ Δ call ops w0 t0 π0 h0 (vset val i v) (i :: X) (pend.filter fun r => !an.elem r.i) D' π' h' (a.put o.dst V) w' where
  ext := ci.ext.trans hx
  size := by simpa using ci.size
  cl := closed_ins ho ci.cl pD hD'
  sub := fun k hk => by
    rcases (hD' k).1 hk with h | h
    · simp [ci.sub k h]
    · simp [h]
  cover := fun k hk => by
    rcases List.mem_cons.1 hk with rfl | hk
    · exact .inl ((hD' _).2 (.inr rfl))
    · rcases ci.cover k hk with h | ⟨r, x, y⟩
      · exact .inl ((hD' _).2 (.inl h))
      · by_cases e : k ∈ an
        · exact .inl (han k e D' (closed_ins ho ci.cl pD hD') ((hD' _).2 (.inr rfl)))
        · exact .inr ⟨r, List.mem_filter.2 ⟨x, by simp [y, e]⟩, y⟩
  slots := by
    refine slots_put st ho hD' hx.le (by rw [vset_same]; exact hV) ?_
    intro s V hV
    obtain ⟨u, x, y⟩ := ci.slots s V hV
    exact ⟨u, SlotIs.iff (fun _ _ _ _ => Iff.rfl) (fun k hk => vset_in hi v k (ci.sub k hk)) x, y⟩
  facts := fun r hr hn => by
    have h1 : ¬ D r.i := fun h => hn ((hD' _).2 (.inl h))
    have hr' := (List.mem_filter.1 hr).1
    cases hid : r.id with
    | none => exact hf r hr h1 hid
    | some id =>
      have f := ci.facts r hr' h1
      unfold Fact at f ⊢
      rw [hid] at f ⊢
      obtain ⟨f1, f2, f3, f4, blk', mk', f5, f6, f7⟩ := f
      obtain ⟨x, y⟩ := hx.pend id f3 f2
      exact ⟨f1, x, Nat.lt_of_lt_of_le f3 hx.next, f4, blk', mk', f5, f6, y.trans f7⟩
  ids := fun r1 h1 r2 h2 => ci.ids r1 (List.mem_filter.1 h1).1 r2 (List.mem_filter.1 h2).1
  idlt := fun r1 h1 id e1 => Nat.lt_of_lt_of_le (ci.idlt r1 (List.mem_filter.1 h1).1 id e1) hx.next

theorem eff_step (hΓ : CtxOk P Γ) (hΔ : Ctx2Ok P Γ Δ) (hc : CallerOk P w0 NG call) (gl0 : Glob NG π0) (st : Static ops NG) (ai : AInv P Γ Δ call ops t0 val X pend t) (ci : CInv P Γ Δ call ops w0 t0 π0 h0 val X pend D π h a w)
    {i : Nat} {o : Oper} (ho : ops[i]? = some o) {an : List Nat} {rest : Order} {res : List Value × AH} (hi : i ∉ X) (hp : ∀ p ∈ aft o, p ∈ X) (han : ∀ k ∈ an, Anc ops k i)
    (he : evAny P Γ Δ call ops ((i, some an) :: rest) pend t h = some res) (hD : ¬ D i) (pD : ∀ p ∈ aft o, D p) {D' : Nat → Prop} (hD' : ∀ k, D' k ↔ D k ∨ k = i) {Q : Exit → Act → World → Prop} {K : Act → World → Prop}
    (hK : ∀ val' pend' t' h' π' a' w', evAny P Γ Δ call ops rest pend' t' h' = some res → AInv P Γ Δ call ops t0 val' (i :: X) pend' t' → CInv P Γ Δ call ops w0 t0 π0 h0 val' (i :: X) pend' D' π' h' a' w' → a'.defers = a.defers → K a' w') :
    wpOp P ops Q i K a w := by
  simp only [evAny, ho] at he
  have rd := pend_read st ai ci ho ai.cl hi hD hp pD ai.len ai.sl
  have gl := gl0.mono ci.ext.le
  have sub : ∀ (v : Value), ∀ r ∈ pend.filter (fun r => !an.elem r.i), r ∈ pend ∨ (r.i = i ∧ r.o = o ∧ r.τ = t ∧ r.v = v) := fun v r hr => .inl (List.mem_filter.1 hr).1
  unfold wpOp
  simp only [ho]
  split at he
  case h_1 => cases he
  · next hw =>
    rw [wanted_ok rd hw]
    simp only [Bool.false_eq_true, if_false]
    exact hK _ _ _ _ π _ w he (ai.next st ho hi hp undef (sub undef)) (ci.eff st ho hi pD han hD' (Ext.refl ci.ext.sim) undefVR (fun r hr hn _ => ci.facts r (List.mem_filter.1 hr).1 hn)) (by simp)
  · next hw =>
    rw [wanted_ok rd hw]
    simp only [if_true]
    left
    split at he
    case h_2 => cases he
    next v h' hs =>
    split at he
    case h_2 => cases he
    next hall =>
    refine evStep_ok hΓ hΔ hc ci.ext.sim gl (st.gl _ _ ho) rd hs ?_
    intro π' V w' hV hx
    refine hK _ _ _ _ π' _ w' he (ai.next st ho hi hp v (sub v)) (ci.eff st ho hi pD han hD' hx hV ?_) (by simp)
    intro r hr hn hid
    have f := ci.facts r (List.mem_filter.1 hr).1 hn
    exact reck_ok (List.all_eq_true.1 hall r hr) hid (f.undef hid)

/-! #### listing -/
def Ld (listed : Array Bool) (i : Nat) : Prop := listed.getD i false = true
theorem Ld_set {listed : Array Bool} {i : Nat} (hi : i < listed.size) (k : Nat) : Ld (listed.setIfInBounds i true) k ↔ Ld listed k ∨ k = i := by
  unfold Ld
  by_cases e : i = k
  · subst e; simp [hi]
  · rw [getD_set_ne false e]
    exact ⟨.inl, fun x => x.resolve_right (Ne.symm e)⟩

theorem ready_nil (st : Static ops NG) {listed : Array Bool} (hsz : listed.size = ops.size) (hr : Region.ready .any ops listed = []) : ∀ i, i < ops.size → Ld listed i := by
  intro i
  induction i using Nat.strongRecOn with
  | _ i ih =>
    intro hi
    have ho := Array.getElem?_eq_getElem hi
    cases hl : listed.getD i false with
    | true => exact hl
    | false =>
      exfalso
      have : i ∈ Region.ready .any ops listed := by
        rw [mem_ready]
        refine ⟨?_, _, ho, fun e he hb => ?_⟩
        · have : i < listed.size := by omega
          simp [this] at hl ⊢; exact hl
        · have hm : e.on ∈ aft ops[i] := by
            unfold aft
            rw [List.mem_map]
            exact ⟨e, List.mem_filter.2 ⟨by simpa using he, hb⟩, rfl⟩
          have hlt := st.low i _ ho _ hm
          exact ih e.on hlt (by omega)
      rw [hr] at this; cases this

theorem countP_lt {p q : Nat → Bool} (hqp : ∀ k, q k = true → p k = true) {i : Nat} (hp : p i = true) (hq : q i = false) : ∀ l : List Nat, i ∈ l → l.countP q < l.countP p
  | [], h => by cases h
  | k :: l, h => by
    have mono : l.countP q ≤ l.countP p := List.countP_mono_left (fun k _ => hqp k)
    rcases List.mem_cons.1 h with rfl | h
    · simp [List.countP_cons, hp, hq]; omega
    · have := countP_lt hqp hp hq l h
      simp only [List.countP_cons]
      cases hqk : q k with
      | false => simp; split <;> omega
      | true => simp [hqp k hqk]; omega

def left (ops : Array Oper) (listed : Array Bool) : Nat := (List.range ops.size).countP fun i => !listed.getD i false

theorem final (st : Static ops NG) (ai : AInv P Γ Δ call ops t0 val X pend t) (ci : CInv P Γ Δ call ops w0 t0 π0 h0 val X pend D π h a w) {order : Order} (ok : OrderOk ops X order) {tF : List Value} {hF : AH}
    (he : evAny P Γ Δ call ops order pend t h = some (tF, hF)) (hall : ∀ i, i < ops.size → D i) : ∃ π', VRL π' tF a.tmps.toList ∧ Ext w0 π0 h0 π' hF w := by
  obtain ⟨order', val', X', pend', t', h', ok', ai', ci', he', hor⟩ := advance st order ok ai ci he
  rcases hor with rfl | ⟨e, an, rest, rfl⟩
  · simp only [evAny, Option.some.injEq, Prod.mk.injEq] at he'
    obtain ⟨rfl, rfl⟩ := he'
    refine ⟨π, ⟨by rw [ai'.len, ← ci'.size]; simp, ?_⟩, ci'.ext⟩
    intro s v V hv hV
    obtain ⟨u, x, y⟩ := ci'.slots s V (by simpa using hV)
    have hb := ai'.sl s v hv
    have : SlotIs ops val' t0 D s v := by
      refine SlotIs.iff (fun k ok hk _ => ?_) (fun _ _ => rfl) hb
      have hlt := (Array.getElem?_eq_some_iff.1 hk).1
      cases ok' with
      | nil all => exact ⟨fun _ => hall k hlt, fun _ => all k hlt⟩
    rw [SlotIs.fn st this x]
    exact y
  · exfalso
    simp only [evAny] at he'
    split at he'
    · cases he'
    next o ho =>
    have hlt := (Array.getElem?_eq_some_iff.1 ho).1
    cases ok' with
    | eff hi _ _ _ _ => exact hi (ci'.sub e (hall e hlt))

theorem any_ok (hΓ : CtxOk P Γ) (hΔ : Ctx2Ok P Γ Δ) (hc : CallerOk P w0 NG call) (gl0 : Glob NG π0) (st : Static ops NG) {tF : List Value} {hF : AH} {ds : List Deferred} {Q : Exit → Act → World → Prop}
    (hQ : ∀ π' a' w', VRL π' tF a'.tmps.toList → Ext w0 π0 h0 π' hF w' → a'.defers = ds → Q .normal a' w') :
    ∀ (fuel : Nat) (listed : Array Bool) {a : Act} {w : World} {π : Pi} {order : Order} {X : List Nat} {pend : List Rec} {t : List Value} {h : AH} {val : Nat → Value}, listed.size = ops.size → left ops listed ≤ fuel → OrderOk ops X order →
    AInv P Γ Δ call ops t0 val X pend t → CInv P Γ Δ call ops w0 t0 π0 h0 val X pend (Ld listed) π h a w → evAny P Γ Δ call ops order pend t h = some (tF, hF) → a.defers = ds → wpAny P .any ops Q fuel listed a w := by
  intro fuel
  induction fuel with
  | zero =>
    intro listed a w π order X pend t h val hsz hcnt ok ai ci he hds
    have hall : ∀ i, i < ops.size → Ld listed i := by
      intro i hi
      have h0 : (List.range ops.size).countP (fun i => !listed.getD i false) = 0 := Nat.le_zero.1 hcnt
      rw [List.countP_eq_zero] at h0
      have := h0 i (List.mem_range.2 hi)
      simpa [Ld] using this
    obtain ⟨π', x, y⟩ := final st ai ci ok he hall
    refine ⟨?_, hQ π' a w x y hds⟩
    cases hr : Region.ready .any ops listed with
    | nil => rfl
    | cons i l =>
      have hi : i ∈ Region.ready .any ops listed := by rw [hr]; simp
      obtain ⟨h1, o, ho, _⟩ := mem_ready.1 hi
      have := hall i (Array.getElem?_eq_some_iff.1 ho).1
      unfold Ld at this
      rw [getD_both h1] at this
      cases this
  | succ fuel ih =>
    intro listed a w π order X pend t h val hsz hcnt ok ai ci he hds
    refine ⟨fun hr => ?_, fun i hi => ?_⟩
    · obtain ⟨π', x, y⟩ := final st ai ci ok he (ready_nil st hsz hr)
      exact hQ π' a w x y hds
    · obtain ⟨h1, o, ho, hall⟩ := mem_ready.1 hi
      have hlt := (Array.getElem?_eq_some_iff.1 ho).1
      have hD : ¬ Ld listed i := by
        unfold Ld; rw [getD_both h1]; simp
      have pD : ∀ p ∈ aft o, Ld listed p := by
        intro p hp
        unfold aft at hp
        rw [List.mem_map] at hp
        obtain ⟨e, he, rfl⟩ := hp
        obtain ⟨x, y⟩ := List.mem_filter.1 he
        exact hall e (by simpa using x) y
      have hD' := Ld_set (listed := listed) (i := i) (by omega)
      have hsz' : (listed.setIfInBounds i true).size = ops.size := by simpa using hsz
      have hcnt' : left ops (listed.setIfInBounds i true) ≤ fuel := by
        have : left ops (listed.setIfInBounds i true) < left ops listed := by
          refine countP_lt (i := i) ?_ ?_ ?_ _ (List.mem_range.2 hlt)
          · intro k hk
            simp only [Bool.not_eq_true', Bool.not_eq_eq_eq_not, Bool.not_true] at hk ⊢
            cases hl : listed.getD k false with
            | false => rfl
            | true => rw [(hD' k).2 (.inl hl)] at hk; cases hk
          · simp only [Bool.not_eq_true', Bool.not_eq_eq_eq_not, Bool.not_true]
            exact getD_both h1
          · simp only [Bool.not_eq_false', Bool.not_eq_eq_eq_not, Bool.not_false]
            exact (hD' i).2 (.inr rfl)
        omega
      obtain ⟨order', val', X', pend', t', h', ok', ai', ci', he', hor⟩ := advance st order ok ai ci he
      by_cases hX : i ∈ X'
      · rcases ci'.cover i hX with hx | ⟨r, hr, rfl⟩
        · exact absurd hx hD
        · have hro : r.o = o := by
            have := (ai'.recs r hr).op
            rw [ho] at this; cases this; rfl
          refine pend_step hΓ hΔ hc gl0 st ai' ci' hr hD (by rw [hro]; exact pD) hD' ?_
          intro π'' a'' w'' ci'' hd
          exact ih _ hsz' hcnt' ok' ai' ci'' he' (hd.trans hds)
      · rcases hor with rfl | ⟨e, an, rest, rfl⟩
        · cases ok' with
          | nil all => exact absurd (all i hlt) hX
        · cases ok' with
          | eff hi' hp' han hall' hr' =>
            have hie : i = e := by
              rcases hall' i o ho with h | h | ⟨p, hp, hpX⟩
              · exact absurd h hX
              · exact h
              · exact absurd (ci'.sub p (pD p hp)) hpX
            subst hie
            refine eff_step hΓ hΔ hc gl0 st ai' ci' ho hX (hp' o ho) han he' hD pD hD' ?_
            intro val'' pend'' t'' h'' π'' a'' w'' he'' ai'' ci'' hd
            exact ih _ hsz' hcnt' hr' ai'' ci'' he'' (hd.trans hds)

/-- a drawn region -/
theorem drawn_ok (hΓ : CtxOk P Γ) (hΔ : Ctx2Ok P Γ Δ) (hc : CallerOk P w0 NG call) (st : Static ops NG) {order : Order} (ok : OrderOk ops [] order) {π : Pi} {h : AH} {w : World} {a : Act} {t tF : List Value} {hF : AH} {ds : List ADef}
    (s : Sim w0 π h w) (gl : Glob NG π) (ar : ActR π t ds a) (he : evAny P Γ Δ call ops order [] t h = some (tF, hF)) {id : Nat} {Q : Exit → Act → World → Prop}
    (hQ : ∀ π' a' w', ActR π' tF ds a' → Ext w0 π h π' hF w' → Q .normal a' w') : (Code.region id ops true).wp P Q a w := by
  refine wp_region_any hΓ.mixed ?_
  have hl : ∀ i, ¬ Ld (Array.replicate ops.size false) i := by
    intro i; unfold Ld; rw [getD_replicate_false]; simp
  have hx : Ext w0 π h π h { w with drawn := w.drawn + 1 } := ⟨PLe.refl _, s.drew, Nat.le_refl _, fun _ _ e => ⟨e, rfl⟩⟩
  refine any_ok (val := fun _ => undef) (X := []) (pend := []) (t := t) (t0 := t) (π0 := π) (h0 := h) (ds := a.defers) hΓ hΔ hc gl st (tF := tF) (hF := hF) ?_ ops.size _ (by simp) ?_ ok ⟨rfl, fun s v hv => .inr ⟨fun k o _ _ h => (by cases h), hv⟩, fun i o _ h => (by cases h), fun r hr => (by cases hr)⟩
    ⟨hx, ?_, fun i o _ h => absurd h (hl i), fun i h => absurd h (hl i), fun i hi => (by cases hi), ?_, fun r hr => (by cases hr), fun r hr => (by cases hr), fun r hr => (by cases hr)⟩ he rfl
  · intro π' a' w' hv hx hd
    exact hQ π' a' w' ⟨hv, by rw [hd]; exact ar.defs.mono hx.le⟩ hx
  · unfold left
    have := List.countP_le_length (p := fun i => !(Array.replicate ops.size false).getD i false) (l := List.range ops.size)
    simpa using this
  · have := ar.tmps.1; simpa using this.symm
  · intro s V hV
    have hlt : s < t.length := by
      rw [ar.tmps.1]
      have := (Array.getElem?_eq_some_iff.1 hV).1
      simpa using this
    exact ⟨t[s], .inr ⟨fun k o _ _ h => absurd h (hl k), List.getElem?_eq_getElem hlt⟩, ar.tmps.2 s _ V (List.getElem?_eq_getElem hlt) (by simpa using hV)⟩
end
end
end Go.Abs
