/- A part of the abstract machine: an evaluator of the model's code over an abstract heap, proved sound against the model's walks (Calls, wp). No condition beyond each theorem's own premises. -/
import Derived.Test.YtbimgjagacligaaGreatDoorAbsY
import Derived.Scope
set_option linter.unusedVariables false
set_option linter.unusedSimpArgs false
namespace Go.Abs
open Go Go.RowKit
noncomputable section

structure Plan where
  order : Order
  anc : List (List Nat)

/-! #### the tests of a region, made once -/
section
variable (NG : Nat) (ops : Array Oper) (A : List (List Nat))

def ancAt (i : Nat) : List Nat := (A[i]?).getD []

def okLow : Bool := (List.range ops.size).all fun i => match ops[i]? with
  | some o => (aft o).all fun p => Nat.blt p i
  | none => true
def okAnc : Bool := (List.range ops.size).all fun i => (ancAt A i).all fun k => match ops[i]? with
  | some o => (aft o).elem k || (aft o).any fun m => (ancAt A m).elem k
  | none => false
def okDst : Bool := (List.range ops.size).all fun i => match ops[i]? with
  | some oi => match oi.dst with
    | some d => (List.range i).all fun j => match ops[j]? with
      | some oj => match oj.dst with
        | some e => !Nat.beq d e
        | none => true
      | none => true
    | none => true
  | none => true
def okTri : Bool := (List.range ops.size).all fun i => match ops[i]? with
  | some oi => (List.range ops.size).all fun k => match ops[k]? with
    | some ok => match ok.dst with
      | some s => !(oi.looksAt ops).elem s || Nat.beq k i || (ancAt A i).elem k || (ancAt A k).elem i
      | none => true
    | none => true
  | none => true
def okGl : Bool := ops.toList.all (opGl NG ·)
def okOrder : List Nat → Order → Bool
  | X, [] => (List.range ops.size).all fun i => X.elem i
  | X, (i, k) :: rest => !X.elem i && (match ops[i]? with
      | some o => (aft o).all fun p => X.elem p
      | none => true) && (match k with
      | none => true
      | some an => an.all (fun k => (ancAt A i).elem k) && (List.range ops.size).all fun j => X.elem j || Nat.beq j i || match ops[j]? with
        | some oj => (aft oj).any fun p => !X.elem p
        | none => true) && okOrder (i :: X) rest
def okRegion (p : Plan) : Bool := okGl NG ops && okLow ops && okAnc ops p.anc && okDst ops && okTri ops p.anc && okOrder ops p.anc [] p.order
end

section
variable {NG : Nat} {ops : Array Oper} {A : List (List Nat)}
theorem lt_of_some {i : Nat} {o : Oper} (h : ops[i]? = some o) : i < ops.size := (Array.getElem?_eq_some_iff.1 h).1

theorem okLow_ok (h : okLow ops = true) : ∀ (i : Nat) (o : Oper), ops[i]? = some o → ∀ p ∈ aft o, p < i := by
  intro i o ho p hp
  have := List.all_eq_true.1 h i (List.mem_range.2 (lt_of_some ho))
  simp only [ho] at this
  have := List.all_eq_true.1 this p hp
  simpa using this

theorem okAnc_ok (hl : okLow ops = true) (h : okAnc ops A = true) : ∀ (i : Nat), i < ops.size → ∀ k ∈ ancAt A i, Anc ops k i := by
  intro i
  induction i using Nat.strongRecOn with
  | _ i ih =>
    intro hi k hk D hD hDi
    have h1 := List.all_eq_true.1 h i (List.mem_range.2 hi)
    have h2 := List.all_eq_true.1 h1 k hk
    have ho := Array.getElem?_eq_getElem hi
    simp only [ho, Bool.or_eq_true] at h2
    rcases h2 with h2 | h2
    · exact hD i _ ho hDi k (by simpa using h2)
    · obtain ⟨m, hm, hmk⟩ := List.any_eq_true.1 h2
      have hlt := okLow_ok hl i _ ho m hm
      exact ih m hlt (by omega) k (by simpa using hmk) D hD (hD i _ ho hDi m hm)

theorem okStatic (hg : okGl NG ops = true) (hl : okLow ops = true) (ha : okAnc ops A = true) (hd : okDst ops = true) (ht : okTri ops A = true) : Static ops NG where
  low := okLow_ok hl
  uniq := by
    have key : ∀ (i j : Nat) (oi oj : Oper) (d : Tmp), ops[i]? = some oi → ops[j]? = some oj → oi.dst = some d → oj.dst = some d → ¬ j < i := by
      intro i j oi oj d hi hj h1 h2 hlt
      have := List.all_eq_true.1 hd i (List.mem_range.2 (lt_of_some hi))
      simp only [hi, h1] at this
      have := List.all_eq_true.1 this j (List.mem_range.2 hlt)
      simp only [hj, h2] at this
      simp at this
    intro i j oi oj d hi hj h1 h2
    have a := key i j oi oj d hi hj h1 h2
    have b := key j i oj oi d hj hi h2 h1
    omega
  tri := by
    intro i oi hi s hs k ok hk hkd
    have := List.all_eq_true.1 ht i (List.mem_range.2 (lt_of_some hi))
    simp only [hi] at this
    have := List.all_eq_true.1 this k (List.mem_range.2 (lt_of_some hk))
    simp only [hk, hkd, Bool.or_eq_true] at this
    rcases this with ((h | h) | h) | h
    · simp at h; exact absurd hs h
    · left; simpa using h
    · exact .inr (.inl (okAnc_ok hl ha i (lt_of_some hi) k (by simpa using h)))
    · exact .inr (.inr (okAnc_ok hl ha k (lt_of_some hk) i (by simpa using h)))
  gl := by
    intro i o ho
    exact List.all_eq_true.1 hg o (List.mem_of_getElem? (i := i) (by simpa using ho))

theorem okOrder_ok (hl : okLow ops = true) (ha : okAnc ops A = true) : ∀ (order : Order) (X : List Nat), (∀ i k, (i, k) ∈ order → i < ops.size) → okOrder ops A X order = true → OrderOk ops X order
  | [], X, _, h => by
    refine .nil fun i hi => ?_
    have := List.all_eq_true.1 h i (List.mem_range.2 hi)
    simpa using this
  | (i, k) :: rest, X, hlt, h => by
    simp only [okOrder, Bool.and_eq_true] at h
    obtain ⟨⟨⟨h1, h2⟩, h3⟩, h4⟩ := h
    have hi : i ∉ X := by simpa using h1
    have hp : ∀ o, ops[i]? = some o → ∀ p ∈ aft o, p ∈ X := by
      intro o ho p hp
      simp only [ho] at h2
      have := List.all_eq_true.1 h2 p hp
      simpa using this
    have hr := okOrder_ok hl ha rest (i :: X) (fun i k hik => hlt i k (by simp [hik])) h4
    cases k with
    | none => exact .eager hi hp hr
    | some an =>
      simp only [Bool.and_eq_true] at h3
      refine .eff hi hp (fun k hk => ?_) (fun j o hj => ?_) hr
      · have := List.all_eq_true.1 h3.1 k hk
        exact okAnc_ok hl ha i (hlt i (some an) (by simp)) k (by simpa using this)
      · have := List.all_eq_true.1 h3.2 j (List.mem_range.2 (lt_of_some hj))
        simp only [hj, Bool.or_eq_true] at this
        rcases this with (h | h) | h
        · left; simpa using h
        · right; left; simpa using h
        · right; right
          obtain ⟨p, hp, hpX⟩ := List.any_eq_true.1 h
          exact ⟨p, hp, by simpa using hpX⟩
end

/-! #### code -/
inductive Out where
  | normal | exit (id : Nat) | ret | panic (v : Value)

def okIdx (ops : Array Oper) (order : Order) : Bool := order.all fun q => Nat.blt q.1 ops.size

def codeOk (NG : Nat) (pl : Nat → Option Plan) : Code → Bool
  | .region id ops false => okGl NG ops
  | .region id ops true => match pl id with
    | some p => okRegion NG ops p && okIdx ops p.order
    | none => true
  | .seq x y | .cond _ x y => codeOk NG pl x && codeOk NG pl y
  | .block _ x | .loop x | .scope x => codeOk NG pl x
  | _ => true

/-- code that may stand in a round -/
def plainBody : Code → Bool
  | .region _ ops false => ops.toList.all fun o => !isDefer o.op
  | .seq x y | .cond _ x y => plainBody x && plainBody y
  | .block _ x | .loop x => plainBody x
  | .skip | .label _ | .exit _ | .ret => true
  | _ => false

def evCode (P : Program) (Γ : Ctx) (Δ : Ctx2) (me : Nat) (pl : Nat → Option Plan) (call : Caller) (rnd : Rounder) : Nat → Code → St → Option (Out × St)
  | 0, _, _ => none
  | n + 1, c, σ =>
    match c with
    | .skip => some (.normal, σ)
    | .label _ => some (.normal, σ)
    | .region id ops draw => match draw with
      | false => match evSeqY P Γ Δ call rnd ops ops.toList σ with
        | some (none, σ') => some (.normal, σ')
        | some (some v, σ') => some (.panic v, σ')
        | none => none
      | true => match pl id with
        | some p => match evAny P Γ Δ call ops p.order [] σ.t σ.h with
          | some (t, h) => some (.normal, ⟨t, σ.ds, h⟩)
          | none => none
        | none => none
    | .seq x y => match evCode P Γ Δ me pl call rnd n x σ with
      | some (.normal, σ') => evCode P Γ Δ me pl call rnd n y σ'
      | some (o, σ') => some (o, σ')
      | none => none
    | .cond c x y => match aeval σ.t c with
      | some (.bool true) => evCode P Γ Δ me pl call rnd n x σ
      | some (.bool false) => evCode P Γ Δ me pl call rnd n y σ
      | _ => none
    | .block id x => match evCode P Γ Δ me pl call rnd n x σ with
      | some (.exit id', σ') => match Nat.beq id' id with
        | true => some (.normal, σ')
        | false => some (.exit id', σ')
      | some (o, σ') => some (o, σ')
      | none => none
    | .loop x => match evCode P Γ Δ me pl call rnd n x σ with
      | some (.normal, σ') => evCode P Γ Δ me pl call rnd n (.loop x) σ'
      | some (o, σ') => some (o, σ')
      | none => none
    | .exit id => some (.exit id, σ)
    | .ret => some (.ret, σ)
    | .scope x => evCode P Γ Δ me pl call rnd n x σ
    | .rangeFunc g ps assign body => match aeval σ.t g with
      | some (.func (.func gf) first cap) => match Γ.fn gf with
        | some G => match G.body with
          | some _ => match call gf ((first.toList ++ [.func (.yield (σ.h.next + 1)) #[] #[]]) ++ cap.toList) ((σ.h.new .defd).new (.loop ⟨.ready, none, me, σ.t, ps, assign, body, σ.h.next⟩)) with
            | some (.ret _ h2) => match h2.get (σ.h.next + 1) with
              | some (.loop L) => match L.state with
                | .busy => none
                | _ => match L.pending with
                  | none => some (.normal, ⟨σ.t, ⟨.yield σ.h.next, [], []⟩ :: σ.ds, h2.put (σ.h.next + 1) none⟩)
                  | some .ret => some (.ret, ⟨σ.t, ⟨.yield σ.h.next, [], []⟩ :: σ.ds, h2.put (σ.h.next + 1) none⟩)
                  | some (.exit id) => some (.exit id, ⟨σ.t, ⟨.yield σ.h.next, [], []⟩ :: σ.ds, h2.put (σ.h.next + 1) none⟩)
                  | _ => none
              | _ => none
            | _ => none
          | none => none
        | none => none
      | _ => none
    | _ => none

def Out.toQ (π : Pi) (Q : Exit → Act → World → Prop) (a : Act) (w : World) : Out → Prop
  | .normal => Q .normal a w
  | .exit id => Q (.exit id) a w
  | .ret => Q .ret a w
  | .panic v => ∀ V, VR π v V → Q (.panic (one V)) a w

section
variable {P : Program} {Γ : Ctx} {Δ : Ctx2} {w0 : World} {NG : Nat} {call : Caller} {rnd : Rounder}

theorem invoke_fn (hΓ : CtxOk P Γ) (hΔ : Ctx2Ok P Γ Δ) {f : FuncId} {F : Func} {c : Code} (hF : Γ.fn f = some F) (hb : F.body = some c) (C A : Array Value) (w : World) : (invoke (.fn (.func f) C) A).run P w = .ok (.enter f (A ++ C)) w := by
  have h1 := hΓ.fn _ _ hF
  have h2 := hΔ.fnName _ _ hF
  show (callFunc f (A ++ C)).run P w = _
  unfold callFunc
  simp only [Sem.run_bind, run_program, Result.andThen_ok, h1]
  rw [if_neg (by rw [h2]; simp), if_neg (by rw [hb]; simp)]
  rfl

/-- within a loop -/
def wpL (F : Fence) (n : Nat) (P : Program) (x : Code) (Q : Exit → Act → World → Prop) (a : Act) (w : World) : Prop :=
  ∀ (b : Frame) (k : List Item) (cs : List Frame), b.roundOf = F.round → F.fn b.fn → F.room (cs.length + 1 + n) →
    ∃ e a' w', Q e a' w' ∧ ArrivesIn (Machine.fenced P F) P (lone (b.atR a (.code x :: .inLoop x :: k)) cs w) b k cs e a' w'
theorem wpIn_of_L {F : Fence} {n : Nat} {x : Code} {Q : Exit → Act → World → Prop} {a : Act} {w : World} (h : wpL F n P x Q a w) : (Code.loop x).wpIn F n P Q a w := fun b k cs hro hb hr => by
  obtain ⟨e, a', w', hq, harr⟩ := h b k cs hro hb hr
  exact ⟨e, a', w', hq, .of_steps (.one (fenced_calm hb hr rfl) stepR_loop) harr⟩
theorem wpL_step {F : Fence} {n : Nat} {x : Code} {Q : Exit → Act → World → Prop} {a : Act} {w : World} (h : x.wpIn F n P (Exit.then (fun a w => wpL F n P x Q a w) Q) a w) : wpL F n P x Q a w := by
  intro b k cs hro hb hr
  obtain ⟨e, a₁, w₁, hq, harr⟩ := h b (.inLoop x :: k) cs hro hb hr
  cases e with
  | normal =>
    obtain ⟨e₂, a₂, w₂, hq₂, harr₂⟩ := hq b k cs hro hb hr
    exact ⟨e₂, a₂, w₂, hq₂, .of_steps (StepsIn.trans harr (.one (fenced_calm hb hr rfl) stepR_inLoop)) harr₂⟩
  | exit id => exact ⟨_, a₁, w₁, hq, .pass (x := .inLoop x) rfl (fun _ _ => .inl (by simp)) harr⟩
  | goto l => exact ⟨_, a₁, w₁, hq, .pass (x := .inLoop x) rfl (fun _ _ => .inl (by simp)) harr⟩
  | ret => exact ⟨_, a₁, w₁, hq, .pass (x := .inLoop x) rfl (fun _ _ => .inl (by simp)) harr⟩
  | panic ch => exact ⟨_, a₁, w₁, hq, .pass (x := .inLoop x) rfl (fun _ _ => .inl (by simp)) harr⟩
  | outgrown => exact ⟨_, a₁, w₁, hq, .pass (x := .inLoop x) rfl (fun _ _ => .inl (by simp)) harr⟩

def wpG (F : Fence) (n : Nat) (P : Program) (c : Code) (Q : Exit → Act → World → Prop) (a : Act) (w : World) : Prop :=
  match c with
  | .loop x => wpL F n P x Q a w
  | c => c.wpIn F n P Q a w
theorem wpG_wp {F : Fence} {n : Nat} {c : Code} {Q : Exit → Act → World → Prop} {a : Act} {w : World} (h : wpG F n P c Q a w) : c.wpIn F n P Q a w := by
  cases c <;> first | exact h | exact wpIn_of_L h

theorem cond_eval {π : Pi} {t : List Value} {a : Act} {c : Operand} {b : Bool} (ht : VRL π t a.tmps.toList) (h : aeval t c = some (.bool b)) : a.eval c = .bool b := by
  cases c with
  | tmp s =>
    simp only [aeval, lget_eq] at h
    obtain ⟨V, x, y⟩ := ht.get h
    obtain rfl := y.lit_inv rfl
    simp only [Act.eval]
    rw [Array.getD_eq_getD_getElem?]
    have : a.tmps[s]? = some (.bool b) := by simpa using x
    rw [this]; rfl
  | const v =>
    simp only [aeval, lget_eq] at h
    split at h
    · cases h; rfl
    · cases h
  | global g => simp [aeval] at h
  | func f => simp [aeval] at h

theorem func_eval {π : Pi} {t : List Value} {a : Act} {c : Operand} {fn : Fn} {xs ys : Array Value} (ht : VRL π t a.tmps.toList) (h : aeval t c = some (.func fn xs ys)) : VR π (.func fn xs ys) (a.eval c) := by
  cases c with
  | tmp s =>
    simp only [aeval, lget_eq] at h
    obtain ⟨V, x, y⟩ := ht.get h
    simp only [Act.eval]
    rw [Array.getD_eq_getD_getElem?]
    have : a.tmps[s]? = some V := by simpa using x
    rw [this]; exact y
  | const v =>
    simp only [aeval, lget_eq] at h
    split at h
    · next hc => cases h; exact VR.const 20 _ hc
    · cases h
  | global g => simp [aeval] at h
  | func f =>
    simp only [aeval, Option.some.injEq] at h
    rw [← h]
    exact VR.const 20 _ rfl

/-- the loop's record is turned -/
theorem Sim.turn {π : Pi} {h : AH} {w : World} (s : Sim w0 π h w) {b : Nat} {p : Spot} (hp : π b = some p) {L : ALoop} (hg : h.get b = some (.loop L)) :
    ∃ fn T D, w.heap[p.B]? = some (.loop { state := L.state, pending := L.pending, fn := fn, tmps := T, params := L.params, assign := L.assign, body := L.body, defers := D }) ∧ VRL π L.t T.toList ∧
      ∀ st pd, Ext w0 π h π (h.put b (some (.loop { L with state := st, pending := pd }))) (w.putObj p.B (.loop { state := st, pending := pd, fn := fn, tmps := T, params := L.params, assign := L.assign, body := L.body, defers := D })) := by
  obtain ⟨hN, fn, T, D, hB, hT⟩ := s.blk b p _ hp hg
  refine ⟨fn, T, D, hB, hT, fun st pd => ?_⟩
  have hlt := (Array.getElem?_eq_some_iff.1 hB).1
  refine s.upd hp hg rfl (Below.putRow s.below hN _) (fun k hk => World.putObj_heap_other hk) ⟨hN, fn, T, D, World.putObj_heap_same hlt, hT⟩

theorem Sim.drop {π : Pi} {h : AH} {w : World} (s : Sim w0 π h w) {b : Nat} {p : Spot} {o : AO} {w' : World} (hp : π b = some p) (ho : h.get b = some o) (hr : o.ro = false)
    (hbel : Below w0.heap.size w0 w') (hw : ∀ k, k ≠ p.B → w'.heap[k]? = w.heap[k]?) : Ext w0 π h π (h.put b none) w' := by
  refine ⟨PLe.refl _, ⟨hbel, s.fresh, ?_, (s.kill b).sep⟩, Nat.le_refl _, ?_⟩
  · intro k q x hk hx
    rw [AH.get_put] at hx
    split at hx
    · cases hx
    · next e =>
      refine (s.blk k q x hk hx).congr (hw _ fun e' => ?_)
      have := (s.sep b k p q o x hp hk ho hx e e'.symm).1
      rw [hr] at this; cases this
  · intro k _ e
    refine ⟨e, ?_⟩
    rw [AH.get_put, if_neg]
    intro e'; subst e'; rw [hp] at e; cases e

theorem evCode_ok (hΓ : CtxOk P Γ) (hΔ : Ctx2Ok P Γ Δ) (hc : CallerOk P w0 NG call) (hr : RoundOk P w0 NG rnd) {me : Nat} {pl : Nat → Option Plan} {F : Fence} (hF : At F) {N : Nat} : ∀ (n : Nat) (c : Code) {π : Pi} {w : World} {a : Act} {σ σ' : St} {out : Out} {Q : Exit → Act → World → Prop},
    codeOk NG pl c = true → (F = Fence.wide ∨ plainBody c = true) → Sim w0 π σ.h w → Glob NG π → ActR π σ.t σ.ds a → evCode P Γ Δ me pl call rnd n c σ = some (out, σ') →
    (∀ π' a' w', ActR π' σ'.t σ'.ds a' → Ext w0 π σ.h π' σ'.h w' → out.toQ π' Q a' w') → wpG F N P c Q a w
  | 0, c, π, w, a, σ, σ', out, Q, ok, pb, s, gl, ar, he, hQ => by simp [evCode] at he
  | n + 1, c, π, w, a, σ, σ', out, Q, ok, pb, s, gl, ar, he, hQ => by
    have ih := fun (c : Code) {π : Pi} {w : World} {a : Act} {σ σ' : St} {out : Out} {Q : Exit → Act → World → Prop} => evCode_ok hΓ hΔ hc hr (me := me) (pl := pl) hF (N := N) n c (π := π) (w := w) (a := a) (σ := σ) (σ' := σ') (out := out) (Q := Q)
    cases c with
    | skip =>
      simp only [evCode, Option.some.injEq, Prod.mk.injEq] at he
      obtain ⟨rfl, rfl⟩ := he
      exact wpIn_skip (hQ π a w ar (Ext.refl s))
    | label l =>
      simp only [evCode, Option.some.injEq, Prod.mk.injEq] at he
      obtain ⟨rfl, rfl⟩ := he
      exact wpIn_label (hQ π a w ar (Ext.refl s))
    | exit id =>
      simp only [evCode, Option.some.injEq, Prod.mk.injEq] at he
      obtain ⟨rfl, rfl⟩ := he
      exact wpIn_exit (hQ π a w ar (Ext.refl s))
    | ret =>
      simp only [evCode, Option.some.injEq, Prod.mk.injEq] at he
      obtain ⟨rfl, rfl⟩ := he
      exact wpIn_ret (hQ π a w ar (Ext.refl s))
    | region id ops draw =>
      cases draw with
      | false =>
        simp only [evCode] at he
        simp only [codeOk, okGl] at ok
        have gl' : ∀ o ∈ ops.toList, opGl NG o = true := List.all_eq_true.1 ok
        have nd : F = Fence.wide ∨ ∀ o ∈ ops.toList, isDefer o.op = false := pb.imp (fun h => h) fun h o ho => by
          have := List.all_eq_true.1 h o ho
          simpa using this
        refine wpIn_region ?_
        rw [List.range_eq_range', ← Array.length_toList]
        split at he
        · next σ1 h1 =>
          cases he
          exact evSeqY_ok hΓ hΔ hc hr hF ops.toList 0 (fun j => by simp) gl' nd s gl ar h1 (fun π' a' w' x y => hQ π' a' w' x y)
        · next v σ1 h1 =>
          cases he
          exact evSeqY_ok hΓ hΔ hc hr hF ops.toList 0 (fun j => by simp) gl' nd s gl ar h1 (fun π' a' w' x y => hQ π' a' w' x y)
        · cases he
      | true =>
        obtain rfl : F = Fence.wide := pb.resolve_right (by simp [plainBody])
        simp only [evCode] at he
        simp only [codeOk] at ok
        split at he
        case h_2 => cases he
        next p hp =>
        rw [hp] at ok
        simp only [okRegion, okIdx, Bool.and_eq_true] at ok
        obtain ⟨⟨⟨⟨⟨⟨hg, hl⟩, ha⟩, hd⟩, ht⟩, ho⟩, hx⟩ := ok
        split at he
        case h_2 => cases he
        next t h h1 =>
        cases he
        refine wpIn_wide.2 ?_
        exact drawn_ok hΓ hΔ hc (okStatic hg hl ha hd ht) (okOrder_ok hl ha p.order [] (fun i k hik => by have := List.all_eq_true.1 hx _ hik; simpa using this) ho) s gl ar h1 (fun π' a' w' x y => hQ π' a' w' x y)
    | seq x y =>
      simp only [evCode] at he
      simp only [codeOk, Bool.and_eq_true] at ok
      have pb' : (F = Fence.wide ∨ plainBody x = true) ∧ (F = Fence.wide ∨ plainBody y = true) := by
        rcases pb with h | h
        · exact ⟨.inl h, .inl h⟩
        · simp only [plainBody, Bool.and_eq_true] at h; exact ⟨.inr h.1, .inr h.2⟩
      refine wpIn_seq (wpG_wp ?_)
      split at he
      · next σ1 h1 =>
        refine ih x ok.1 pb'.1 s gl ar h1 fun π' a' w' x1 y1 => ?_
        exact wpG_wp (ih y ok.2 pb'.2 y1.sim (gl.mono y1.le) x1 he fun π'' a'' w'' x2 y2 => hQ π'' a'' w'' x2 (y1.trans y2))
      · next o σ1 hne h1 =>
        cases he
        refine ih x ok.1 pb'.1 s gl ar h1 fun π' a' w' x1 y1 => ?_
        have := hQ π' a' w' x1 y1
        cases out with
        | normal => exact (hne rfl).elim
        | exit id => exact this
        | ret => exact this
        | panic v => exact this
      · cases he
    | cond c x y =>
      simp only [evCode] at he
      simp only [codeOk, Bool.and_eq_true] at ok
      have pb' : (F = Fence.wide ∨ plainBody x = true) ∧ (F = Fence.wide ∨ plainBody y = true) := by
        rcases pb with h | h
        · exact ⟨.inl h, .inl h⟩
        · simp only [plainBody, Bool.and_eq_true] at h; exact ⟨.inr h.1, .inr h.2⟩
      split at he
      · next h1 => exact wpIn_cond_true (cond_eval ar.tmps h1) (wpG_wp (ih x ok.1 pb'.1 s gl ar he hQ))
      · next h1 => exact wpIn_cond_false (cond_eval ar.tmps h1) (wpG_wp (ih y ok.2 pb'.2 s gl ar he hQ))
      · cases he
    | block id x =>
      simp only [evCode] at he
      simp only [codeOk] at ok
      have pb' : F = Fence.wide ∨ plainBody x = true := pb
      refine wpIn_block (wpG_wp ?_)
      split at he
      · next id' σ1 h1 =>
        split at he
        · next hid =>
          cases he
          have hid' : id' = id := Nat.eq_of_beq_eq_true hid
          refine ih x ok pb' s gl ar h1 fun π' a' w' x1 y1 => ?_
          have := hQ π' a' w' x1 y1
          simp only [Out.toQ, Exit.inBlock, hid', if_true]
          exact this
        · next hid =>
          cases he
          have hid' : ¬ id' = id := Nat.ne_of_beq_eq_false hid
          refine ih x ok pb' s gl ar h1 fun π' a' w' x1 y1 => ?_
          have := hQ π' a' w' x1 y1
          simp only [Out.toQ, Exit.inBlock, hid', if_false]
          exact this
      · next o σ1 hne h1 =>
        cases he
        refine ih x ok pb' s gl ar h1 fun π' a' w' x1 y1 => ?_
        have := hQ π' a' w' x1 y1
        cases out with
        | normal => exact this
        | exit id => exact (hne _ rfl).elim
        | ret => exact this
        | panic v => exact this
      · cases he
    | loop x =>
      simp only [evCode] at he
      have ok' := ok
      have pb0 := pb
      simp only [codeOk] at ok
      have pb' : F = Fence.wide ∨ plainBody x = true := pb
      show wpL F N P x Q a w
      refine wpL_step (wpG_wp ?_)
      split at he
      · next σ1 h1 =>
        refine ih x ok pb' s gl ar h1 fun π' a' w' x1 y1 => ?_
        exact ih (.loop x) ok' pb0 y1.sim (gl.mono y1.le) x1 he fun π'' a'' w'' x2 y2 => hQ π'' a'' w'' x2 (y1.trans y2)
      · next o σ1 hne h1 =>
        cases he
        refine ih x ok pb' s gl ar h1 fun π' a' w' x1 y1 => ?_
        have := hQ π' a' w' x1 y1
        cases out with
        | normal => exact (hne rfl).elim
        | exit id => exact this
        | ret => exact this
        | panic v => exact this
      · cases he
    | scope x =>
      obtain rfl : F = Fence.wide := pb.resolve_right (by simp [plainBody])
      simp only [evCode] at he
      simp only [codeOk] at ok
      refine wpIn_wide.2 (wp_scope_straight (wpIn_wide.1 (wpG_wp (n := N) ?_)))
      refine ih x ok (.inl rfl) s gl ar he fun π' a' w' x1 y1 => ?_
      have := hQ π' a' w' x1 y1
      cases out with
      | normal => exact this
      | exit id => exact this
      | ret => exact this
      | panic v => exact this
    | rangeFunc g ps assign body =>
      obtain rfl : F = Fence.wide := pb.resolve_right (by simp [plainBody])
      simp only [evCode] at he
      split at he
      case h_2 => cases he
      next gf first cap hg =>
      split at he
      case h_2 => cases he
      next G hG =>
      split at he
      case h_2 => cases he
      next gb hgb =>
      split at he
      case h_2 => cases he
      next v h2 hcall =>
      split at he
      case h_2 => cases he
      next L hL =>
      have hv := func_eval ar.tmps hg
      obtain ⟨first', cap', eg, _, hfi, hca⟩ := hv.func_inv rfl
      refine wpIn_rangeFunc ?_
      intro fn _
      obtain ⟨rec, hrec⟩ : ∃ rec : Loop, rec = { state := .ready, pending := none, fn := fn, tmps := a.tmps, params := ps, assign := assign, body := body, defers := w.heap.size } := ⟨_, rfl⟩
      have x1 := s.alloc (o := .defd) (O := .deferred (some [])) (sz := 0) (esz := 0) (fun π' hle => ⟨s.below.size, by rw [heap_alloc, if_pos rfl]⟩)
      have x2 := x1.sim.alloc (o := .loop ⟨.ready, none, me, σ.t, ps, assign, body, σ.h.next⟩) (O := .loop rec) (sz := 0) (esz := 0) (fun π' hle => ⟨x1.sim.below.size, fn, a.tmps, w.heap.size, by rw [heap_alloc, if_pos rfl, hrec], ar.tmps.mono' (x1.le.trans hle)⟩)
      have x12 := x1.trans x2
      have hsz : (w.alloc (.deferred (some []))).heap.size = w.heap.size + 1 := by simp
      have hl : (π.add σ.h.next ⟨w.heap.size, 0, 0, 0⟩ |>.add (σ.h.new .defd).next ⟨(w.alloc (.deferred (some []))).heap.size, 0, 0, 0⟩) (σ.h.next + 1) = some ⟨w.heap.size + 1, 0, 0, 0⟩ := by
        rw [hsz]; exact Pi.add_same _ _ _
      have hdd : (π.add σ.h.next ⟨w.heap.size, 0, 0, 0⟩ |>.add (σ.h.new .defd).next ⟨(w.alloc (.deferred (some []))).heap.size, 0, 0, 0⟩) σ.h.next = some ⟨w.heap.size, 0, 0, 0⟩ := by
        rw [Pi.add_ne _ _ (by simp)]; exact Pi.add_same _ _ _
      have hA : VRL (π.add σ.h.next ⟨w.heap.size, 0, 0, 0⟩ |>.add (σ.h.new .defd).next ⟨(w.alloc (.deferred (some []))).heap.size, 0, 0, 0⟩) ((first.toList ++ [Value.func (.yield (σ.h.next + 1)) #[] #[]]) ++ cap.toList) ((first' ++ #[Value.func (.yield (w.heap.size + 1)) #[] #[]]) ++ cap').toList := by
        rw [Array.toList_append, Array.toList_append]
        refine ((hfi.mono' x12.le).append ?_).append (hca.mono' x12.le)
        exact VRL.cons (.yld hl) (VRL.nil _)
      subst hrec
      have hcl := hc _ _ _ _ hcall _ _ _ x2.sim (gl.mono x12.le) hA
      refine ⟨w.heap.size + 1, [{ target := .collected w.heap.size, args := #[] }], _, { target := .fn (.func gf) cap', args := first' ++ #[Value.func (.yield (w.heap.size + 1)) #[] #[]] }, _, gf, (first' ++ #[Value.func (.yield (w.heap.size + 1)) #[] #[]]) ++ cap', _,
        run_enterLoop_outer fn a.tmps ps assign body, ?_, fun _ _ => trivial, invoke_fn hΓ hΔ hG hgb _ _ _, fun e => (by cases e), callsIn_wide.2 (Calls.mono hcl ?_)⟩
      · simp only [resolve, eg]
        simp [Deferred.ofValue, Act.eval]
      · rintro e w3 ⟨π3, V, rfl, hV, y⟩
        have hl3 := y.le _ _ hl
        have hd3 := y.le _ _ hdd
        obtain ⟨fn', T', D', hB, hT, hturn⟩ := y.sim.turn hl3 hL
        have hbusy : L.state ≠ .busy := by
          intro e; rw [e] at he; cases he
        have z := y.sim.drop (w' := w3.putObj (w.heap.size + 1) (.loop { state := .exhausted, pending := L.pending, fn := fn', tmps := T', params := L.params, assign := L.assign, body := L.body, defers := D' })) hl3 hL rfl (Below.putRow y.sim.below (y.sim.blk _ _ _ hl3 hL).1 _) (fun k hk => World.putObj_heap_other hk)
        refine ⟨L.pending, _, run_endLoop hB hbusy, ?_⟩
        have full := (x12.trans y).trans z
        have ar' : ActR π3 σ.t (⟨.yield σ.h.next, [], []⟩ :: σ.ds) { a with defers := [{ target := .collected w.heap.size, args := #[] }] ++ a.defers } :=
          ⟨ar.tmps.mono' full.le, .inr ⟨_, _, rfl, hd3, rfl⟩, ar.defs.mono full.le⟩
        have he' : (match L.pending with
            | none => some (Out.normal, (⟨σ.t, ⟨.yield σ.h.next, [], []⟩ :: σ.ds, h2.put (σ.h.next + 1) none⟩ : St))
            | some .ret => some (.ret, ⟨σ.t, ⟨.yield σ.h.next, [], []⟩ :: σ.ds, h2.put (σ.h.next + 1) none⟩)
            | some (.exit id) => some (.exit id, ⟨σ.t, ⟨.yield σ.h.next, [], []⟩ :: σ.ds, h2.put (σ.h.next + 1) none⟩)
            | _ => none) = some (out, σ') := by
          split at he
          · cases he
          · exact he
        split at he' <;> cases he'
        · next hp =>
          split
          · exact hQ π3 _ _ ar' full
          · next hc => rw [hp] at hc; cases hc
        · next hp =>
          split
          · next hc => rw [hp] at hc; cases hc
          · next hc => rw [hp] at hc; cases hc; exact wpIn_ret (hQ π3 _ _ ar' full)
        · next id hp =>
          split
          · next hc => rw [hp] at hc; cases hc
          · next hc => rw [hp] at hc; cases hc; exact wpIn_exit (hQ π3 _ _ ar' full)
    | _ => simp [evCode] at he
end
end
end Go.Abs
