/- A part of the abstract machine: an evaluator of the model's code over an abstract heap, proved sound against the model's walks (Calls, wp). No condition beyond each theorem's own premises. -/
import Derived.Test.YtbimgjagacligaaGreatDoorAbsT
import Derived.Test.YtbimgjagacligaaGreatDoorAbsS
set_option linter.unusedVariables false
set_option linter.unusedSimpArgs false
namespace Go.Abs
open Go Go.RowKit
noncomputable section

theorem EntsR.length {π : Pi} {es ES : List MapEntry} (h : EntsR π es ES) : es.length = ES.length := h.1

theorem choose_next (P : Program) (w : World) (k : Nat) (hk : 0 < k) : ∃ i w', (choose (.mapNext k)).run P w = .ok i w' ∧ i < k ∧ (w' = w ∨ w' = w.drew) := by
  rw [run_choose_drew]
  split
  · exact ⟨0, w, rfl, hk, .inl rfl⟩
  · exact ⟨_, w.drew, rfl, Nat.mod_lt _ hk, .inr rfl⟩

section
variable {P : Program} {w0 : World} {π : Pi} {h : AH} {w : World}

theorem next_any (s : Sim w0 π h w) {it m : Nat} {p : Spot} {seen : List Nat} {since last clock : Nat} {es : List MapEntry} (ty : TypeId) (hp : π it = some p) (hg : h.get it = some (.mapIter (some m) since seen last)) (hm : mapAt h m = some (es, clock))
    (hold : ∀ e ∈ es, e.born < since) (hlast : (!seen.isEmpty && !es.isEmpty && es.all (fun e => decide (e.born ≥ last))) = false) :
    (es.filter (fun e => !seen.contains e.born) = [] ∧ (Instr.next (.pointer (some ⟨p.B, p.base + 0, none⟩)) false ty).run P w = .ok (.tuple #[.bool false]) w) ∨
    ∃ e R w', e ∈ es.filter (fun e => !seen.contains e.born) ∧ (Instr.next (.pointer (some ⟨p.B, p.base + 0, none⟩)) false ty).run P w = .ok R w' ∧ VR π (.tuple #[.bool true, e.key, e.val]) R ∧
      Ext w0 π h π (h.put it (some (.mapIter (some m) since (seen ++ [e.born]) clock))) w' := by
  obtain ⟨hN, hb0, M, hB, hM⟩ := s.blk _ _ _ hp hg
  obtain ⟨q, hq, rfl⟩ := hM
  have hlt := (Array.getElem?_eq_some_iff.1 hB).1
  have hgo : (getObj p.B).run P w = .ok (.mapIter (some q.B) since seen.toArray last) w := by simp [getObj, Sem.run, hB]
  obtain ⟨_, ES, hB2, hE⟩ := s.blk _ _ _ hq (mapAt_get hm)
  have hgo2 := run_getMap (P := P) hB2
  have e1 : ES.isEmpty = es.isEmpty := by rw [← hE.isEmpty]; simp
  have e2 : (ES.all fun e => decide (e.born ≥ last)) = (es.all fun e => decide (e.born ≥ last)) := by
    rw [← hE.all (fun b => decide (b ≥ last))]; simp
  have hall' : (!seen.toArray.isEmpty && !ES.isEmpty && ES.all fun e => decide (e.born ≥ last)) = false := by
    rw [e1, e2]; simpa using hlast
  have hF := hE.filter (fun b => !seen.contains b)
  have hO := hF.filter (fun b => decide (b < since))
  have hW := hF.filter (fun b => decide (b ≥ since))
  have f1 : (es.filter fun e => !seen.contains e.born).filter (fun e => decide (e.born < since)) = es.filter fun e => !seen.contains e.born := by
    rw [List.filter_eq_self]
    intro e he
    simpa using hold e (List.mem_filter.1 he).1
  have f2 : (es.filter fun e => !seen.contains e.born).filter (fun e => decide (e.born ≥ since)) = [] := by
    rw [List.filter_eq_nil_iff]
    intro e he
    have := hold e (List.mem_filter.1 he).1
    simp; omega
  have c1 : ((ES.filter fun e => !seen.toArray.contains e.born).filter fun e => decide (e.born < since)).toList = (ES.toList.filter fun e => !seen.contains e.born).filter fun e => decide (e.born < since) := by simp
  have c2 : ((ES.filter fun e => !seen.toArray.contains e.born).filter fun e => decide (e.born ≥ since)).toList = (ES.toList.filter fun e => !seen.contains e.born).filter fun e => decide (e.born ≥ since) := by simp
  rw [← c1, f1] at hO
  rw [← c2, f2] at hW
  have n0 : ((ES.filter fun e => !seen.toArray.contains e.born).filter fun e => decide (e.born ≥ since)) = #[] := Array.ext' hW.nil_inv
  obtain ⟨O, hOe⟩ : ∃ O, ((ES.filter fun e => !seen.toArray.contains e.born).filter fun e => decide (e.born < since)) = O := ⟨_, rfl⟩
  rw [hOe] at hO
  by_cases hl : es.filter (fun e => !seen.contains e.born) = []
  · left
    refine ⟨hl, ?_⟩
    rw [hl] at hO
    have o0 : O = #[] := Array.ext' hO.nil_inv
    rw [o0] at hOe
    simp only [Instr.next, hb0, Nat.add_zero, Sem.run_bind, hgo, Result.andThen_ok, hgo2, hall', Bool.false_eq_true, if_false, hOe, n0]
    simp [Question.forced]
  · right
    have hlen : (es.filter fun e => !seen.contains e.born).length = O.size := by simpa using hO.1
    have hpos : 0 < O.size := by
      rw [← hlen]
      exact List.length_pos_iff.2 hl
    have hne : O.isEmpty = false := by
      cases hO' : O.isEmpty with
      | false => rfl
      | true => rw [Array.isEmpty_iff] at hO'; rw [hO'] at hpos; simp at hpos
    obtain ⟨i, w1, hc, hi, hw1⟩ := choose_next P w O.size hpos
    have hi' : i < (es.filter fun e => !seen.contains e.born).length := by omega
    have hEO : O[i]? = some O[i] := Array.getElem?_eq_getElem hi
    have hER := hO.2 i _ O[i] (List.getElem?_eq_getElem hi') (by simp)
    have s1 : Sim w0 π h w1 := by
      rcases hw1 with rfl | rfl
      · exact s
      · exact s.drew
    have hB1 : w1.heap[p.B]? = some (.mapIter (some q.B) since seen.toArray last) := by rcases hw1 with rfl | rfl <;> exact hB
    have hlt1 : p.B < w1.heap.size := (Array.getElem?_eq_some_iff.1 hB1).1
    have hset : ∀ o', (setObj p.B o').run P w1 = .ok () (putRow w1 p.B o') := fun o' => run_setObj hB1 (fun _ _ _ h => by cases h)
    have hcand : ((if O.isEmpty = true then #[none] else #[]) ++ Array.map some (O ++ (#[] : Array MapEntry)))[i]? = some (some O[i]) := by
      rw [hne]; simp [hi]
    have hsz : ((if O.isEmpty = true then #[none] else #[]) ++ Array.map some (O ++ (#[] : Array MapEntry))).size = O.size := by
      rw [hne]; simp
    refine ⟨_, .tuple #[.bool true, O[i].key, O[i].val], putRow w1 p.B (.mapIter (some q.B) since (seen ++ [((es.filter fun e => !seen.contains e.born)[i]).born]).toArray clock), List.getElem_mem hi', ?_, ?_, ?_⟩
    · simp only [Instr.next, hb0, Nat.add_zero, Sem.run_bind, hgo, Result.andThen_ok, hgo2, hall', Bool.false_eq_true, if_false, hOe, n0]
      rw [hsz, hc]
      simp only [Result.andThen_ok, hcand, Sem.run_bind]
      have hE2 : (seen.toArray.push O[i].born) = (seen ++ [((es.filter fun e => !seen.contains e.born)[i]).born]).toArray := by
        rw [hER.2.2]; simp
      rw [hE2, hset]
      rfl
    · exact VR.tuple' (VRL.cons (.lit (v := .bool true) rfl) (VRL.cons hER.1 (VRL.cons hER.2.1 (VRL.nil _))))
    · have y := s1.upd (o' := .mapIter (some m) since (seen ++ [((es.filter fun e => !seen.contains e.born)[i]).born]) clock) hp hg rfl (Below.putRow s1.below hN (.mapIter (some q.B) since (seen ++ [((es.filter fun e => !seen.contains e.born)[i]).born]).toArray clock)) (fun k hk => by rw [heap_putRow, if_neg (Ne.symm hk)]) ⟨hN, hb0, some q.B, by rw [heap_putRow, if_pos rfl, if_pos hlt1], q, hq, rfl⟩
      exact ⟨y.le, y.sim, y.next, y.pend⟩
end

/-! #### rows of operations without guards, by what they do alone -/
def dop (o : Oper) : Option Tmp × Op := (o.dst, o.op)
def bareOp (d : Option Tmp) (op : Op) : Oper := { dst := d, op := op, type := 0, pos := "", after := #[], guard := none }
def evL (P : Program) (Γ : Ctx) (Δ : Ctx2) (call : Caller) (rnd : Rounder) : List (Option Tmp × Op) → St → Option (Option Value × St)
  | [], σ => some (none, σ)
  | q :: r, σ => match evStepY P Γ Δ call rnd (bareOp q.1 q.2) σ.t σ.h with
    | some (.next v h') => evL P Γ Δ call rnd r ⟨aput σ.t q.1 v, σ.ds, h'⟩
    | some (.panic v h') => some (some v, ⟨σ.t, σ.ds, h'⟩)
    | some (.defer d h') => evL P Γ Δ call rnd r ⟨aput σ.t q.1 undef, d :: σ.ds, h'⟩
    | none => none
section
variable {P : Program} {Γ : Ctx} {Δ : Ctx2} {call : Caller} {rnd : Rounder}
theorem evStepY_bare (o : Oper) (t : List Value) (h : AH) : evStepY P Γ Δ call rnd o t h = evStepY P Γ Δ call rnd (bareOp o.dst o.op) t h := by cases o; rfl
theorem evSeqY_bare {ops : Array Oper} : ∀ (l : List Oper) (σ : St), (l.all fun o => o.guard.isNone) = true → evSeqY P Γ Δ call rnd ops l σ = evL P Γ Δ call rnd (l.map dop) σ
  | [], σ, _ => rfl
  | o :: l, σ, hg => by
    simp only [List.all_cons, Bool.and_eq_true] at hg
    have g0 : o.guard = none := by simpa using hg.1
    have ih := fun σ => evSeqY_bare (ops := ops) l σ hg.2
    simp only [evSeqY, aWanted, g0, List.map_cons, evL]
    rw [evStepY_bare]
    simp only [dop]
    cases evStepY P Γ Δ call rnd (bareOp o.dst o.op) σ.t σ.h with
    | none => rfl
    | some r => cases r <;> first | rfl | exact ih _
theorem evStepY_val {o : Oper} {t : List Value} {h h' : AH} {v : Value} (he : evOpS P Γ Δ o t h = some (.val v h')) : evStepY P Γ Δ call rnd o t h = some (.next v h') := by
  refine evStepY_of ?_
  unfold evStep; rw [he]
theorem evL_val {q : Option Tmp × Op} {r : List (Option Tmp × Op)} {σ : St} {v : Value} {h' : AH} (he : evOpS P Γ Δ (bareOp q.1 q.2) σ.t σ.h = some (.val v h')) : evL P Γ Δ call rnd (q :: r) σ = evL P Γ Δ call rnd r ⟨aput σ.t q.1 v, σ.ds, h'⟩ := by
  simp only [evL]
  rw [evStepY_val he]
theorem evL_call {q : Option Tmp × Op} {r : List (Option Tmp × Op)} {σ : St} {f : FuncId} {args : List Value} {v : Value} {h' h'' : AH} (he : evOpS P Γ Δ (bareOp q.1 q.2) σ.t σ.h = some (.enter f args h')) (hc : call f args h' = some (.ret v h'')) :
    evL P Γ Δ call rnd (q :: r) σ = evL P Γ Δ call rnd r ⟨aput σ.t q.1 v, σ.ds, h''⟩ := by
  simp only [evL]
  have : evStepY P Γ Δ call rnd (bareOp q.1 q.2) σ.t σ.h = some (.next v h'') := by
    refine evStepY_of ?_
    unfold evStep; rw [he]; simp only [hc]
  rw [this]
end
end
end Go.Abs
