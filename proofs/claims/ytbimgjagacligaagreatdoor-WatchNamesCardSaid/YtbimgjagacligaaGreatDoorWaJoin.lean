/- The contract of strings.Join as the evaluator asks for it, out of the shelf. No condition beyond the state that it is called in. -/
import Derived.Test.YtbimgjagacligaaGreatDoorAbsW
import Derived.Test.YtbimgjagacligaaGreatDoorWaOv
namespace Go.Abs
open Go Go.RowKit
noncomputable section

theorem strs_ok : ∀ (vs : List Value) {l : List ByteArray}, strs vs = some l → l.length = vs.length ∧ ∀ (j : Nat) (x : ByteArray), l[j]? = some x → vs[j]? = some (.string x)
  | [], l, h => by simp [strs] at h; subst h; simp
  | v :: r, l, h => by
    unfold strs at h
    split at h
    · next hnil => cases hnil
    · next x r' heq =>
      cases heq
      split at h
      · next l' hl' =>
        cases h
        obtain ⟨h1, h3⟩ := strs_ok r hl'
        refine ⟨by simp [h1], fun j c hj => ?_⟩
        cases j with
        | zero => simp at hj; subst hj; rfl
        | succ j => simpa using h3 j c (by simpa using hj)
      · cases h
    · cases h

theorem Sim.behind {w0 : World} {π : Pi} {h : AH} {w w' : World} (s : Sim w0 π h w) (hb : Below w.heap.size w w') : Sim w0 π h w' :=
  ⟨s.below.trans ⟨hb.os, hb.tape, hb.output, hb.size, fun k hk => hb.block k (Nat.lt_of_lt_of_le hk s.below.size)⟩, s.fresh, fun b p o x y => (s.blk b p o x y).congr (hb.block _ (s.blk b p o x y).lt), s.sep⟩

theorem join_ov {P : Program} {f : FuncId} (hJ : ∀ (bk o c : Nat) (xs : List ByteArray) (sep : ByteArray) (w : World), (∀ (j : Nat) x, xs[j]? = some x → w.cell? ⟨bk, o + j, none⟩ = some (.string x)) →
      bk < w.heap.size → xs.length ≤ 140737488355328 → xs.length ≤ c → (Lib.join (xs.map (·.data.toList)) sep.data.toList).length ≤ 140737488355328 →
      Calls P f #[.slice (some ⟨bk, o, none⟩) xs.length c, .string sep] w fun e w' => e = .returned (.string ⟨(Lib.join (xs.map (·.data.toList)) sep.data.toList).toArray⟩) ∧ Below w.heap.size w w')
    (w0 : World) {call : Caller} {args : List Value} {h : AH} {r : CRes} (he : joinOver call args h = some r) (π : Pi) (w : World) (A : Array Value) (s : Sim w0 π h w)
    (ha : VRL π args A.toList) : Calls P f A w (fun e w' => CResR w0 π h e w' r) := by
  unfold joinOver at he
  split at he
  case h_2 => cases he
  next b o n c sep =>
  split at he
  case h_2 => cases he
  next hn =>
  split at he
  case h_2 => cases he
  next cs e ro hg =>
  split at he
  case h_2 => cases he
  next xs hxs =>
  split at he
  case h_2 => cases he
  next hx =>
  cases he
  simp only [Bool.and_eq_true, Nat.blt_eq, Nat.ble_eq] at hn hx
  obtain ⟨⟨h2, hn1⟩, hnc⟩ := hn
  obtain ⟨hxn, hlen⟩ := hx
  have hxn := Nat.eq_of_beq_eq_true hxn
  obtain ⟨A⟩ := A
  obtain ⟨V0, hV0, hv0⟩ := ha.get (i := 0) rfl
  obtain ⟨V1, hV1, hv1⟩ := ha.get (i := 1) rfl
  obtain ⟨p, o', c', _, hp, rfl, g1, g2, g3, g4, g5⟩ := hv0.slice_inv
  have := hv1.lit_inv rfl
  subst this
  have hA : A = [.slice (some ⟨p.B, o', none⟩) n c', .string sep] := by
    have hl := ha.1
    simp only [List.length_cons, List.length_nil] at hl
    match A, hl, hV0, hV1 with
    | [a, b], _, hV0, hV1 => simp at hV0 hV1; subst hV0; subst hV1; rfl
  subst hA
  obtain ⟨s1, s2⟩ := strs_ok _ hxs
  have hblk := s.blk _ _ _ hp (cellsAt_get hg)
  have hlt := hblk.lt
  obtain ⟨_, C, E, fz, hC, _, _, hcs, _⟩ := hblk
  have hof : o' = p.base + o := by
    rcases g1 with g | g
    · omega
    · exact g
  subst hof
  have := hJ p.B (p.base + o) c' xs sep w (fun j x hj => by
    have h3 := s2 j x hj
    rw [List.getElem?_take] at h3
    split at h3
    case isFalse => cases h3
    rw [List.getElem?_drop] at h3
    obtain ⟨V, hV, hv⟩ := hcs _ _ h3
    have := hv.lit_inv rfl
    subst this
    simp only [World.cell?, hC]
    rw [Nat.add_assoc]
    simpa using hV) hlt (by omega) (by omega) (by omega)
  rw [hxn] at this
  refine this.mono ?_
  rintro e w' ⟨rfl, hb⟩
  exact ⟨π, _, rfl, .lit rfl, PLe.refl _, s.behind hb, Nat.le_refl _, fun _ _ e => ⟨e, rfl⟩⟩
end
end Go.Abs
