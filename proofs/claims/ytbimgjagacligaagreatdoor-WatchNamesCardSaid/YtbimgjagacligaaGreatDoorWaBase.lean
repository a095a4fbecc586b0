/- The two contracts together, as what the evaluator may lean on. No condition. -/
import Derived.Test.YtbimgjagacligaaGreatDoorWaWrit
import Derived.Test.YtbimgjagacligaaGreatDoorWaJoin
import Derived.Test.YtbimgjagacligaaGreatDoorWaShelf
namespace Go.Proofs.YtbimgjagacligaaGreatDoor
open Go Go.Abs
noncomputable section
def base : Over := fun f call args h => match Nat.beq f 188 with
  | true => sumOver call args h
  | false => match Nat.beq f 45 with
    | true => writtenOver call args h
    | false => match Nat.beq f 52 with
      | true => joinOver call args h
      | false => none
theorem base_ok (w0 : World) : OvOk Tryz.prog w0 (nat_lit 3) base := by
  intro f call hc args h r he π w A s gl ha
  unfold base at he
  split at he
  · next hf =>
    have := Nat.eq_of_beq_eq_true hf
    subst this
    exact Sum.sum_ov call tabsOk w0 he π w A s gl ha
  · split at he
    · next hf =>
      have := Nat.eq_of_beq_eq_true hf
      subst this
      exact Writ.written_ov w0 he π w A s gl ha
    · split at he
      · next hf =>
        have := Nat.eq_of_beq_eq_true hf
        subst this
        exact join_ov strings_Join w0 he π w A s ha
      · cases he
end
end Go.Proofs.YtbimgjagacligaaGreatDoor
