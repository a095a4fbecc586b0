/- The law is true at every world and on every schedule, and nothing that was there has turned: the row, and the tied card. No condition beyond the given statement's own. -/
import Derived.Test.YtbimgjagacligaaGreatDoorWaHeart4
import Derived.Test.YtbimgjagacligaaGreatDoorWaFacts
import Derived.Test.YtbimgjagacligaaGreatDoorWaGoes
import Derived.Test.YtbimgjagacligaaGreatDoorRows
import Derived.Test.YtbimgjagacligaaGreatDoorCards
import Derived.Test.YtbimgjagacligaaGreatDoorTie
import Derived.WalkKit
import Derived.ProofKit
import Derived.OpenShut
import Derived.ChangeOld
import Derived.Below
import Derived.SizedLaws
import Derived.LaidMore
import Derived.Lay
import Derived.SevenTiedAt
import Derived.Stop.Joined
namespace Go.Proofs.YtbimgjagacligaaGreatDoor
open Go Go.Abs Go.ChangeShapes Go.WideShapes Go.ChangeAt Go.RowKit
noncomputable section

/-- where nothing is known but the globals -/
def pi0 : Pi := fun b => if b < 3 then some ⟨b, 0, 0, 0⟩ else none
theorem sim0 (w : World) : Sim w pi0 h0_15 w where
  below := Below.refl _ w
  fresh := fun b hb => by
    have : ¬ b < 3 := Nat.not_lt.2 hb
    simp [pi0, this]
  blk := fun b p o _ ho => by
    have : h0_15.get b = none := by show (T.leaf : T AO).get b = none; exact T.get_leaf b
    rw [this] at ho; cases ho
  sep := fun b b' p p' o o' _ _ ho _ _ _ => by
    have : h0_15.get b = none := by show (T.leaf : T AO).get b = none; exact T.get_leaf b
    rw [this] at ho; cases ho
theorem glob0 : Glob 3 pi0 := fun g hg => ⟨⟨g, 0, 0, 0⟩, by simp [pi0, hg], rfl, rfl⟩

/-- the law's walk: true, and nothing that was there has turned -/
theorem walk (w : World) : Calls Tryz.prog 3 #[] w fun e w' => e = .returned (.bool true) ∧ Below w.heap.size w w' := by
  refine Calls.mono (ok_15 w pi0 w #[] (sim0 w) glob0 (VRL.nil _)) ?_
  rintro e w' ⟨π', V, rfl, hV, x⟩
  have hv : e_15.v = .bool true := rfl
  rw [hv] at hV
  obtain rfl := hV.lit_inv rfl
  exact ⟨rfl, x.sim.below⟩

theorem own : ownKnob Tryz.prog.godebug = none := by kernel_rfl
set_option maxRecDepth 100000 in
theorem lifted (os : Os) (started : os.Started) (H : Type) (enc : TypeId × Value → H) :
    ReturnsInHanded {} Tryz.checked os 3 .any (fun w args => (Rows.watchNamesSpec.pre enc Tryz.prog Tryz.f3 Rows.watchNamesRow.domain false w args ∧ laidMetH Tryz.prog Rows.watchNamesRow.laid w) ∧ sizedMet enc Tryz.prog Tryz.f3 (OpenSpec.ofChange Rows.watchNamesSpec) false w args)
      (Rows.watchNamesSpec.post enc Tryz.prog Tryz.f3 false true false false) := by
  refine returnsInHanded_of_change_and (C := Tryz.checked) (X := fun w _ => laidMetH Tryz.prog Rows.watchNamesRow.laid w) (fun _ _ _ hh h => h.of_heap hh) own started (by kernel_rfl) Tryz.func3
    (ChangeSpec.witness_shaped (enc := enc) (C := Tryz.checked) (os := os) (X := fun w _ => laidMetH Tryz.prog Rows.watchNamesRow.laid w) false (World.laidAll Tryz.prog os Rows.watchNamesRow.laid) #[] 8 (World.laidAll_os _ _ _)
      (World.shaped_of_ZipB (by kernel_rfl) (by kernel_rfl)) (by kernel_rfl) (by kernel_rfl) (by kernel_rfl)
      (by rw [MakeChecks.laidMetH_plain _ _ _ (by kernel_rfl)]; exact laidMet_laidAll _ (by kernel_rfl) (by kernel_rfl))) ?_
  intro W base args ds gs before hval0 hW _ _ hL _
  have hW' := hW
  obtain ⟨p, q, hA0, hV, rfl, _, _⟩ := hW
  have hA : DataW.TrodAll enc Tryz.prog W 0 (fun _ => true) true Tryz.f3.params.toList args.toList ds p := hA0
  rw [Tryz.params3] at hA
  obtain ⟨ha, rfl, rfl⟩ := trodAll_nil hA
  obtain rfl : args = #[] := by cases args; simp_all
  obtain ⟨rfl, rfl⟩ := trodVars_none hV
  refine (walk W).mono fun e W' ⟨he, hb⟩ => ?_
  subst he
  exact ⟨_, rfl, _, _, _, [], _, [], hW', trodAll_mk1 (shut_bool Tryz.underlying4 _), trodAll_mk0, rfl, hb.frame _, fun h => by cases h⟩

theorem row_holds : Rows.WatchNamesSaid :=
  OpenClaim.holds_of_wide 3 Tryz.f3 rfl rfl rfl rfl rfl rfl rfl ⟨rfl, rfl, rfl, rfl, rfl⟩ rfl rfl rfl rfl rfl (by kernel_rfl) Tryz.func3 facts
    (of_decide_eq_true (by kernel_rfl)) (by unfold Func.isWrapper; first | (rw [if_pos (by decide +kernel)]; kernel_rfl) | (rw [if_neg (by decide +kernel)]; exact ⟨rfl, rfl⟩))
    (fun os started H enc _ => lifted os started H enc)

theorem watchNames_holds : Rows.WatchNamesCardSaid :=
  Claim7.holds_tied_plain_at .later [] [.data, .pinned] true (true, "d21d49efc2579a7cd58469cb5f42a0c0e3eae885dc386dd22576ce6165e5d1e6") true row_holds (fun _ h => by cases h) (by kernel_rfl) (fun _ h => by cases h) watchNames_row_tie rfl ⟨rfl, rfl⟩ (by kernel_rfl) rfl
    (fun f fn hf hfn => by
      obtain rfl : f = 3 := Option.some.inj ((show Tryz.prog.funcNamed "sublet/subletlaw22.WatchNames" = some 3 by kernel_rfl).symm.trans hf) |>.symm
      obtain rfl : fn = Tryz.f3 := (Option.some.inj (Tryz.func3.symm.trans hfn)).symm
      exact ⟨by kernel_rfl, fun j t ht => by
        rw [Tryz.params3] at ht
        simp at ht⟩)
    noGo
#print axioms watchNames_holds
end
end Go.Proofs.YtbimgjagacligaaGreatDoor
