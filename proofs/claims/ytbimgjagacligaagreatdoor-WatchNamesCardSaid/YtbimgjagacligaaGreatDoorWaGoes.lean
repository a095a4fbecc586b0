/- No text of the program starts a goroutine: each function looked at by the kernel. No condition. -/
import Derived.Test.YtbimgjagacligaaGreatDoorRows
import GoSem.ClaimSeven
namespace Go.Proofs.YtbimgjagacligaaGreatDoor
open Go
noncomputable section
set_option maxRecDepth 100000
theorem any_cut {α : Type} (p : α → Bool) (n : Nat) (l : List α) (h : (l.take n).any p = false) (k : (l.drop n).any p = false) : l.any p = false := by
  rw [← List.take_append_drop n l, List.any_append, h, k]; rfl
theorem goesBy_of {P : Program} {c : OpenClaim} {f : FuncId} (hs : c.start = .entering) (h : P.funcNamed c.func = some f) (hg : P.goes f = false) : false = c.goesBy P := by
  unfold OpenClaim.goesBy Program.goesAt Program.goesFrom
  rw [h, hs]
  simp [hg]
theorem goes_none {P : Program} {f : FuncId} (h : P.funcs.toList.any Func.goes = false) : P.goes f = false := by
  have each : ∀ F ∈ P.funcs.toList, Func.goes F = false := fun F hF => by
    cases hg : Func.goes F with
    | false => rfl
    | true => rw [List.any_eq_false] at h; exact absurd hg (h F hF)
  have h1 : ((P.closure f).any fun g => (P.funcs[g]?).any Func.goes) = false := by
    rw [List.any_eq_false]
    intro g _
    cases hg : P.funcs[g]? with
    | none => simp
    | some F =>
      have : F ∈ P.funcs.toList := by
        have h2 := Array.mem_of_getElem? hg
        simpa using h2
      simp [each F this]
  have h2 : P.funcs.any Func.goes = false := by rw [← Array.any_toList]; exact h
  unfold Program.goes
  rw [h1, h2]; simp
theorem go0 : ((Tryz.prog.funcs.toList.drop 0).take 40).any Func.goes = false := by kernel_rfl
theorem go1 : ((Tryz.prog.funcs.toList.drop 40).take 40).any Func.goes = false := by kernel_rfl
theorem go2 : ((Tryz.prog.funcs.toList.drop 80).take 40).any Func.goes = false := by kernel_rfl
theorem go3 : ((Tryz.prog.funcs.toList.drop 120).take 40).any Func.goes = false := by kernel_rfl
theorem go4 : ((Tryz.prog.funcs.toList.drop 160).take 40).any Func.goes = false := by kernel_rfl
theorem go5 : ((Tryz.prog.funcs.toList.drop 200).take 40).any Func.goes = false := by kernel_rfl
theorem go6 : ((Tryz.prog.funcs.toList.drop 240).take 40).any Func.goes = false := by kernel_rfl
theorem go7 : ((Tryz.prog.funcs.toList.drop 280).take 40).any Func.goes = false := by kernel_rfl
theorem go8 : ((Tryz.prog.funcs.toList.drop 320).take 40).any Func.goes = false := by kernel_rfl
theorem go9 : ((Tryz.prog.funcs.toList.drop 360).take 40).any Func.goes = false := by kernel_rfl
theorem go10 : ((Tryz.prog.funcs.toList.drop 400).take 40).any Func.goes = false := by kernel_rfl
theorem go11 : ((Tryz.prog.funcs.toList.drop 440).take 40).any Func.goes = false := by kernel_rfl
theorem go12 : ((Tryz.prog.funcs.toList.drop 480).take 40).any Func.goes = false := by kernel_rfl
theorem go13 : ((Tryz.prog.funcs.toList.drop 520).take 40).any Func.goes = false := by kernel_rfl
theorem goEnd : (Tryz.prog.funcs.toList.drop 560).any Func.goes = false := by kernel_rfl
theorem gt14 : (Tryz.prog.funcs.toList.drop 560).any Func.goes = false := goEnd
theorem gt13 : (Tryz.prog.funcs.toList.drop 520).any Func.goes = false := any_cut _ 40 _ go13 (by rw [List.drop_drop]; exact gt14)
theorem gt12 : (Tryz.prog.funcs.toList.drop 480).any Func.goes = false := any_cut _ 40 _ go12 (by rw [List.drop_drop]; exact gt13)
theorem gt11 : (Tryz.prog.funcs.toList.drop 440).any Func.goes = false := any_cut _ 40 _ go11 (by rw [List.drop_drop]; exact gt12)
theorem gt10 : (Tryz.prog.funcs.toList.drop 400).any Func.goes = false := any_cut _ 40 _ go10 (by rw [List.drop_drop]; exact gt11)
theorem gt9 : (Tryz.prog.funcs.toList.drop 360).any Func.goes = false := any_cut _ 40 _ go9 (by rw [List.drop_drop]; exact gt10)
theorem gt8 : (Tryz.prog.funcs.toList.drop 320).any Func.goes = false := any_cut _ 40 _ go8 (by rw [List.drop_drop]; exact gt9)
theorem gt7 : (Tryz.prog.funcs.toList.drop 280).any Func.goes = false := any_cut _ 40 _ go7 (by rw [List.drop_drop]; exact gt8)
theorem gt6 : (Tryz.prog.funcs.toList.drop 240).any Func.goes = false := any_cut _ 40 _ go6 (by rw [List.drop_drop]; exact gt7)
theorem gt5 : (Tryz.prog.funcs.toList.drop 200).any Func.goes = false := any_cut _ 40 _ go5 (by rw [List.drop_drop]; exact gt6)
theorem gt4 : (Tryz.prog.funcs.toList.drop 160).any Func.goes = false := any_cut _ 40 _ go4 (by rw [List.drop_drop]; exact gt5)
theorem gt3 : (Tryz.prog.funcs.toList.drop 120).any Func.goes = false := any_cut _ 40 _ go3 (by rw [List.drop_drop]; exact gt4)
theorem gt2 : (Tryz.prog.funcs.toList.drop 80).any Func.goes = false := any_cut _ 40 _ go2 (by rw [List.drop_drop]; exact gt3)
theorem gt1 : (Tryz.prog.funcs.toList.drop 40).any Func.goes = false := any_cut _ 40 _ go1 (by rw [List.drop_drop]; exact gt2)
theorem gt0 : (Tryz.prog.funcs.toList.drop 0).any Func.goes = false := any_cut _ 40 _ go0 (by rw [List.drop_drop]; exact gt1)
theorem goAll : Tryz.prog.funcs.toList.any Func.goes = false := by
  have := gt0
  rwa [List.drop_zero] at this
theorem noGo : false = Rows.watchNamesRow.goesBy Tryz.prog := goesBy_of (f := 3) rfl (by kernel_rfl) (goes_none goAll)
end
end Go.Proofs.YtbimgjagacligaaGreatDoor
