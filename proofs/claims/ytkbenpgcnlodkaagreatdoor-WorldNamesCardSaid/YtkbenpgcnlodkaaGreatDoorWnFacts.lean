/- The closed facts of the law's row over the program, each by the kernel. No condition. -/
import Derived.Test.YtkbenpgcnlodkaaGreatDoorRows
import Derived.JoinedOf
import GoSem.ClaimSeven
namespace Go.Proofs.YtkbenpgcnlodkaaGreatDoor
open Go
noncomputable section
set_option maxRecDepth 100000
theorem closureIs : Tryz.prog.closure 3 = [3, 4, 5, 19, 20, 21, 39, 22, 32, 58, 98, 40, 69, 70, 71, 79, 117, 118, 80, 130, 131, 224, 324, 116, 225, 326, 325, 327, 329, 386, 328, 331, 389, 428, 387, 427, 388, 330, 119, 208, 306, 379, 305, 378, 115, 209, 120, 210, 126, 211, 307, 308, 380, 212, 110, 111, 176, 295, 309, 122, 214, 313, 303, 310, 139, 312, 311, 314, 60, 99, 100, 159, 160, 161, 260, 362, 413, 363, 364, 365, 414, 315, 133, 135, 230, 228, 229, 206, 218, 219, 323, 322, 207, 121, 213, 215, 216, 316, 320, 217, 317, 381, 382, 109, 175, 318, 383, 319, 384, 385, 426, 466, 321, 123, 72, 124, 220, 221, 125, 73, 74, 75, 127, 78, 128, 222, 129, 223, 263, 366, 415, 462, 474, 478, 76, 77, 41, 81, 132, 226, 227, 7, 23, 24, 42, 82, 134, 136, 137, 231, 332, 390, 333, 43, 27, 84, 59, 61, 140, 233, 334, 335, 174, 275, 276, 391, 429, 430, 467, 431, 371, 372, 432, 468, 469, 476, 433, 434, 435, 436, 336, 392, 437, 108, 234, 235, 105, 145, 64, 243, 242, 236, 337, 348, 338, 237, 339, 394, 393, 340, 347, 395, 141, 238, 341, 344, 113, 112, 177, 178, 277, 278, 181, 279, 280, 179, 180, 182, 183, 281, 282, 283, 184, 185, 186, 194, 296, 297, 298, 200, 299, 300, 301, 201, 202, 191, 284, 190, 285, 375, 376, 377, 286, 287, 288, 187, 289, 290, 291, 188, 189, 192, 193, 292, 293, 294, 195, 196, 197, 198, 199, 204, 203, 302, 114, 67, 205, 304, 342, 239, 343, 396, 397, 240, 83, 138, 68, 232, 66, 44, 85, 142, 45, 86, 143, 241, 345, 398, 144, 46, 34, 62, 101, 102, 65, 106, 173, 267, 268, 370, 269, 270, 373, 374, 425, 271, 272, 273, 274, 107, 163, 164, 262, 162, 261, 165, 166, 156, 255, 63, 104, 169, 265, 368, 264, 367, 170, 172, 171, 266, 369, 416, 422, 417, 463, 418, 419, 464, 465, 475, 420, 421, 423, 424, 103, 168, 167, 47, 87, 48, 88, 29, 57, 146, 147, 49, 89, 148, 244, 149, 150, 151, 245, 346, 246, 152, 248, 247, 153, 249, 251, 252, 350, 401, 439, 400, 438, 470, 351, 349, 399, 250, 253, 50, 90, 154, 254, 155, 28, 38, 91, 157, 92, 158, 256, 352, 402, 440, 403, 353, 404, 441, 442, 443, 471, 444, 446, 447, 448, 449, 460, 473, 477, 445, 450, 451, 452, 453, 454, 455, 456, 457, 472, 405, 458, 459, 406, 354, 257, 355, 356, 357, 407, 410, 411, 408, 461, 358, 409, 359, 412, 258, 360, 259, 361, 93, 51, 94, 52, 95, 53, 54, 96, 55, 97, 25, 26, 56, 6, 10, 11, 30, 12, 31, 13, 14, 33, 15, 8, 16, 35, 17, 36, 18, 37, 9] := by kernel_rfl
theorem j0 : Rows.worldNamesRow.wf (OpenSpec.ofChange Rows.worldNamesSpec) = true := by kernel_rfl
theorem j1 : laidOutB Tryz.prog = true := by kernel_rfl
theorem j2 : mapsRowed Tryz.prog = true := by kernel_rfl
theorem j3 : Tryz.f3.params.all (Tryz.prog.readableRec ·) = true := by kernel_rfl
theorem j4 : namedTie Tryz.prog Rows.worldNamesRow.named Rows.worldNamesSpec.vars = true := by kernel_rfl
theorem j5 : (Rows.worldNamesRow.stops == []) = true := by kernel_rfl
theorem j6 : (Tryz.prog.stops == []) = true := by kernel_rfl
theorem j7 : (Rows.worldNamesRow.knobs == []) = true := by kernel_rfl
theorem j8 : (Tryz.prog.stopKnobs == []) = true := by kernel_rfl
theorem j9 : (Rows.worldNamesRow.inPlace == Tryz.prog.inPlace 3) = true := by unfold Program.inPlace; rw [closureIs]; kernel_rfl
theorem j10 : (Rows.worldNamesRow.unfollowed == Tryz.prog.unfollowed 3) = true := by unfold Program.unfollowed; rw [closureIs]; kernel_rfl
theorem unf : Tryz.prog.unfollowed 3 = true := by unfold Program.unfollowed; rw [closureIs]; kernel_rfl
theorem j11 : (Rows.worldNamesRow.recurses == Tryz.prog.recurses 3) = true := by unfold Program.recurses; rw [unf]; kernel_rfl
theorem j12 : (Rows.worldNamesRow.named == Tryz.prog.varsNamed 3) = true := by unfold Program.varsNamed; rw [closureIs]; kernel_rfl
theorem j13 : (Rows.worldNamesRow.maps == (Tryz.f3.params.toList ++ Rows.worldNamesSpec.plain.varTypes Tryz.prog).any (Tryz.prog.mapsRec ·)) = true := by kernel_rfl
theorem j14 : (Rows.worldNamesRow.ifaces == (Tryz.f3.params.toList ++ Rows.worldNamesSpec.plain.varTypes Tryz.prog).any (Tryz.prog.ifacesRec ·)) = true := by kernel_rfl
theorem j15 : (Rows.worldNamesRow.mapsOut == Tryz.prog.mapsAmong Tryz.f3.resultTypes.toList) = true := by kernel_rfl
theorem j16 : (Rows.worldNamesRow.loops == (Tryz.f3.params.toList ++ Rows.worldNamesSpec.plain.varTypes Tryz.prog).any (Tryz.prog.loopsFrom ·)) = true := by kernel_rfl
theorem j17 : (Rows.worldNamesRow.wideKeys == (Tryz.f3.params.toList ++ Rows.worldNamesSpec.plain.varTypes Tryz.prog ++ Tryz.f3.resultTypes.toList).any (Tryz.prog.wideKeysFrom ·)) = true := by kernel_rfl
theorem j18 : Rows.worldNamesSpec.vars.all (Tryz.prog.varReadable ·) = true := by kernel_rfl
theorem j19 : Tryz.f3.resultTypes.all (fun t => Tryz.prog.readableRec t && decide (t < Tryz.prog.types.size)) = true := by kernel_rfl
theorem j20 : (Rows.worldNamesRow.ifacesOut == Tryz.f3.resultTypes.toList.any (Tryz.prog.ifacesRec ·)) = true := by kernel_rfl
theorem j21 : (Rows.worldNamesRow.loopsOut == Tryz.f3.resultTypes.toList.any (Tryz.prog.loopsFrom ·)) = true := by kernel_rfl
theorem j22 : (Rows.worldNamesRow.plainKeys == Tryz.prog.plainKeys) = true := by kernel_rfl
theorem j23 : Rows.worldNamesRow.shortTexts.isNone = true := by kernel_rfl
theorem j24 : Tryz.prog.stopsHeard = true := by kernel_rfl
theorem j25 : Tryz.prog.mayEnter = true := by kernel_rfl
theorem j26 : (Rows.worldNamesRow.lifted == Tryz.prog.liftsFinal) = true := by kernel_rfl
theorem j27 : (Tryz.prog.make == some Rows.worldNamesRow.make) = true := by kernel_rfl
theorem j28 : (Rows.worldNamesRow.kinds == (if Rows.worldNamesRow.domain.isEmpty then [] else Tryz.f3.params.toList.map fun t => match Tryz.prog.underlying t with | some (.int k) => some k | _ => none)) = true := by kernel_rfl
theorem j29 : (Rows.worldNamesRow.pinned == Rows.worldNamesRow.pinnedBy) = true := by kernel_rfl
theorem j30 : (Rows.worldNamesRow.veiled == (Tryz.f3.params.toList ++ Rows.worldNamesSpec.plain.varTypes Tryz.prog ++ Tryz.f3.resultTypes.toList).any (Tryz.prog.veiledRec ·)) = true := by kernel_rfl
theorem j31 : Rows.worldNamesRow.veiledFits Tryz.prog Tryz.f3.params.toList (Tryz.f3.params.toList ++ Rows.worldNamesSpec.plain.varTypes Tryz.prog ++ Tryz.f3.resultTypes.toList) = true := by kernel_rfl
theorem facts : joinedFacts Tryz.prog 3 Tryz.f3 Rows.worldNamesSpec Rows.worldNamesRow = true := by
  unfold joinedFacts
  simp only [Bool.and_eq_true]
  exact ⟨⟨⟨⟨⟨⟨⟨⟨⟨⟨⟨⟨⟨⟨⟨⟨⟨⟨⟨⟨⟨⟨⟨⟨⟨⟨⟨⟨⟨⟨⟨j0, j1⟩, j2⟩, j3⟩, j4⟩, j5⟩, j6⟩, j7⟩, j8⟩, j9⟩, j10⟩, j11⟩, j12⟩, j13⟩, j14⟩, j15⟩, j16⟩, j17⟩, j18⟩, j19⟩, j20⟩, j21⟩, j22⟩, j23⟩, j24⟩, j25⟩, j26⟩, j27⟩, j28⟩, j29⟩, j30⟩, j31⟩
end
end Go.Proofs.YtkbenpgcnlodkaaGreatDoor
