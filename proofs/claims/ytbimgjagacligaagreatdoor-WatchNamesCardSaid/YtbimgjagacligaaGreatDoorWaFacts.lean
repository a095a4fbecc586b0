/- The closed facts of the law's row over the program, each by the kernel. No condition. -/
import Derived.Test.YtbimgjagacligaaGreatDoorRows
import Derived.JoinedOf
import GoSem.ClaimSeven
namespace Go.Proofs.YtbimgjagacligaaGreatDoor
open Go
noncomputable section
set_option maxRecDepth 100000
theorem closureIs : Tryz.prog.closure 3 = [3, 4, 10, 25, 47, 11, 17, 32, 38, 60, 70, 116, 13, 33, 57, 110, 111, 54, 103, 104, 167, 243, 244, 326, 245, 158, 159, 246, 327, 328, 402, 247, 248, 249, 250, 112, 114, 168, 113, 26, 48, 51, 89, 151, 152, 91, 154, 225, 319, 226, 227, 228, 320, 49, 90, 153, 224, 318, 27, 50, 52, 92, 155, 229, 156, 230, 93, 94, 28, 53, 95, 96, 157, 97, 98, 160, 161, 231, 99, 100, 101, 102, 29, 55, 105, 162, 30, 12, 31, 14, 34, 58, 115, 56, 106, 62, 107, 108, 163, 164, 233, 234, 322, 133, 193, 281, 194, 195, 292, 355, 414, 232, 321, 235, 236, 221, 313, 109, 166, 239, 324, 400, 323, 399, 240, 242, 241, 325, 401, 453, 459, 454, 499, 455, 456, 500, 501, 509, 457, 458, 460, 461, 165, 238, 237, 5, 15, 16, 37, 36, 35, 59, 6, 7, 18, 19, 20, 39, 21, 40, 61, 63, 71, 117, 72, 129, 130, 187, 272, 188, 189, 274, 273, 275, 277, 338, 276, 279, 341, 405, 339, 404, 340, 278, 118, 169, 252, 330, 251, 329, 253, 170, 119, 171, 125, 172, 254, 255, 331, 173, 132, 190, 280, 256, 257, 121, 175, 261, 332, 258, 200, 260, 259, 262, 263, 179, 180, 181, 271, 270, 182, 120, 174, 176, 177, 264, 268, 178, 265, 333, 334, 266, 335, 267, 336, 337, 403, 462, 269, 122, 64, 123, 183, 184, 124, 65, 66, 67, 126, 127, 185, 128, 186, 68, 69, 41, 73, 131, 191, 192, 8, 22, 23, 42, 43, 74, 134, 196, 197, 198, 282, 342, 406, 343, 75, 136, 201, 284, 344, 345, 407, 463, 464, 502, 465, 466, 503, 504, 510, 467, 468, 469, 470, 346, 408, 471, 285, 286, 206, 293, 287, 347, 358, 348, 288, 349, 410, 409, 350, 357, 411, 202, 289, 351, 354, 220, 307, 362, 363, 418, 419, 366, 420, 421, 364, 365, 367, 368, 422, 423, 424, 369, 370, 371, 379, 436, 437, 438, 384, 439, 440, 441, 385, 386, 376, 425, 375, 426, 474, 475, 476, 427, 428, 429, 372, 430, 431, 432, 373, 374, 377, 378, 433, 434, 435, 380, 381, 309, 382, 383, 311, 310, 387, 308, 218, 312, 388, 352, 290, 353, 412, 413, 291, 135, 199, 219, 283, 306, 76, 137, 203, 77, 138, 204, 205, 78, 79, 139, 80, 140, 207, 294, 208, 209, 81, 141, 210, 295, 211, 212, 213, 296, 356, 297, 214, 299, 298, 215, 300, 302, 303, 360, 417, 473, 416, 472, 505, 361, 359, 415, 301, 304, 82, 142, 216, 305, 217, 143, 144, 222, 145, 223, 314, 389, 442, 477, 443, 390, 444, 478, 479, 480, 506, 481, 483, 484, 485, 486, 497, 508, 511, 482, 487, 488, 489, 490, 491, 492, 493, 494, 507, 445, 495, 496, 446, 391, 315, 392, 393, 394, 447, 450, 451, 448, 498, 395, 449, 396, 452, 316, 397, 317, 398, 146, 83, 147, 84, 148, 85, 86, 149, 87, 150, 44, 45, 88, 9, 24, 46] := by kernel_rfl
theorem j0 : Rows.watchNamesRow.wf (OpenSpec.ofChange Rows.watchNamesSpec) = true := by kernel_rfl
theorem j1 : laidOutB Tryz.prog = true := by kernel_rfl
theorem j2 : mapsRowed Tryz.prog = true := by kernel_rfl
theorem j3 : Tryz.f3.params.all (Tryz.prog.readableRec ·) = true := by kernel_rfl
theorem j4 : namedTie Tryz.prog Rows.watchNamesRow.named Rows.watchNamesSpec.vars = true := by kernel_rfl
theorem j5 : (Rows.watchNamesRow.stops == []) = true := by kernel_rfl
theorem j6 : (Tryz.prog.stops == []) = true := by kernel_rfl
theorem j7 : (Rows.watchNamesRow.knobs == []) = true := by kernel_rfl
theorem j8 : (Tryz.prog.stopKnobs == []) = true := by kernel_rfl
theorem j9 : (Rows.watchNamesRow.inPlace == Tryz.prog.inPlace 3) = true := by unfold Program.inPlace; rw [closureIs]; kernel_rfl
theorem j10 : (Rows.watchNamesRow.unfollowed == Tryz.prog.unfollowed 3) = true := by unfold Program.unfollowed; rw [closureIs]; kernel_rfl
theorem unf : Tryz.prog.unfollowed 3 = true := by unfold Program.unfollowed; rw [closureIs]; kernel_rfl
theorem j11 : (Rows.watchNamesRow.recurses == Tryz.prog.recurses 3) = true := by unfold Program.recurses; rw [unf]; kernel_rfl
theorem j12 : (Rows.watchNamesRow.named == Tryz.prog.varsNamed 3) = true := by unfold Program.varsNamed; rw [closureIs]; kernel_rfl
theorem j13 : (Rows.watchNamesRow.maps == (Tryz.f3.params.toList ++ Rows.watchNamesSpec.plain.varTypes Tryz.prog).any (Tryz.prog.mapsRec ·)) = true := by kernel_rfl
theorem j14 : (Rows.watchNamesRow.ifaces == (Tryz.f3.params.toList ++ Rows.watchNamesSpec.plain.varTypes Tryz.prog).any (Tryz.prog.ifacesRec ·)) = true := by kernel_rfl
theorem j15 : (Rows.watchNamesRow.mapsOut == Tryz.prog.mapsAmong Tryz.f3.resultTypes.toList) = true := by kernel_rfl
theorem j16 : (Rows.watchNamesRow.loops == (Tryz.f3.params.toList ++ Rows.watchNamesSpec.plain.varTypes Tryz.prog).any (Tryz.prog.loopsFrom ·)) = true := by kernel_rfl
theorem j17 : (Rows.watchNamesRow.wideKeys == (Tryz.f3.params.toList ++ Rows.watchNamesSpec.plain.varTypes Tryz.prog ++ Tryz.f3.resultTypes.toList).any (Tryz.prog.wideKeysFrom ·)) = true := by kernel_rfl
theorem j18 : Rows.watchNamesSpec.vars.all (Tryz.prog.varReadable ·) = true := by kernel_rfl
theorem j19 : Tryz.f3.resultTypes.all (fun t => Tryz.prog.readableRec t && decide (t < Tryz.prog.types.size)) = true := by kernel_rfl
theorem j20 : (Rows.watchNamesRow.ifacesOut == Tryz.f3.resultTypes.toList.any (Tryz.prog.ifacesRec ·)) = true := by kernel_rfl
theorem j21 : (Rows.watchNamesRow.loopsOut == Tryz.f3.resultTypes.toList.any (Tryz.prog.loopsFrom ·)) = true := by kernel_rfl
theorem j22 : (Rows.watchNamesRow.plainKeys == Tryz.prog.plainKeys) = true := by kernel_rfl
theorem j23 : Rows.watchNamesRow.shortTexts.isNone = true := by kernel_rfl
theorem j24 : Tryz.prog.stopsHeard = true := by kernel_rfl
theorem j25 : Tryz.prog.mayEnter = true := by kernel_rfl
theorem j26 : (Rows.watchNamesRow.lifted == Tryz.prog.liftsFinal) = true := by kernel_rfl
theorem j27 : (Tryz.prog.make == some Rows.watchNamesRow.make) = true := by kernel_rfl
theorem j28 : (Rows.watchNamesRow.kinds == (if Rows.watchNamesRow.domain.isEmpty then [] else Tryz.f3.params.toList.map fun t => match Tryz.prog.underlying t with | some (.int k) => some k | _ => none)) = true := by kernel_rfl
theorem j29 : (Rows.watchNamesRow.pinned == Rows.watchNamesRow.pinnedBy) = true := by kernel_rfl
theorem j30 : (Rows.watchNamesRow.veiled == (Tryz.f3.params.toList ++ Rows.watchNamesSpec.plain.varTypes Tryz.prog ++ Tryz.f3.resultTypes.toList).any (Tryz.prog.veiledRec ·)) = true := by kernel_rfl
theorem j31 : Rows.watchNamesRow.veiledFits Tryz.prog Tryz.f3.params.toList (Tryz.f3.params.toList ++ Rows.watchNamesSpec.plain.varTypes Tryz.prog ++ Tryz.f3.resultTypes.toList) = true := by kernel_rfl
theorem facts : joinedFacts Tryz.prog 3 Tryz.f3 Rows.watchNamesSpec Rows.watchNamesRow = true := by
  unfold joinedFacts
  simp only [Bool.and_eq_true]
  exact ⟨⟨⟨⟨⟨⟨⟨⟨⟨⟨⟨⟨⟨⟨⟨⟨⟨⟨⟨⟨⟨⟨⟨⟨⟨⟨⟨⟨⟨⟨⟨j0, j1⟩, j2⟩, j3⟩, j4⟩, j5⟩, j6⟩, j7⟩, j8⟩, j9⟩, j10⟩, j11⟩, j12⟩, j13⟩, j14⟩, j15⟩, j16⟩, j17⟩, j18⟩, j19⟩, j20⟩, j21⟩, j22⟩, j23⟩, j24⟩, j25⟩, j26⟩, j27⟩, j28⟩, j29⟩, j30⟩, j31⟩
end
end Go.Proofs.YtbimgjagacligaaGreatDoor
