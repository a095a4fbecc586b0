/- A part of the abstract machine: an evaluator of the model's code over an abstract heap, proved sound against the model's walks (Calls, wp). No condition beyond each theorem's own premises. -/
import Derived.Test.YtbimgjagacligaaGreatDoorAbs7
import Derived.IntWalk
set_option linter.unusedVariables false
set_option linter.unusedSimpArgs false
namespace Go.Abs
open Go Go.RowKit
noncomputable section

section
variable {P : Program} {Γ : Ctx} {w0 : World} {π : Pi} {h : AH} {w : World}

/-! #### conversions -/
def byteInts : List Value → Option (List Int)
  | [] => some []
  | .int .u8 n :: l => (byteInts l).map (n :: ·)
  | _ => none
theorem byteInts_eq : ∀ {l : List Value} {ns : List Int}, byteInts l = some ns → l = ns.map (Value.int .u8)
  | [], ns, h => by simp [byteInts] at h; subst h; rfl
  | v :: l, ns, h => by
    cases v <;> try (simp [byteInts] at h; done)
    rename_i k n
    cases k <;> try (simp [byteInts] at h; done)
    simp only [byteInts, Option.map_eq_some_iff] at h
    obtain ⟨ms, h1, rfl⟩ := h
    simp [byteInts_eq h1]
def ofInts (ns : List Int) : ByteArray := ⟨(ns.map fun n => UInt8.ofNat n.toNat).toArray⟩
theorem foldl_ofInts : ∀ (ns : List Int) (r : ByteArray), ns.foldl (fun r n => r.push (UInt8.ofNat n.toNat)) r = ⟨(r.data.toList ++ ns.map fun n => UInt8.ofNat n.toNat).toArray⟩
  | [], r => by simp
  | n :: ns, r => by
    rw [List.foldl_cons, foldl_ofInts ns]
    simp [ByteArray.push]

def aConvert (Γ : Ctx) (src dst : TypeId) (v : Value) (h : AH) : Option (Value × AH) :=
  match Γ.ty src, Γ.ty dst with
  | some i, some j =>
    match j.k, v with
    | .int k, .int _ n => some (.int k (k.wrap n), h)
    | .string, .string s => some (.string s, h)
    | .slice e, .string s =>
      match i.k, Γ.ty e with
      | .string, some u => if u.k = .int .u8 then some (.slice (some ⟨h.next, 0, none⟩) s.size s.size, h.new (.cells (byteCells s) 1 false)) else none
      | _, _ => none
    | .string, .slice none _ _ =>
      match i.k with
      | .slice e => match Γ.ty e with
        | some u => if u.k = .int .u8 then some (.string ByteArray.empty, h) else none
        | none => none
      | _ => none
    | .string, .slice (some a) len cap =>
      match i.k with
      | .slice e => match Γ.ty e with
        | some u => if u.k = .int .u8 then
            match aFirst h 1 len (.slice (some a) len cap) with
            | some cs => match byteInts cs with
              | some ns => some (.string (ofInts ns), h)
              | none => none
            | none => none
          else none
        | none => none
      | _ => none
    | _, _ => none
  | _, _ => none

theorem convert_ok (hΓ : CtxOk P Γ) (s : Sim w0 π h w) {src dst : TypeId} {v V r : Value} {h' : AH} (hr : aConvert Γ src dst v h = some (r, h')) (hv : VR π v V) :
    ∃ π' R w', (convert src dst V).run P w = .ok R w' ∧ VR π' r R ∧ Ext w0 π h π' h' w' := by
  unfold aConvert at hr
  split at hr
  case h_2 => cases hr
  next i j hi hj =>
  have oki := hΓ.ty _ _ hi
  have okj := hΓ.ty _ _ hj
  split at hr
  · next k k' n hk =>
    simp only [Option.some.injEq, Prod.mk.injEq] at hr
    obtain ⟨rfl, rfl⟩ := hr
    obtain rfl := hv.lit_inv rfl
    obtain ⟨d, h1, h2, _⟩ := oki.und w
    have hu := okj.int hk
    refine ⟨π, _, w, ?_, .lit rfl, Ext.refl s⟩
    cases d <;> simp [convert, h1, run_underlying hu, Conv.intToInt]
  · next str hk =>
    simp only [Option.some.injEq, Prod.mk.injEq] at hr
    obtain ⟨rfl, rfl⟩ := hr
    obtain rfl := hv.lit_inv rfl
    obtain ⟨d, h1, h2, _⟩ := oki.und w
    have hu := okj.string hk
    refine ⟨π, _, w, ?_, .lit rfl, Ext.refl s⟩
    cases d <;> simp [convert, h1, run_underlying hu]
  · next e str hk =>
    split at hr
    · next u hik hu =>
      split at hr
      · next hu8 =>
        simp only [Option.some.injEq, Prod.mk.injEq] at hr
        obtain ⟨rfl, rfl⟩ := hr
        obtain rfl := hv.lit_inv rfl
        have oku := hΓ.ty _ _ hu
        have hrun := run_bytes_of_string (P := P) w src dst e str (oki.string hik) (okj.slice hk) (oku.int hu8)
        have hge : str.size ≤ grownCap w str.size 0 e := by unfold grownCap Question.cut; exact Nat.le_add_right _ _
        have hsz : (bytesRow str (grownCap w str.size 0 e)).size = grownCap w str.size 0 e := by
          simp [bytesRow]; show str.size + _ = _; omega
        have x := s.drew.alloc (o := .cells (byteCells str) 1 false) (O := .cells (bytesRow str (grownCap w str.size 0 e)) e ((bytesRow str (grownCap w str.size 0 e)).size, (bytesRow str (grownCap w str.size 0 e)).size + 1)) (sz := (bytesRow str (grownCap w str.size 0 e)).size) (esz := 1) (fun π' hle => by
          refine ⟨rfl, _, _, _, by rw [heap_alloc, if_pos rfl], rfl, ?_, ?_, fun _ => ⟨s.drew.below.size, fun q _ hq => by simp only at hq ⊢; omega⟩⟩
          · have : (byteCells str).length = str.size := by simp [byteCells]
            rw [hsz, this]; simpa using hge
          · intro q v hq
            refine ⟨v, ?_, .lit (byteCells_lit str v (List.mem_of_getElem? hq))⟩
            simp only [byteCells, List.getElem?_map, Option.map_eq_some_iff] at hq
            obtain ⟨b, hb, rfl⟩ := hq
            have hlt : q < str.data.size := by
              have := (List.getElem?_eq_some_iff.1 hb).1
              simpa using this
            simp only [bytesRow, Nat.zero_add]
            rw [Array.getElem?_append_left (by simpa using hlt)]
            simp at hb ⊢
            exact ⟨b, hb, rfl⟩)
        refine ⟨_, _, _, hrun, ?_, x⟩
        exact newSliceVR (Nat.le_refl _) hge (by rw [hsz]; simp)
      · cases hr
    · cases hr
  · next a n hk =>
    split at hr
    · next e hik =>
      split at hr
      · next u hu =>
        split at hr
        · next hu8 =>
          simp only [Option.some.injEq, Prod.mk.injEq] at hr
          obtain ⟨rfl, rfl⟩ := hr
          obtain rfl := hv.lit_inv rfl
          refine ⟨π, _, w, ?_, .lit rfl, Ext.refl s⟩
          rw [run_convert_bytes_string w src dst e none _ _ (oki.slice hik) ((hΓ.ty _ _ hu).int hu8) (okj.string hk)]
          simp [Conv.bytesToString]
        · cases hr
      · cases hr
    · cases hr
  · next a len cap hk =>
    split at hr
    · next e hik =>
      split at hr
      · next u hu =>
        split at hr
        · next hu8 =>
          split at hr
          · next cs hcs =>
            split at hr
            · next ns hns =>
              simp only [Option.some.injEq, Prod.mk.injEq] at hr
              obtain ⟨rfl, rfl⟩ := hr
              obtain ⟨L, hL1, hL2⟩ := aFirst_ok (P := P) s hcs hv
              obtain ⟨p, o', c', hsp, hp, rfl, g1, g2, g3, g4, g5⟩ := hv.slice_inv
              have hcs' := byteInts_eq hns
              have hLc : L = cs := allLit_eq (by rw [hcs']; simp [allLit, flatLit]) hL2
              rw [hLc, hcs'] at hL1
              simp only [Builtin.firstCells, Nat.mul_one] at hL1
              refine ⟨π, _, w, ?_, .lit rfl, Ext.refl s⟩
              rw [run_convert_bytes_string w src dst e _ _ _ (oki.slice hik) ((hΓ.ty _ _ hu).int hu8) (okj.string hk), run_bytesToString w _ len c' ns hL1, foldl_ofInts]
              rfl
            · cases hr
          · cases hr
        · cases hr
      · cases hr
    · cases hr
  · cases hr

/-! #### make -/
def aMakeSlice (Γ : Ctx) (t : TypeId) (l c : Value) (h : AH) : Option (Value × AH) :=
  match Γ.ty t, l, c with
  | some i, .int _ l, .int _ c =>
    match i.k with
    | .slice e => match Γ.ty e with
      | some j => if 0 ≤ l then (if l ≤ c then (if c ≤ 1073741824 then (if j.bytes ≤ 65536 then some (.slice (some ⟨h.next, 0, none⟩) l.toNat c.toNat, h.new (.cells (zeros j.zero.cells.toList c.toNat) j.size false)) else none) else none) else none) else none
      | none => none
    | _ => none
  | _, _, _ => none

theorem makeSlice_ok (hΓ : CtxOk P Γ) (s : Sim w0 π h w) {t : TypeId} {l c L C r : Value} {h' : AH} (hr : aMakeSlice Γ t l c h = some (r, h')) (hl : VR π l L) (hc : VR π c C) :
    ∃ π' R w', (Instr.makeSlice t L C).run P w = .ok R w' ∧ VR π' r R ∧ Ext w0 π h π' h' w' := by
  unfold aMakeSlice at hr
  split at hr
  case h_2 => cases hr
  next i kl l kc c hi =>
  obtain rfl := hl.lit_inv rfl
  obtain rfl := hc.lit_inv rfl
  split at hr
  case h_2 => cases hr
  next e hk =>
  have hu := (hΓ.ty _ _ hi).slice hk
  split at hr
  case h_2 => cases hr
  next j hj =>
  have okj := hΓ.ty _ _ hj
  split at hr
  case isFalse => cases hr
  next h0 =>
  split at hr
  case isFalse => cases hr
  next h1 =>
  split at hr
  case isFalse => cases hr
  next h2 =>
  split at hr
  case isFalse => cases hr
  next h3 =>
  simp only [Option.some.injEq, Prod.mk.injEq] at hr
  obtain ⟨rfl, rfl⟩ := hr
  obtain ⟨f, hf, hf1, hf2, hf3⟩ := okj.info
  have wrap : ∀ n : Int, 0 ≤ n → n ≤ 1073741824 → IntKind.i64.wrap n = n := by
    intro n a b
    exact IntWalk.i64_in _ ⟨by omega, by omega⟩
  have wl : IntKind.i64.wrap l = l := wrap _ (by omega) (by omega)
  have wc : IntKind.i64.wrap c = c := wrap _ (by omega) h2
  have hb : (f.bytes : Int) * c ≤ 281474976710656 := by
    have : (f.bytes : Int) * c ≤ 65536 * 1073741824 := Int.mul_le_mul (by omega) h2 (by omega) (by omega)
    omega
  have hb' : (f.bytes : Int) * l ≤ 281474976710656 := by
    have : (f.bytes : Int) * l ≤ 65536 * 1073741824 := Int.mul_le_mul (by omega) (by omega) (by omega) (by omega)
    omega
  have hzl : j.zero.cells.size = j.size := okj.zsize
  have fin : ∀ Z : Array Value, Z.toList = zeros j.zero.cells.toList c.toNat → ∃ π' R w', (Result.ok (Value.slice (some ⟨w.heap.size, 0, none⟩) l.toNat c.toNat) (w.alloc (.cells Z e)) : Result Value) = .ok R w' ∧ VR π' (.slice (some ⟨h.next, 0, none⟩) l.toNat c.toNat) R ∧
      Ext w0 π h π' (h.new (.cells (zeros j.zero.cells.toList c.toNat) j.size false)) w' := by
    intro Z hZ
    have hzz : VRL π (zeros j.zero.cells.toList c.toNat) (zeros j.zero.cells.toList c.toNat) := VRL.zeros (zeroVR okj).cells _
    have x := s.allocAll (cs := zeros j.zero.cells.toList c.toNat) (C := Z) (E := e) j.size (by rw [hZ]; exact hzz)
    refine ⟨_, _, _, rfl, newSliceVR (by omega) (Nat.le_refl _) ?_, x⟩
    have : Z.size = (zeros j.zero.cells.toList c.toNat).length := by rw [← hZ]; simp
    rw [this, zeros_length]; simp [hzl]
  have hask : ∀ (k : Nat) (W : World), (askRoom k).run P W = .ok () W := fun k W => run_askRoom P W k
  have hti : (typeInfo e).run P w = .ok f w := by simp [typeInfo, hf]
  have tl : ∀ n : Int, 0 ≤ n → (f.bytes : Int) * n ≤ 281474976710656 → (decide (n < 0) || decide ((f.bytes : Int) * n > 2 ^ 48)) = false := by
    intro n a b
    simp; omega
  by_cases hz : c.toNat * j.size = 0
  · have hZ : ((Array.range (c.toNat * j.size)).map (fun x => (#[] : Array Value)[x % (#[] : Array Value).size]!)).toList = zeros j.zero.cells.toList c.toNat := by
      rw [hz]
      have : (zeros j.zero.cells.toList c.toNat).length = 0 := by rw [zeros_length]; simp [hzl, hz]
      rw [List.length_eq_zero_iff.1 this]; simp
    have := fin _ hZ
    simp only [Instr.makeSlice, Sem.run_bind, run_underlying hu, Result.andThen_ok, asInt, asIntOf, Sem.run_pure, hti, wl, wc]
    rw [if_neg (by simp only [tl c (by omega) hb, Bool.false_or, Bool.or_eq_true, decide_eq_true_eq]; omega)]
    simp only [Sem.run_bind, hask, Result.andThen_ok, okj.run_size, hz, if_true, Sem.run_pure, newRow, run_newObj]
    rw [hz] at this
    exact this
  · have hZ : ((Array.range (c.toNat * j.size)).map (fun x => j.zero.cells[x % j.zero.cells.size]!)).toList = zeros j.zero.cells.toList c.toNat := by
      have := range_zeros j.zero.cells c.toNat
      rw [hzl] at this ⊢; exact this
    have := fin _ hZ
    simp only [Instr.makeSlice, Sem.run_bind, run_underlying hu, Result.andThen_ok, asInt, asIntOf, Sem.run_pure, hti, wl, wc]
    rw [if_neg (by simp only [tl c (by omega) hb, Bool.false_or, Bool.or_eq_true, decide_eq_true_eq]; omega)]
    simp only [Sem.run_bind, hask, Result.andThen_ok, okj.run_size, hz, if_false, okj.run_zero, Sem.run_pure, newRow, run_newObj]
    exact this

/-! #### copy -/
def aCopy (Γ : Ctx) (dt : TypeId) (d x : Value) (h : AH) : Option (Value × AH) :=
  match Γ.ty dt with
  | some i => match i.k with
    | .slice e => match Γ.ty e, d, aLen x with
      | some j, .slice base dLen cap, some n0 =>
        let n := Nat.min n0 dLen
        match aFirst h j.size n x with
        | some news =>
          if n = 0 then some (.int .i64 0, h) else
          match base with
          | some a => match cellsAt h a.block with
            | some (cs, esz, false) =>
              if a.off + news.length ≤ cs.length then (if news.all oneCell then (if n ≤ cap then some (.int .i64 n, h.put a.block (some (.cells (splice cs a.off news) esz false))) else none) else none) else none
            | _ => none
          | none => none
        | none => none
      | _, _, _ => none
    | _ => none
  | none => none

theorem copy_ok (hΓ : CtxOk P Γ) (s : Sim w0 π h w) {dt xt ty : TypeId} {d x D X r : Value} {h' : AH} (hr : aCopy Γ dt d x h = some (r, h')) (hd : VR π d D) (hx : VR π x X) :
    ∃ π' R w', (Builtin.copy_ #[dt, xt] ty #[D, X]).run P w = .ok R w' ∧ VR π' r R ∧ Ext w0 π h π' h' w' := by
  unfold aCopy at hr
  split at hr
  case h_2 => cases hr
  next i hi =>
  split at hr
  case h_2 => cases hr
  next e hk =>
  have hu := (hΓ.ty _ _ hi).slice hk
  split at hr
  case h_2 => cases hr
  next j base dLen cap n0 hj hn =>
  have okj := hΓ.ty _ _ hj
  simp only at hr
  split at hr
  case h_2 => cases hr
  next news hnews =>
  have hlen := aLen_ok (P := P) hn hx w
  obtain ⟨N, hN1, hN2⟩ := aFirst_ok (P := P) s hnews hx
  split at hr
  · next h0 =>
    simp only [Option.some.injEq, Prod.mk.injEq] at hr
    obtain ⟨rfl, rfl⟩ := hr
    have hnil : N = [] := by
      have h1 : news = [] := by
        rw [h0] at hnews
        unfold aFirst at hnews
        split at hnews
        · simpa using hnews.symm
        · simpa using hnews.symm
        · simpa using hnews.symm
        · cases hnews
      have := hN2.1
      rw [h1] at this
      exact List.length_eq_zero_iff.1 this.symm
    subst hnil
    refine ⟨π, .int .i64 0, w, ?_, .lit rfl, Ext.refl s⟩
    cases base with
    | none =>
      obtain rfl := hd.lit_inv rfl
      rw [h0] at hN1
      simp [Builtin.copy_, run_underlying hu, hlen, okj.run_size, h0, hN1, goInt]
    | some a =>
      obtain ⟨p, o', c', _, _, rfl, _⟩ := hd.slice_inv
      rw [h0] at hN1
      simp [Builtin.copy_, run_underlying hu, hlen, okj.run_size, h0, hN1, storeCells, goInt]
  · next h0 =>
    split at hr
    case h_2 => cases hr
    next a =>
    split at hr
    case h_2 => cases hr
    next cs esz hc =>
    split at hr
    case isFalse => cases hr
    next h1 =>
    split at hr
    case isFalse => cases hr
    next h2 =>
    split at hr
    case isFalse => cases hr
    next h3 =>
    simp only [Option.some.injEq, Prod.mk.injEq] at hr
    obtain ⟨rfl, rfl⟩ := hr
    obtain ⟨p, o', c', hsp, hp, rfl, g1, g2, g3, g4, g5⟩ := hd.slice_inv
    have ho : o' = p.base + a.off := g1.resolve_left (by omega)
    subst ho
    obtain ⟨w', hw1, hw2⟩ := s.store P hp (cellsAt_get hc) h1 hN2 (List.all_eq_true.1 h2)
    exact ⟨π, _, w', by simp [Builtin.copy_, run_underlying hu, hlen, okj.run_size, hN1, hw1, goInt], .lit rfl, hw2⟩

end
end
end Go.Abs
