/- The checksum's contract: octets.Sum answers what the definition says, for any bytes. No condition beyond the state that it is called in. -/
import Derived.Test.YtbimgjagacligaaGreatDoorWaOv
import Derived.Test.YtbimgjagacligaaGreatDoorWaTabs
namespace Go.Proofs.YtbimgjagacligaaGreatDoor.Sum
open Go Go.Abs
noncomputable section
set_option maxRecDepth 100000
set_option linter.unusedVariables false
set_option linter.unusedSimpArgs false

def noRnd : Rounder := fun _ _ _ => none
theorem aev {t : List Value} {i : Nat} {v : Value} (h : t[i]? = some v) : aeval t (.tmp i) = some v := by simp only [aeval, lget_eq, h]
inductive Go1 | l | r | b
def at1 : Code → List Go1 → Code
  | c, [] => c
  | .seq x _, .l :: p => at1 x p
  | .seq _ y, .r :: p => at1 y p
  | .cond _ x _, .l :: p => at1 x p
  | .cond _ _ y, .r :: p => at1 y p
  | .block _ x, .b :: p => at1 x p
  | .loop x, .b :: p => at1 x p
  | .scope x, .b :: p => at1 x p
  | _, _ => .skip
noncomputable def body : Code := (Tryz.f188.body).getD .skip
noncomputable def LB : Code := at1 body [.r, .r, .l, .r, .b, .b]
noncomputable def B1 : Code := at1 LB [.r, .r, .l, .b]
noncomputable def I1 : Code := at1 B1 [.r]

def w32 (n : Nat) : Int := IntKind.u32.wrap (n : Int)
def rawBit (x : Int) : Int :=
  w32 (BitVec.ofInt 32 (x.fdiv (2 ^ (min (Int.toNat 1) 32))) ^^^ BitVec.ofInt 32 (w32 (BitVec.ofInt 32 3988292384 &&& BitVec.ofInt 32 (IntKind.u32.wrap (0 - w32 (BitVec.ofInt 32 x &&& BitVec.ofInt 32 1).toNat))).toNat)).toNat
def rawX (x c : Int) : Int := w32 (BitVec.ofInt 32 x ^^^ BitVec.ofInt 32 (IntKind.u32.wrap c)).toNat

def pickT (r : Option (Out × St)) (i : Nat) : Option Value :=
  match r with
  | some (.normal, σ) => σ.t[i]?
  | _ => none
noncomputable def run1 (call : Caller) (x c : Int) (v0 v1 v2 v4 v6 v7 v8 v9 v10 v11 v12 v13 v14 v15 v16 v17 v18 v19 v20 v21 v22 v23 v24 v25 v26 v27 v28 : Value) (ds : List ADef) (h : AH) : Option (Out × St) :=
  evCode Tryz.prog B.Γ B.Δ 188 (B.plan 188) call noRnd 60 I1 ⟨[v0, v1, v2, .int .u32 x, v4, .int .u8 c, v6, v7, v8, v9, v10, v11, v12, v13, v14, v15, v16, v17, v18, v19, v20, v21, v22, v23, v24, v25, v26, v27, v28], ds, h⟩

section
variable (call : Caller) (x c : Int) (v0 v1 v2 v4 v6 v7 v8 v9 v10 v11 v12 v13 v14 v15 v16 v17 v18 v19 v20 v21 v22 v23 v24 v25 v26 v27 v28 : Value) (ds : List ADef) (h : AH)
theorem r3 : pickT (run1 call x c v0 v1 v2 v4 v6 v7 v8 v9 v10 v11 v12 v13 v14 v15 v16 v17 v18 v19 v20 v21 v22 v23 v24 v25 v26 v27 v28 ds h) 3 = some (.int .u32 (rawBit (rawBit (rawBit (rawBit (rawBit (rawBit (rawBit (rawBit (rawX x c)))))))))) := by kernel_rfl
theorem r6 : pickT (run1 call x c v0 v1 v2 v4 v6 v7 v8 v9 v10 v11 v12 v13 v14 v15 v16 v17 v18 v19 v20 v21 v22 v23 v24 v25 v26 v27 v28 ds h) 6 = some v6 := by kernel_rfl
end

variable (call : Caller)

noncomputable abbrev ev (n : Nat) (c : Code) (σ : St) : Option (Out × St) := evCode Tryz.prog B.Γ B.Δ 188 (B.plan 188) call noRnd n c σ

/-- a state of the loop -/
structure LS (x : Int) (s : Value) (n i : Nat) (t : List Value) : Prop where
  len : t.length = 29
  x : t[3]? = some (.int .u32 x)
  s : t[6]? = some s
  n : t[7]? = some (.int .i64 n)
  i : t[8]? = some (.int .i64 i)

theorem list29 {t : List Value} (h : t.length = 29) : ∃ v0 v1 v2 v3 v4 v5 v6 v7 v8 v9 v10 v11 v12 v13 v14 v15 v16 v17 v18 v19 v20 v21 v22 v23 v24 v25 v26 v27 v28,
    t = [v0, v1, v2, v3, v4, v5, v6, v7, v8, v9, v10, v11, v12, v13, v14, v15, v16, v17, v18, v19, v20, v21, v22, v23, v24, v25, v26, v27, v28] := by
  match t, h with
  | [v0, v1, v2, v3, v4, v5, v6, v7, v8, v9, v10, v11, v12, v13, v14, v15, v16, v17, v18, v19, v20, v21, v22, v23, v24, v25, v26, v27, v28], _ => exact ⟨_, _, _, _, _, _, _, _, _, _, _, _, _, _, _, _, _, _, _, _, _, _, _, _, _, _, _, _, _, rfl⟩

def okN (r : Option (Out × St)) : Bool := match r with
  | some (.normal, _) => true
  | _ => false
def stOf (r : Option (Out × St)) : St := match r with
  | some (_, σ) => σ
  | none => ⟨[], [], ⟨.leaf, 0⟩⟩
theorem of_okN {r : Option (Out × St)} (h : okN r = true) : r = some (.normal, stOf r) := by
  unfold okN at h
  split at h
  · rfl
  · cases h

/-- the eight rounds for one byte -/
theorem inner {x c : Int} {s : Value} {n i : Nat} {t : List Value} (hs : LS x s n i t) (hc : t[5]? = some (.int .u8 c)) (m : Nat) (ds : List ADef) (h : AH) :
    ∃ t', ev call (m + 60) I1 ⟨t, ds, h⟩ = some (.normal, ⟨t', ds, h⟩) ∧ LS (rawBit (rawBit (rawBit (rawBit (rawBit (rawBit (rawBit (rawBit (rawX x c))))))))) s n i t' := by
  obtain ⟨hl, h3, h6, h7, h8⟩ := hs
  obtain ⟨v0, v1, v2, v3, v4, v5, v6, v7, v8, v9, v10, v11, v12, v13, v14, v15, v16, v17, v18, v19, v20, v21, v22, v23, v24, v25, v26, v27, v28, rfl⟩ := list29 hl
  obtain rfl : v3 = _ := Option.some.inj h3
  obtain rfl : v5 = _ := Option.some.inj hc
  obtain rfl : v6 = _ := Option.some.inj h6
  obtain rfl : v7 = _ := Option.some.inj h7
  obtain rfl : v8 = _ := Option.some.inj h8
  clear hl h3 hc h6 h7 h8
  have key : ∀ r, r = ev call (m + 60) I1 ⟨[v0, v1, v2, .int .u32 x, v4, .int .u8 c, v6, .int .i64 n, .int .i64 i, v9, v10, v11, v12, v13, v14, v15, v16, v17, v18, v19, v20, v21, v22, v23, v24, v25, v26, v27, v28], ds, h⟩ → okN r = true → (stOf r).ds = ds → (stOf r).h = h → LS (rawBit (rawBit (rawBit (rawBit (rawBit (rawBit (rawBit (rawBit (rawX x c))))))))) v6 n i (stOf r).t → _ :=
    fun r e h1 h2 h3 h4 => (⟨(stOf r).t, by rw [← e]; rw [of_okN h1]; simp only [stOf]; cases hσ : stOf r; simp_all [stOf], h4⟩ : ∃ t', ev call (m + 60) I1 ⟨[v0, v1, v2, .int .u32 x, v4, .int .u8 c, v6, .int .i64 n, .int .i64 i, v9, v10, v11, v12, v13, v14, v15, v16, v17, v18, v19, v20, v21, v22, v23, v24, v25, v26, v27, v28], ds, h⟩ = some (.normal, ⟨t', ds, h⟩) ∧ LS (rawBit (rawBit (rawBit (rawBit (rawBit (rawBit (rawBit (rawBit (rawX x c))))))))) v6 n i t')
  refine key _ rfl ?_ ?_ ?_ ⟨?_, ?_, ?_, ?_, ?_⟩
  all_goals kernel_rfl


def opsOf : Code → Array Oper
  | .region _ ops _ => ops
  | _ => #[]
noncomputable def R3 : Code := at1 LB [.l]
noncomputable def R4 : Code := at1 B1 [.l]
noncomputable def R10 : Code := at1 LB [.r, .r, .r]
noncomputable def o4 (k : Nat) : Oper := ((opsOf R4)[k]?).getD default

theorem LB_eq : LB = .seq R3 (.seq (.cond (.tmp 9) .skip (.exit 0)) (.seq (.block 1 (.seq R4 I1)) R10)) := by kernel_rfl
theorem R4_eq : R4 = .region 4 (opsOf R4) false := by kernel_rfl
theorem R4_ops : (opsOf R4).toList = [o4 0, o4 1, o4 2] := by kernel_rfl
theorem o40 : (o4 0).op = .indexAddr 158 (.tmp 6) (.tmp 8) := by kernel_rfl
theorem o41 : (o4 1).op = .load 5 (.tmp 10) := by kernel_rfl
theorem o42 : (o4 2).op = .assign (.tmp 11) := by kernel_rfl
theorem g40 : (o4 0).guard = none := by kernel_rfl
theorem g41 : (o4 1).guard = none := by kernel_rfl
theorem g42 : (o4 2).guard = none := by kernel_rfl
theorem d40 : (o4 0).dst = some 10 := by kernel_rfl
theorem d41 : (o4 1).dst = some 11 := by kernel_rfl
theorem d42 : (o4 2).dst = some 5 := by kernel_rfl
theorem tyS : ∃ i, B.Γ.ty 158 = some i ∧ i.k = .slice 5 := ⟨_, rfl, rfl⟩
theorem tyB : ∃ i, B.Γ.ty 5 = some i ∧ i.k = .int .u8 ∧ i.size = 1 := ⟨_, rfl, rfl, rfl⟩

theorem LS.set {x : Int} {s : Value} {n i : Nat} {t : List Value} (h : LS x s n i t) (k : Nat) (v : Value) (h3 : k ≠ 3) (h6 : k ≠ 6) (h7 : k ≠ 7) (h8 : k ≠ 8) : LS x s n i (t.set k v) :=
  ⟨by simp [h.len], by rw [List.getElem?_set_ne h3]; exact h.x, by rw [List.getElem?_set_ne h6]; exact h.s, by rw [List.getElem?_set_ne h7]; exact h.n, by rw [List.getElem?_set_ne h8]; exact h.i⟩

theorem r4 {x : Int} {b o cp n i : Nat} {t : List Value} (hs : LS x (.slice (some ⟨b, o, none⟩) n cp) n i t) (hin : i < n) {h : AH} {cs : List Value} {e : Nat} {ro : Bool} (hg : cellsAt h b = some (cs, e, ro)) {c : Int}
    (hc : cs[o + i]? = some (.int .u8 c)) (m : Nat) (ds : List ADef) :
    ∃ t', ev call (m + 10) R4 ⟨t, ds, h⟩ = some (.normal, ⟨t', ds, h⟩) ∧ LS x (.slice (some ⟨b, o, none⟩) n cp) n i t' ∧ t'[5]? = some (.int .u8 c) := by
  obtain ⟨i1, hi1, hk1⟩ := tyS
  obtain ⟨i2, hi2, hk2, hz2⟩ := tyB
  have e1 : aIndexAddr B.Γ 158 (.slice (some ⟨b, o, none⟩) n cp) (.int .i64 i) = some (.pointer (some ⟨b, o + i, none⟩)) := by
    unfold aIndexAddr
    simp only [hi1, hk1, hi2, hz2]
    rw [if_pos (by omega), if_pos (by omega)]
    simp
  have e2 : aLoad B.Γ 5 (.pointer (some ⟨b, o + i, none⟩)) h = some (.int .u8 c) := by
    unfold aLoad
    simp only [hi2, hg, hk2, K.agg]
    exact hc
  rw [R4_eq]
  let t1 := t.set 10 (.pointer (some ⟨b, o + i, none⟩))
  let t2 := t1.set 11 (.int .u8 c)
  have l0 : 10 < t.length := by rw [hs.len]; omega
  have l1 : 11 < t1.length := by simp [t1, hs.len]
  have l2 : 5 < t2.length := by simp [t2, t1, hs.len]
  have s1 : LS x (.slice (some ⟨b, o, none⟩) n cp) n i t1 := hs.set 10 _ (by omega) (by omega) (by omega) (by omega)
  have s2 : LS x (.slice (some ⟨b, o, none⟩) n cp) n i t2 := s1.set 11 _ (by omega) (by omega) (by omega) (by omega)
  refine ⟨t2.set 5 (.int .u8 c), region_ev ?_, s2.set 5 _ (by omega) (by omega) (by omega) (by omega), by rw [List.getElem?_set_self l2]⟩
  rw [R4_ops, evSeq_cons g40 (evStep_indexAddr o40 (aev hs.s) (aev hs.i) e1)]
  rw [d40]
  have a1 : aput t (some 10) (.pointer (some ⟨b, o + i, none⟩)) = t1 := lset_eq _ _ _
  rw [a1]
  rw [evSeq_cons g41 (evStep_load o41 (aev (List.getElem?_set_self l0)) e2)]
  rw [d41]
  have a2 : aput t1 (some 11) (.int .u8 c) = t2 := lset_eq _ _ _
  rw [a2]
  rw [evSeq_cons g42 (evStep_assign o42 (aev (List.getElem?_set_self l1)))]
  rw [d42]
  have a3 : aput t2 (some 5) (.int .u8 c) = t2.set 5 (.int .u8 c) := lset_eq _ _ _
  rw [a3]
  rfl

theorem r3b {x : Int} {s : Value} {n i : Nat} {t : List Value} (hs : LS x s n i t) (m : Nat) (ds : List ADef) (h : AH) :
    ∃ t', ev call (m + 10) R3 ⟨t, ds, h⟩ = some (.normal, ⟨t', ds, h⟩) ∧ LS x s n i t' ∧ t'[9]? = some (.bool (decide ((i : Int) < (n : Int)))) := by
  obtain ⟨hl, h3, h6, h7, h8⟩ := hs
  obtain ⟨v0, v1, v2, v3, v4, v5, v6, v7, v8, v9, v10, v11, v12, v13, v14, v15, v16, v17, v18, v19, v20, v21, v22, v23, v24, v25, v26, v27, v28, rfl⟩ := list29 hl
  obtain rfl : v3 = _ := Option.some.inj h3
  obtain rfl : v6 = _ := Option.some.inj h6
  obtain rfl : v7 = _ := Option.some.inj h7
  obtain rfl : v8 = _ := Option.some.inj h8
  clear hl h3 h6 h7 h8
  refine ⟨[v0, v1, v2, .int .u32 x, v4, v5, v6, .int .i64 n, .int .i64 i, .bool (decide ((i : Int) < (n : Int))), v10, v11, v12, v13, v14, v15, v16, v17, v18, v19, v20, v21, v22, v23, v24, v25, v26, v27, v28], ?_, ⟨rfl, rfl, rfl, rfl, rfl⟩, rfl⟩
  kernel_rfl

theorem r10 {x : Int} {s : Value} {n i : Nat} {t : List Value} (hs : LS x s n i t) (hi : i < 4611686018427387904) (m : Nat) (ds : List ADef) (h : AH) :
    ∃ t', ev call (m + 10) R10 ⟨t, ds, h⟩ = some (.normal, ⟨t', ds, h⟩) ∧ LS x s n (i + 1) t' := by
  obtain ⟨hl, h3, h6, h7, h8⟩ := hs
  obtain ⟨v0, v1, v2, v3, v4, v5, v6, v7, v8, v9, v10, v11, v12, v13, v14, v15, v16, v17, v18, v19, v20, v21, v22, v23, v24, v25, v26, v27, v28, rfl⟩ := list29 hl
  obtain rfl : v3 = _ := Option.some.inj h3
  obtain rfl : v6 = _ := Option.some.inj h6
  obtain rfl : v7 = _ := Option.some.inj h7
  obtain rfl : v8 = _ := Option.some.inj h8
  clear hl h3 h6 h7 h8
  have hw : IntKind.i64.wrap ((i : Int) + 1) = ((i + 1 : Nat) : Int) := IntWalk.i64_in _ ⟨by omega, by omega⟩
  refine ⟨[v0, v1, v2, .int .u32 x, v4, v5, v6, .int .i64 n, .int .i64 (IntKind.i64.wrap ((i : Int) + 1)), v9, v10, v11, v12, v13, v14, v15, v16, v17, v18, v19, v20, v21, v22, v23, v24, v25, .int .i64 (IntKind.i64.wrap ((i : Int) + 1)), v27, v28], ?_, ⟨rfl, rfl, rfl, rfl, by rw [← hw]; rfl⟩⟩
  kernel_rfl


/-- on naturals -/
theorem rawX_nat {n c : Nat} (hn : n < 4294967296) (hc : c < 256) : rawX (n : Int) (c : Int) = ((Nat.xor n c : Nat) : Int) := by
  have hc' : c < 4294967296 := by omega
  have e : (BitVec.ofInt 32 (n : Int) ^^^ BitVec.ofInt 32 (c : Int)).toNat = Nat.xor n c := by
    rw [ofInt_nat, ofInt_nat, BitVec.toNat_xor, BitVec.toNat_ofNat, BitVec.toNat_ofNat, Nat.mod_eq_of_lt hn, Nat.mod_eq_of_lt hc']
    rfl
  unfold rawX
  rw [wrap_u32 c hc', e]
  exact wrap_u32 _ (xor_lt hn hc')

theorem rawBit_nat {n : Nat} (hn : n < 4294967296) : rawBit (n : Int) = ((crcBit n : Nat) : Int) := by
  have e1 : (n : Int).fdiv (2 ^ (min (Int.toNat 1) 32)) = ((n / 2 : Nat) : Int) := by
    show (n : Int).fdiv 2 = _
    rw [Int.fdiv_eq_ediv_of_nonneg _ (by omega)]
    omega
  have e2 : w32 (BitVec.ofInt 32 (n : Int) &&& BitVec.ofInt 32 1).toNat = ((n % 2 : Nat) : Int) := by
    have : (BitVec.ofInt 32 (n : Int) &&& BitVec.ofInt 32 1).toNat = n % 2 := by
      show (BitVec.ofInt 32 (n : Int) &&& BitVec.ofInt 32 ((1 : Nat) : Int)).toNat = n % 2
      rw [ofInt_nat, ofInt_nat, BitVec.toNat_and, BitVec.toNat_ofNat, BitVec.toNat_ofNat, Nat.mod_eq_of_lt hn]
      exact Nat.and_one_is_mod n
    rw [this]
    exact wrap_u32 _ (by omega)
  unfold rawBit
  rw [e1, e2]
  have hx : ∀ m : Nat, m < 4294967296 → w32 (BitVec.ofInt 32 ((n / 2 : Nat) : Int) ^^^ BitVec.ofInt 32 (m : Int)).toNat = ((Nat.xor (n / 2) m : Nat) : Int) := by
    intro m hm
    have e : (BitVec.ofInt 32 ((n / 2 : Nat) : Int) ^^^ BitVec.ofInt 32 (m : Int)).toNat = Nat.xor (n / 2) m := by
      rw [ofInt_nat, ofInt_nat, BitVec.toNat_xor, BitVec.toNat_ofNat, BitVec.toNat_ofNat, Nat.mod_eq_of_lt (by omega), Nat.mod_eq_of_lt hm]
      rfl
    rw [e]
    exact wrap_u32 _ (xor_lt (by omega) hm)
  rcases Nat.mod_two_eq_zero_or_one n with h | h
  · have e3 : w32 (BitVec.ofInt 32 3988292384 &&& BitVec.ofInt 32 (IntKind.u32.wrap (0 - ((0 : Nat) : Int)))).toNat = ((0 : Nat) : Int) := by decide +kernel
    rw [h, e3, hx 0 (by omega)]
    unfold crcBit
    rw [h]
    show ((Nat.xor (n / 2) 0 : Nat) : Int) = ((n / 2 : Nat) : Int)
    rw [show Nat.xor (n / 2) 0 = n / 2 from Nat.xor_zero _]
  · have e3 : w32 (BitVec.ofInt 32 3988292384 &&& BitVec.ofInt 32 (IntKind.u32.wrap (0 - ((1 : Nat) : Int)))).toNat = ((3988292384 : Nat) : Int) := by decide +kernel
    rw [h, e3, hx _ (by omega)]
    unfold crcBit
    rw [h]
    rfl

theorem raw8_nat {n c : Nat} (hn : n < 4294967296) (hc : c < 256) : rawBit (rawBit (rawBit (rawBit (rawBit (rawBit (rawBit (rawBit (rawX n c)))))))) = ((crcByte n c : Nat) : Int) ∧ crcByte n c < 4294967296 := by
  have h0 := xor_lt hn (by omega : c < 4294967296)
  have h1 := crcBit_lt h0
  have h2 := crcBit_lt h1
  have h3 := crcBit_lt h2
  have h4 := crcBit_lt h3
  have h5 := crcBit_lt h4
  have h6 := crcBit_lt h5
  have h7 := crcBit_lt h6
  have h8 := crcBit_lt h7
  rw [rawX_nat hn hc, rawBit_nat h0, rawBit_nat h1, rawBit_nat h2, rawBit_nat h3, rawBit_nat h4, rawBit_nat h5, rawBit_nat h6, rawBit_nat h7]
  exact ⟨rfl, h8⟩

/-- one round of the outer loop -/
theorem round {x : Nat} (hx : x < 4294967296) {b o cp n i : Nat} {t : List Value} (hs : LS (x : Int) (.slice (some ⟨b, o, none⟩) n cp) n i t) (hin : i < n) (hn : n < 4611686018427387904) {h : AH} {cs : List Value} {e : Nat} {ro : Bool} (hg : cellsAt h b = some (cs, e, ro)) {c : Nat} (hc : c < 256)
    (hcs : cs[o + i]? = some (.int .u8 (c : Int))) (m : Nat) (ds : List ADef) :
    ∃ t', ev call (m + 80) LB ⟨t, ds, h⟩ = some (.normal, ⟨t', ds, h⟩) ∧ LS ((crcByte x c : Nat) : Int) (.slice (some ⟨b, o, none⟩) n cp) n (i + 1) t' ∧ crcByte x c < 4294967296 := by
  obtain ⟨t1, e1, s1, b1⟩ := r3b call hs (m + 69) ds h
  obtain ⟨t2, e2, s2, c2⟩ := r4 call s1 hin hg hcs (m + 65) ds
  obtain ⟨t3, e3, s3⟩ := inner call s2 c2 (m + 15) ds h
  obtain ⟨hr, hlt⟩ := raw8_nat hx hc
  rw [hr] at s3
  obtain ⟨t4, e4, s4⟩ := r10 call s3 (by omega) (m + 67) ds h
  refine ⟨t4, ?_, s4, hlt⟩
  rw [LB_eq]
  have hb : aeval t1 (.tmp 9) = some (.bool true) := by
    simp only [aeval, lget_eq, b1]
    rw [decide_eq_true (by omega)]
  have f1 : ev call (m + 78) (.cond (.tmp 9) .skip (.exit 0)) ⟨t1, ds, h⟩ = some (.normal, ⟨t1, ds, h⟩) := by
    show evCode _ _ _ _ _ _ _ ((m + 77) + 1) _ _ = _
    rw [cond_ev hb]
    rfl
  have f2 : ev call (m + 76) (.seq R4 I1) ⟨t1, ds, h⟩ = some (.normal, ⟨t3, ds, h⟩) := by
    show evCode _ _ _ _ _ _ _ ((m + 75) + 1) _ _ = _
    rw [seq_ev e2]
    exact e3
  have f3 : ev call (m + 77) (.block 1 (.seq R4 I1)) ⟨t1, ds, h⟩ = some (.normal, ⟨t3, ds, h⟩) := block_ev f2
  show evCode _ _ _ _ _ _ _ ((m + 79) + 1) _ _ = _
  rw [seq_ev e1]
  show evCode _ _ _ _ _ _ _ ((m + 78) + 1) _ _ = _
  rw [seq_ev f1]
  show evCode _ _ _ _ _ _ _ ((m + 77) + 1) _ _ = _
  rw [seq_ev f3]
  exact e4


theorem outer {b o cp n : Nat} (hn : n < 4611686018427387904) {h : AH} {cs : List Value} {e : Nat} {ro : Bool} (hg : cellsAt h b = some (cs, e, ro)) (m : Nat) (ds : List ADef) :
    ∀ (l : List Nat) (i x : Nat) (t : List Value), x < 4294967296 → (∀ c ∈ l, c < 256) → i + l.length = n → (∀ (j c : Nat), l[j]? = some c → cs[o + i + j]? = some (.int .u8 (c : Int))) →
      LS (x : Int) (.slice (some ⟨b, o, none⟩) n cp) n i t →
      ∃ t', ev call (m + l.length + 82) (.loop LB) ⟨t, ds, h⟩ = some (.exit 0, ⟨t', ds, h⟩) ∧ LS ((crcAll x l : Nat) : Int) (.slice (some ⟨b, o, none⟩) n cp) n n t' ∧ crcAll x l < 4294967296
  | [], i, x, t, hx, _, hi, _, hs => by
    have hi' : i = n := by simpa using hi
    subst hi'
    obtain ⟨t1, e1, s1, b1⟩ := r3b call hs (m + 70) ds h
    have hb : aeval t1 (.tmp 9) = some (.bool false) := by
      simp only [aeval, lget_eq, b1]
      rw [decide_eq_false (by omega)]
    have f1 : ev call (m + 79) (.cond (.tmp 9) .skip (.exit 0)) ⟨t1, ds, h⟩ = some (.exit 0, ⟨t1, ds, h⟩) := by
      show evCode _ _ _ _ _ _ _ ((m + 78) + 1) _ _ = _
      rw [cond_ev hb]
      rfl
    have f2 : ev call (m + 81) LB ⟨t, ds, h⟩ = some (.exit 0, ⟨t1, ds, h⟩) := by
      rw [LB_eq]
      show evCode _ _ _ _ _ _ _ ((m + 80) + 1) _ _ = _
      rw [seq_ev e1]
      show evCode _ _ _ _ _ _ _ ((m + 79) + 1) _ _ = _
      exact seq_ev_out (fun h => by cases h) f1
    exact ⟨t1, loop_out (fun h => by cases h) f2, s1, hx⟩
  | c :: l, i, x, t, hx, hc, hi, hcs, hs => by
    simp only [List.length_cons] at hi
    obtain ⟨t1, e1, s1, hlt⟩ := round call hx hs (by omega) hn hg (hc c (by simp)) (by simpa using hcs 0 c rfl) (m + l.length + 2) ds
    obtain ⟨t2, e2, s2, hlt2⟩ := outer hn hg m ds l (i + 1) (crcByte x c) t1 hlt (fun d hd => hc d (by simp [hd])) (by omega) (fun j d hj => by
      have := hcs (j + 1) d (by simpa using hj)
      rw [show o + (i + 1) + j = o + i + (j + 1) by omega]; exact this) s1
    refine ⟨t2, ?_, s2, hlt2⟩
    show evCode _ _ _ _ _ _ _ ((m + l.length + 82) + 1) _ _ = _
    rw [loop_ev e1]
    exact e2

noncomputable def R0 : Code := at1 body [.l]
noncomputable def R1 : Code := at1 body [.r, .l]
noncomputable def R2 : Code := at1 body [.r, .r, .l, .l]
noncomputable def R11 : Code := at1 body [.r, .r, .r, .l]
theorem body_eq : body = .seq R0 (.seq R1 (.seq (.seq R2 (.block 0 (.loop LB))) (.seq R11 .ret))) := by kernel_rfl

def tA (s v2 v3 : Value) : List Value := [s, undef, v2, v3, undef, undef, undef, undef, undef, undef, undef, undef, undef, undef, undef, undef, undef, undef, undef, undef, undef, undef, undef, undef, undef, undef, undef, undef, undef]

theorem R0_ev (s : Value) (m : Nat) (h : AH) : ev call (m + 10) R0 ⟨tA s undef undef, [], h⟩ = some (.normal, ⟨tA s (.int .u32 0) undef, [], h⟩) := by kernel_rfl
theorem R1_ev (s : Value) (m : Nat) (h : AH) : ev call (m + 10) R1 ⟨tA s (.int .u32 0) undef, [], h⟩ = some (.normal, ⟨tA s (.int .u32 0) (.int .u32 4294967295), [], h⟩) := by kernel_rfl
theorem R2_ev (a : Option Addr) (n c : Nat) (m : Nat) (h : AH) : ∃ t, ev call (m + 10) R2 ⟨tA (.slice a n c) (.int .u32 0) (.int .u32 4294967295), [], h⟩ = some (.normal, ⟨t, [], h⟩) ∧ LS ((4294967295 : Nat) : Int) (.slice a n c) n 0 t := by
  refine ⟨[.slice a n c, undef, .int .u32 0, .int .u32 4294967295, undef, undef, .slice a n c, .int .i64 n, .int .i64 0, undef, undef, undef, undef, undef, undef, undef, undef, undef, undef, undef, undef, undef, undef, undef, undef, undef, undef, undef, undef], ?_, ⟨rfl, rfl, rfl, rfl, rfl⟩⟩
  kernel_rfl
theorem R11_ev {x : Int} {s : Value} {n i : Nat} {t : List Value} (hs : LS x s n i t) (m : Nat) (ds : List ADef) (h : AH) :
    ∃ t', ev call (m + 10) R11 ⟨t, ds, h⟩ = some (.normal, ⟨t', ds, h⟩) ∧ t'[2]? = some (.int .u32 (w32 (BitVec.ofInt 32 4294967295 ^^^ BitVec.ofInt 32 x).toNat)) := by
  obtain ⟨hl, h3, h6, h7, h8⟩ := hs
  obtain ⟨v0, v1, v2, v3, v4, v5, v6, v7, v8, v9, v10, v11, v12, v13, v14, v15, v16, v17, v18, v19, v20, v21, v22, v23, v24, v25, v26, v27, v28, rfl⟩ := list29 hl
  obtain rfl : v3 = _ := Option.some.inj h3
  clear hl h3 h6 h7 h8
  refine ⟨[v0, v1, .int .u32 (w32 (BitVec.ofInt 32 4294967295 ^^^ BitVec.ofInt 32 x).toNat), .int .u32 x, v4, v5, v6, v7, v8, v9, v10, v11, v12, v13, v14, v15, v16, v17, v18, v19, v20, v21, v22, v23, v24, v25, v26, .int .u32 x, .int .u32 (w32 (BitVec.ofInt 32 4294967295 ^^^ BitVec.ofInt 32 x).toNat)], ?_, rfl⟩
  kernel_rfl

theorem fin_nat {x : Nat} (hx : x < 4294967296) : w32 (BitVec.ofInt 32 4294967295 ^^^ BitVec.ofInt 32 (x : Int)).toNat = ((Nat.xor 4294967295 x : Nat) : Int) := by
  have e : (BitVec.ofInt 32 4294967295 ^^^ BitVec.ofInt 32 (x : Int)).toNat = Nat.xor 4294967295 x := by
    show (BitVec.ofInt 32 ((4294967295 : Nat) : Int) ^^^ BitVec.ofInt 32 (x : Int)).toNat = _
    rw [ofInt_nat, ofInt_nat, BitVec.toNat_xor, BitVec.toNat_ofNat, BitVec.toNat_ofNat, Nat.mod_eq_of_lt hx]
    rfl
  rw [e]
  exact wrap_u32 _ (xor_lt (by omega) hx)

theorem sum_code {b o cp n : Nat} (hn : n < 4611686018427387904) {h : AH} {cs : List Value} {e : Nat} {ro : Bool} (hg : cellsAt h b = some (cs, e, ro)) {l : List Nat} (hl : l.length = n) (hc : ∀ c ∈ l, c < 256)
    (hcs : ∀ (j c : Nat), l[j]? = some c → cs[o + j]? = some (.int .u8 (c : Int))) (m : Nat) :
    ∃ t', ev call (m + n + 90) body ⟨tA (.slice (some ⟨b, o, none⟩) n cp) undef undef, [], h⟩ = some (.ret, ⟨t', [], h⟩) ∧ t'[2]? = some (.int .u32 ((Nat.xor 4294967295 (crcAll 4294967295 l) : Nat) : Int)) := by
  obtain ⟨t1, e1, s1⟩ := R2_ev call (some ⟨b, o, none⟩) n cp (m + n + 76) h
  obtain ⟨t2, e2, s2, hlt⟩ := outer call hn hg (m + 3) [] l 0 4294967295 t1 (by omega) hc (by simpa using hl) (fun j c hj => by simpa using hcs j c hj) s1
  obtain ⟨t3, e3, v3⟩ := R11_ev call s2 (m + n + 76) [] h
  rw [fin_nat hlt] at v3
  refine ⟨t3, ?_, v3⟩
  rw [body_eq]
  have f1 : ev call (m + n + 86) (.block 0 (.loop LB)) ⟨t1, [], h⟩ = some (.normal, ⟨t2, [], h⟩) := by
    refine block_exit ?_
    have := e2
    rw [hl, show m + 3 + n + 82 = m + n + 85 by omega] at this
    exact this
  have f2 : ev call (m + n + 87) (.seq R2 (.block 0 (.loop LB))) ⟨tA (.slice (some ⟨b, o, none⟩) n cp) (.int .u32 0) (.int .u32 4294967295), [], h⟩ = some (.normal, ⟨t2, [], h⟩) := by
    show evCode _ _ _ _ _ _ _ ((m + n + 86) + 1) _ _ = _
    rw [seq_ev e1]
    exact f1
  show evCode _ _ _ _ _ _ _ ((m + n + 89) + 1) _ _ = _
  rw [seq_ev (R0_ev call _ (m + n + 79) h)]
  show evCode _ _ _ _ _ _ _ ((m + n + 88) + 1) _ _ = _
  rw [seq_ev (R1_ev call _ (m + n + 78) h)]
  show evCode _ _ _ _ _ _ _ ((m + n + 87) + 1) _ _ = _
  rw [seq_ev f2]
  show evCode _ _ _ _ _ _ _ ((m + n + 86) + 1) _ _ = _
  rw [seq_ev e3]
  rfl

/-! #### the contract -/
theorem u8s_ok : ∀ (vs : List Value) {l : List Nat}, u8s vs = some l → l.length = vs.length ∧ (∀ c ∈ l, c < 256) ∧ ∀ (j c : Nat), l[j]? = some c → vs[j]? = some (.int .u8 (c : Int))
  | [], l, h => by simp [u8s] at h; subst h; simp
  | v :: r, l, h => by
    unfold u8s at h
    split at h
    · next hnil => cases hnil
    · next x r' heq =>
      cases heq
      split at h
      · next hx =>
        split at h
        · next l' hl' =>
          cases h
          obtain ⟨h1, h2, h3⟩ := u8s_ok r hl'
          refine ⟨by simp [h1], fun c hc => ?_, fun j c hj => ?_⟩
          · rcases List.mem_cons.1 hc with rfl | hc
            · exact hx
            · exact h2 c hc
          · cases j with
            | zero => simp at hj; subst hj; rfl
            | succ j => simpa using h3 j c (by simpa using hj)
        · cases h
      · cases h
    · cases h

theorem sum_call {args : List Value} {h : AH} {r : CRes} (he : sumOver call args h = some r) : ∃ N, evCall Tryz.prog B.Γ B.Δ B.plan (fun _ _ _ _ => none) 3 N 1 188 args h = some r := by
  unfold sumOver at he
  split at he
  case h_2 => cases he
  next b o n cp =>
  split at he
  case h_2 => cases he
  next cs e ro hg =>
  split at he
  case h_2 => cases he
  next l hl =>
  split at he
  case isFalse => cases he
  next hln =>
  split at he
  case isFalse => cases he
  next hn =>
  cases he
  obtain ⟨h1, h2, h3⟩ := u8s_ok _ hl
  obtain ⟨t', e1, e2⟩ := sum_code (fun _ _ _ => none) (cp := cp) hn hg hln h2 (fun j c hj => by
    have := h3 j c hj
    rw [List.getElem?_take] at this
    split at this
    · simpa [List.getElem?_drop] using this
    · cases this) 0
  refine ⟨0 + n + 90, ?_⟩
  have hF : B.Γ.fn 188 = some Tryz.f188 := by kernel_rfl
  have hb : Tryz.f188.body = some body := by kernel_rfl
  have hz : zeroTmps Tryz.f188 [.slice (some ⟨b, o, none⟩) n cp] = tA (.slice (some ⟨b, o, none⟩) n cp) undef undef := by kernel_rfl
  have hres : Tryz.f188.results.toList = [.tmp 2] := by kernel_rfl
  have e1' : evCode Tryz.prog B.Γ B.Δ 188 (B.plan 188) (fun _ _ _ => none) (fun _ _ _ => none) (0 + n + 90) body ⟨tA (.slice (some ⟨b, o, none⟩) n cp) undef undef, [], h⟩ = some (.ret, ⟨t', [], h⟩) := e1
  simp only [evCall, evEnv, hF, hb, hz, e1', marked, evLeave, evRes, hres, evResults, e2, wrap1]

theorem sum_ov (hT : TabsOk Tryz.prog 3 B) (w0 : World) {args : List Value} {h : AH} {r : CRes} (he : sumOver call args h = some r) (π : Pi) (w : World) (A : Array Value) (s : Sim w0 π h w) (gl : Glob 3 π)
    (ha : VRL π args A.toList) : Calls Tryz.prog 188 A w (fun e w' => CResR w0 π h e w' r) := by
  obtain ⟨N, hN⟩ := sum_call call he
  exact evCall_ok hT.Γ hT.Δ hT.codes' (NG := 3) (ov := fun _ _ _ _ => none) (fun f call _ args h r hg => by cases hg) N 1 188 args h r hN π w A s gl ha
end
end Go.Proofs.YtbimgjagacligaaGreatDoor.Sum
