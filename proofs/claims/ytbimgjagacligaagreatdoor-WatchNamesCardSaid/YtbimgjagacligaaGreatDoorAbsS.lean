/- A part of the abstract machine: an evaluator of the model's code over an abstract heap, proved sound against the model's walks (Calls, wp). No condition beyond each theorem's own premises. -/
import Derived.Test.YtbimgjagacligaaGreatDoorAbsK
set_option linter.unusedVariables false
set_option linter.unusedSimpArgs false
namespace Go.Abs
open Go Go.RowKit
noncomputable section

/-- one bit of the checksum, on naturals -/
def crcBit (n : Nat) : Nat := match n % 2 with
  | 0 => n / 2
  | _ => Nat.xor (n / 2) 3988292384
def crcByte (x c : Nat) : Nat := crcBit (crcBit (crcBit (crcBit (crcBit (crcBit (crcBit (crcBit (Nat.xor x c))))))))

theorem wrap_u32 (n : Nat) (h : n < 4294967296) : IntKind.u32.wrap (n : Int) = (n : Int) := by
  have : IntKind.u32.wrap (n : Int) = (n : Int) % 4294967296 := rfl
  rw [this]; omega

theorem ofInt_nat (n : Nat) : BitVec.ofInt 32 (n : Int) = BitVec.ofNat 32 n := by
  rw [BitVec.ofInt_natCast]

theorem crcBit_lt {n : Nat} (h : n < 4294967296) : crcBit n < 4294967296 := by
  unfold crcBit
  split
  · omega
  · exact Nat.xor_lt_two_pow (n := 32) (by omega) (by omega)
theorem xor_lt {n m : Nat} (h : n < 4294967296) (h' : m < 4294967296) : Nat.xor n m < 4294967296 := Nat.xor_lt_two_pow (n := 32) h h'

theorem and_u32 {n m : Nat} (h : n < 4294967296) (h' : m < 4294967296) : aInt .and .u32 (n : Int) (m : Int) = some (.int .u32 ((Nat.land n m : Nat) : Int)) := by
  have e : (BitVec.ofInt IntKind.u32.bits (n : Int) &&& BitVec.ofInt IntKind.u32.bits (m : Int)).toNat = Nat.land n m := by
    show (BitVec.ofInt 32 (n : Int) &&& BitVec.ofInt 32 (m : Int)).toNat = Nat.land n m
    rw [ofInt_nat, ofInt_nat, BitVec.toNat_and, BitVec.toNat_ofNat, BitVec.toNat_ofNat, Nat.mod_eq_of_lt h, Nat.mod_eq_of_lt h']
    rfl
  simp only [aInt, e]
  rw [wrap_u32]
  exact Nat.lt_of_le_of_lt Nat.and_le_left h
theorem xor_u32 {n m : Nat} (h : n < 4294967296) (h' : m < 4294967296) : aInt .xor .u32 (n : Int) (m : Int) = some (.int .u32 ((Nat.xor n m : Nat) : Int)) := by
  have e : (BitVec.ofInt IntKind.u32.bits (n : Int) ^^^ BitVec.ofInt IntKind.u32.bits (m : Int)).toNat = Nat.xor n m := by
    show (BitVec.ofInt 32 (n : Int) ^^^ BitVec.ofInt 32 (m : Int)).toNat = Nat.xor n m
    rw [ofInt_nat, ofInt_nat, BitVec.toNat_xor, BitVec.toNat_ofNat, BitVec.toNat_ofNat, Nat.mod_eq_of_lt h, Nat.mod_eq_of_lt h']
    rfl
  simp only [aInt, e]
  rw [wrap_u32 _ (xor_lt h h')]

/-! #### code, step by step -/
section
variable {P : Program} {Γ : Ctx} {Δ : Ctx2} {me : Nat} {pl : Nat → Option Plan} {call : Caller} {rnd : Rounder}
theorem seq_ev {n : Nat} {x y : Code} {σ σ' : St} (h1 : evCode P Γ Δ me pl call rnd n x σ = some (.normal, σ')) : evCode P Γ Δ me pl call rnd (n + 1) (.seq x y) σ = evCode P Γ Δ me pl call rnd n y σ' := by simp only [evCode, h1]
theorem seq_ev_out {n : Nat} {x y : Code} {σ σ' : St} {o : Out} (ho : ∀ h : o = .normal, False) (h1 : evCode P Γ Δ me pl call rnd n x σ = some (o, σ')) : evCode P Γ Δ me pl call rnd (n + 1) (.seq x y) σ = some (o, σ') := by
  cases o <;> first | exact (ho rfl).elim | simp only [evCode, h1]
theorem block_ev {n id : Nat} {x : Code} {σ σ' : St} (h1 : evCode P Γ Δ me pl call rnd n x σ = some (.normal, σ')) : evCode P Γ Δ me pl call rnd (n + 1) (.block id x) σ = some (.normal, σ') := by simp only [evCode, h1]
theorem block_exit {n id : Nat} {x : Code} {σ σ' : St} (h1 : evCode P Γ Δ me pl call rnd n x σ = some (.exit id, σ')) : evCode P Γ Δ me pl call rnd (n + 1) (.block id x) σ = some (.normal, σ') := by
  simp only [evCode, h1]
  rw [Nat.beq_refl]
theorem loop_ev {n : Nat} {x : Code} {σ σ' : St} (h1 : evCode P Γ Δ me pl call rnd n x σ = some (.normal, σ')) : evCode P Γ Δ me pl call rnd (n + 1) (.loop x) σ = evCode P Γ Δ me pl call rnd n (.loop x) σ' := by simp only [evCode, h1]
theorem loop_out {n : Nat} {x : Code} {σ σ' : St} {o : Out} (ho : ∀ h : o = .normal, False) (h1 : evCode P Γ Δ me pl call rnd n x σ = some (o, σ')) : evCode P Γ Δ me pl call rnd (n + 1) (.loop x) σ = some (o, σ') := by
  cases o <;> first | exact (ho rfl).elim | simp only [evCode, h1]
theorem cond_ev {n : Nat} {c : Operand} {x y : Code} {σ : St} {b : Bool} (h1 : aeval σ.t c = some (.bool b)) : evCode P Γ Δ me pl call rnd (n + 1) (.cond c x y) σ = evCode P Γ Δ me pl call rnd n (match b with | true => x | false => y) σ := by
  simp only [evCode, h1]
  cases b <;> rfl
theorem region_ev {n id : Nat} {ops : Array Oper} {σ σ' : St} (h1 : evSeqY P Γ Δ call rnd ops ops.toList σ = some (none, σ')) : evCode P Γ Δ me pl call rnd (n + 1) (.region id ops false) σ = some (.normal, σ') := by simp only [evCode, h1]
theorem evSeq_cons {ops : Array Oper} {o : Oper} {l : List Oper} {t : List Value} {ds : List ADef} {h h' : AH} {v : Value} (hg : o.guard = none) (h1 : evStepY P Γ Δ call rnd o t h = some (.next v h')) :
    evSeqY P Γ Δ call rnd ops (o :: l) ⟨t, ds, h⟩ = evSeqY P Γ Δ call rnd ops l ⟨aput t o.dst v, ds, h'⟩ := by
  simp only [evSeqY, aWanted, hg, h1]
theorem evStepY_of {o : Oper} {t : List Value} {h : AH} {r : SRes} (h1 : evStep P Γ Δ call o t h = some r) : evStepY P Γ Δ call rnd o t h = some r := by
  unfold evStepY; rw [h1]
theorem evStep_indexAddr {o : Oper} {t : List Value} {h : AH} {ty : TypeId} {x i : Operand} {v j r : Value} (ho : o.op = .indexAddr ty x i) (hx : aeval t x = some v) (hi : aeval t i = some j) (hr : aIndexAddr Γ ty v j = some r) :
    evStepY P Γ Δ call rnd o t h = some (.next r h) := by
  refine evStepY_of ?_
  unfold evStep evOpS
  rw [ho]
  simp only [eo_indexAddr, hx, hi, hr]
theorem evStep_load {o : Oper} {t : List Value} {h : AH} {ty : TypeId} {x : Operand} {v r : Value} (ho : o.op = .load ty x) (hx : aeval t x = some v) (hr : aLoad Γ ty v h = some r) :
    evStepY P Γ Δ call rnd o t h = some (.next r h) := by
  refine evStepY_of ?_
  unfold evStep evOpS
  rw [ho]
  simp only [eo_load, hx, hr]
theorem evStep_assign {o : Oper} {t : List Value} {h : AH} {x : Operand} {v : Value} (ho : o.op = .assign x) (hx : aeval t x = some v) : evStepY P Γ Δ call rnd o t h = some (.next v h) := by
  refine evStepY_of ?_
  unfold evStep evOpS
  rw [ho]
  simp only [eo_move, hx]
end
end
end Go.Abs
