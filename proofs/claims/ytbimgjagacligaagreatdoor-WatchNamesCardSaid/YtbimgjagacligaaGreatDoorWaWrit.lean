/- The contract of (*World).written: the sum over all sites, in whatever order the map is walked. No condition beyond the state that it is called in. -/
import Derived.Test.YtbimgjagacligaaGreatDoorAbsW
import Derived.Test.YtbimgjagacligaaGreatDoorWaSum
import Derived.Test.YtbimgjagacligaaGreatDoorWaTab2
import Derived.OrdersIn
namespace Go.Proofs.YtbimgjagacligaaGreatDoor.Writ
open Go Go.Abs Go.Proofs.YtbimgjagacligaaGreatDoor.Sum
noncomputable section
set_option maxRecDepth 100000
set_option linter.unusedVariables false
set_option linter.unusedSimpArgs false

noncomputable def body : Code := (Tryz.f45.body).getD .skip
noncomputable def R0 : Code := at1 body [.l]
noncomputable def R1 : Code := at1 body [.r, .l]
noncomputable def R2 : Code := at1 body [.r, .r, .l, .l]
noncomputable def LB : Code := at1 body [.r, .r, .l, .r, .b, .b]
noncomputable def R6 : Code := at1 body [.r, .r, .r, .l]
noncomputable def R3 : Code := at1 LB [.l]
noncomputable def R4 : Code := at1 LB [.r, .r, .b, .l]
noncomputable def R5 : Code := at1 LB [.r, .r, .b, .r]
theorem body_eq : body = .seq R0 (.seq R1 (.seq (.seq R2 (.block 0 (.loop LB))) (.seq R6 .ret))) := by kernel_rfl
theorem LB_eq : LB = .seq R3 (.seq (.cond (.tmp 12) .skip (.exit 0)) (.block 1 (.seq R4 R5))) := by kernel_rfl
theorem R2_eq : R2 = .region 2 (opsOf R2) false := by kernel_rfl
theorem R3_eq : R3 = .region 3 (opsOf R3) false := by kernel_rfl
theorem R4_eq : R4 = .region 4 (opsOf R4) false := by kernel_rfl
theorem R5_eq : R5 = .region 5 (opsOf R5) false := by kernel_rfl
theorem R2_g : ((opsOf R2).toList.all fun o => o.guard.isNone) = true := by kernel_rfl
theorem R3_g : ((opsOf R3).toList.all fun o => o.guard.isNone) = true := by kernel_rfl
theorem R4_g : ((opsOf R4).toList.all fun o => o.guard.isNone) = true := by kernel_rfl
theorem R5_g : ((opsOf R5).toList.all fun o => o.guard.isNone) = true := by kernel_rfl
theorem R2_l : (opsOf R2).toList.map dop = [(some 6, .move (.tmp 0)), (some 7, .nilCheck (.tmp 6)), (some 8, .fieldAddr 65 (.tmp 7) 1), (some 9, .load 61 (.tmp 8)), (some 10, .range 61 (.tmp 9))] := by kernel_rfl
theorem R3_l : (opsOf R3).toList.map dop = [(some 11, .next (.tmp 10) false), (some 12, .extract (.tmp 11) 0)] := by kernel_rfl
theorem R4_l : (opsOf R4).toList.map dop = [(some 13, .entry (.tmp 10)), (some 14, .extract (.tmp 13) 1), (some 5, .assign (.tmp 14))] := by kernel_rfl
def callOf : Op → Call
  | .call c => c
  | _ => { callee := .value (.tmp 0), args := #[], argTypes := #[] }
noncomputable def c20 : Call := match (opsOf R5)[5]? with
  | some o => callOf o.op
  | none => callOf (.move (.tmp 0))
theorem R5_l : (opsOf R5).toList.map dop = [(some 15, .move (.tmp 3)), (some 16, .move (.tmp 5)), (some 17, .nilCheck (.tmp 16)), (some 18, .fieldAddr 73 (.tmp 17) 0), (some 19, .load 66 (.tmp 18)), (some 20, .call c20),
    (some 21, .binOp .add 3 (.tmp 15) (.tmp 20) 3), (some 3, .assign (.tmp 21))] := by kernel_rfl
theorem c20_f : c20.callee = .value (.func 88) := by kernel_rfl
theorem c20_a : c20.args = #[.tmp 19] := by kernel_rfl
theorem fa60 (b o : Nat) : aFieldAddr B.Γ 65 (.pointer (some ⟨b, o, none⟩)) 1 = some (.pointer (some ⟨b, o + 3, none⟩)) := by kernel_rfl
theorem fa68 (b o : Nat) : aFieldAddr B.Γ 73 (.pointer (some ⟨b, o, none⟩)) 0 = some (.pointer (some ⟨b, o + 0, none⟩)) := by kernel_rfl
theorem fa99 (b o : Nat) : aFieldAddr B.Γ 109 (.pointer (some ⟨b, o, none⟩)) 1 = some (.pointer (some ⟨b, o + 1, none⟩)) := by kernel_rfl
theorem ty56 : ∃ i, B.Γ.ty 61 = some i ∧ i.k = .map 3 69 := ⟨_, rfl, rfl⟩
theorem ty61 : ∃ i, B.Γ.ty 66 = some i ∧ i.k.agg = false := ⟨_, rfl, rfl⟩
theorem ty3 : ∃ i, B.Γ.ty 3 = some i ∧ i.k.agg = false := ⟨_, rfl, rfl⟩
theorem ty56a : ∃ i, B.Γ.ty 61 = some i ∧ i.k.agg = false := ⟨_, rfl, rfl⟩
theorem aLoad1 {t b o : Nat} {h : AH} {cs : List Value} {e : Nat} {ro : Bool} {v : Value} (ht : ∃ i, B.Γ.ty t = some i ∧ i.k.agg = false) (hg : cellsAt h b = some (cs, e, ro)) (hc : cs[o]? = some v) : aLoad B.Γ t (.pointer (some ⟨b, o, none⟩)) h = some v := by
  obtain ⟨i, h1, h2⟩ := ht
  unfold aLoad
  simp only [h1, hg, h2, Bool.false_eq_true, if_false, hc]

section
variable {P : Program} {Γ : Ctx} {Δ : Ctx2} {t : List Value} {h : AH}
theorem o_move {d : Option Tmp} {x : Operand} {v : Value} (hx : aeval t x = some v) : evOpS P Γ Δ (bareOp d (.move x)) t h = some (.val v h) := by simp only [evOpS, bareOp, eo_move, hx]
theorem o_assign {d : Option Tmp} {x : Operand} {v : Value} (hx : aeval t x = some v) : evOpS P Γ Δ (bareOp d (.assign x)) t h = some (.val v h) := by simp only [evOpS, bareOp, eo_move, hx]
theorem o_nil {d : Option Tmp} {x : Operand} {a : Addr} (hx : aeval t x = some (.pointer (some a))) : evOpS P Γ Δ (bareOp d (.nilCheck x)) t h = some (.val (.pointer (some a)) h) := by simp only [evOpS, bareOp, eo_nilCheck, hx]
theorem o_fa {d : Option Tmp} {x : Operand} {v r : Value} {ty f : Nat} (hx : aeval t x = some v) (hr : aFieldAddr Γ ty v f = some r) : evOpS P Γ Δ (bareOp d (.fieldAddr ty x f)) t h = some (.val r h) := by simp only [evOpS, bareOp, eo_fieldAddr, hx, hr]
theorem o_load {d : Option Tmp} {x : Operand} {v r : Value} {ty : Nat} (hx : aeval t x = some v) (hr : aLoad Γ ty v h = some r) : evOpS P Γ Δ (bareOp d (.load ty x)) t h = some (.val r h) := by simp only [evOpS, bareOp, eo_load, hx, hr]
theorem o_range {d : Option Tmp} {x : Operand} {v r : Value} {ty : Nat} {h' : AH} (hx : aeval t x = some v) (hr : aRange Γ ty v h = some (r, h')) : evOpS P Γ Δ (bareOp d (.range ty x)) t h = some (.val r h') := by simp only [evOpS, bareOp, eo_range, hx, hr]
theorem o_entry {d : Option Tmp} {x : Operand} {v r : Value} (hx : aeval t x = some v) (hr : aEntry v h = some r) : evOpS P Γ Δ (bareOp d (.entry x)) t h = some (.val r h) := by simp only [evOpS, bareOp, eo_entry, hx, hr]
theorem o_extract {d : Option Tmp} {x : Operand} {vs : Array Value} {v : Value} {i : Nat} (hx : aeval t x = some (.tuple vs)) (hv : vs.toList[i]? = some v) : evOpS P Γ Δ (bareOp d (.extract x i)) t h = some (.val v h) := by simp only [evOpS, bareOp, eo_extract, hx, hv]
theorem o_bin {d : Option Tmp} {op : BinOp} {x y : Operand} {a b r : Value} {ty ty' : Nat} (hx : aeval t x = some a) (hy : aeval t y = some b) (hr : aBin P Γ op ty a b = some r) : evOpS P Γ Δ (bareOp d (.binOp op ty x y ty')) t h = some (.val r h) := by simp only [evOpS, bareOp, eo_binOp, hx, hy, hr]
end

/-- a state of the loop -/
structure WS (acc it : Nat) (t : List Value) : Prop where
  len : t.length = 23
  acc : t[3]? = some (.int .i64 (acc : Int))
  it : t[10]? = some (.pointer (some ⟨it, 0, none⟩))

theorem WS.set {acc it : Nat} {t : List Value} (h : WS acc it t) (k : Nat) (v : Value) (h3 : k ≠ 3) (h10 : k ≠ 10) : WS acc it (t.set k v) :=
  ⟨by simp [h.len], by rw [List.getElem?_set_ne h3]; exact h.acc, by rw [List.getElem?_set_ne h10]; exact h.it⟩

variable (call : Caller)
theorem R4_ev {acc it m : Nat} {t : List Value} (hs : WS acc it t) {h : AH} {seen : List Nat} {clock since : Nat} {es : List MapEntry} {e : MapEntry} (hg : h.get it = some (.mapIter (some m) since (seen ++ [e.born]) clock)) (hm : mapAt h m = some (es, clock))
    (hf : es.find? (fun x => x.born == e.born) = some e) (k : Nat) (ds : List ADef) :
    ∃ t', evCode Tryz.prog B.Γ B.Δ 45 (B.plan 45) call noRnd (k + 1) R4 ⟨t, ds, h⟩ = some (.normal, ⟨t', ds, h⟩) ∧ WS acc it t' ∧ t'[5]? = some e.val := by
  have l := hs.len
  refine ⟨((t.set 13 (.tuple #[e.key, e.val])).set 14 e.val).set 5 e.val, ?_, ((hs.set _ _ (by omega) (by omega)).set _ _ (by omega) (by omega)).set _ _ (by omega) (by omega), by rw [List.getElem?_set_self]; simp [l]⟩
  rw [R4_eq]
  refine region_ev ?_
  rw [evSeqY_bare _ _ R4_g, R4_l]
  have he : aEntry (.pointer (some ⟨it, 0, none⟩)) h = some (.tuple #[e.key, e.val]) := by
    unfold aEntry
    simp only [if_true, hg, List.getLast?_append, List.getLast?_singleton, Option.some_or, hm, hf]
  rw [evL_val (o_entry (aev hs.it) he)]
  simp only [aput, lset_eq]
  rw [evL_val (o_extract (vs := #[e.key, e.val]) (v := e.val) (aev (by rw [List.getElem?_set_self]; simp [l])) rfl)]
  simp only [aput, lset_eq]
  rw [evL_val (o_assign (v := e.val) (aev (by rw [List.getElem?_set_self]; simp [l])))]
  simp only [aput, lset_eq]
  rfl

theorem wrap_i64 (n : Nat) (h : n < 9223372036854775808) : IntKind.i64.wrap (n : Int) = (n : Int) := IntWalk.i64_in _ ⟨by omega, by omega⟩
theorem add_i64 {a b : Nat} (h : a + b < 9223372036854775808) : aBin Tryz.prog B.Γ .add 3 (.int .i64 (a : Int)) (.int .i64 (b : Int)) = some (.int .i64 ((a + b : Nat) : Int)) := by
  have e : aBin Tryz.prog B.Γ .add 3 (.int .i64 (a : Int)) (.int .i64 (b : Int)) = some (.int .i64 (IntKind.i64.wrap ((a : Int) + (b : Int)))) := by kernel_rfl
  rw [e]
  have := wrap_i64 (a + b) h
  rw [← this]; rfl

theorem inv56 (v : Value) (h : AH) : aInvoke B.Γ B.Δ (Fn.func 88) [] ([] ++ [v]) h = some (ARes.enter 88 [v] h) := by kernel_rfl
theorem siteN_inv {h : AH} {e : MapEntry} {n : Nat} (hn : siteN h e = some n) : ∃ sb so ss e1 r1 db d dd e2 r2, e.val = .pointer (some ⟨sb, so, none⟩) ∧ cellsAt h sb = some (ss, e1, r1) ∧ ss[so]? = some (.pointer (some ⟨db, d, none⟩)) ∧ cellsAt h db = some (dd, e2, r2) ∧
    dd[d + 1]? = some (.int .i64 (n : Int)) ∧ n < 4294967296 := by
  unfold siteN at hn
  split at hn
  case h_2 => cases hn
  next sb so hv =>
  split at hn
  case h_2 => cases hn
  next ss e1 r1 h1 =>
  split at hn
  case h_2 => cases hn
  next db d h2 =>
  split at hn
  case h_2 => cases hn
  next dd e2 r2 h3 =>
  split at hn
  case h_2 => cases hn
  next k h4 =>
  split at hn
  case isFalse => cases hn
  next hk =>
  cases hn
  exact ⟨sb, so, ss, e1, r1, db, d, dd, e2, r2, hv, h1, h2, h3, h4, hk⟩

theorem R5_ev {acc it : Nat} {t : List Value} (hs : WS acc it t) {h : AH} {e : MapEntry} (h5 : t[5]? = some e.val) {n : Nat} (hn : siteN h e = some n) (ha : acc < 4611686018427387904)
    (hc : ∀ v, (∃ db d dd e2 r2, v = .pointer (some ⟨db, d, none⟩) ∧ cellsAt h db = some (dd, e2, r2) ∧ dd[d + 1]? = some (.int .i64 (n : Int))) → call 88 [v] h = some (.ret (.int .i64 (n : Int)) h)) (k : Nat) (ds : List ADef) :
    ∃ t', evCode Tryz.prog B.Γ B.Δ 45 (B.plan 45) call noRnd (k + 1) R5 ⟨t, ds, h⟩ = some (.normal, ⟨t', ds, h⟩) ∧ WS (acc + n) it t' := by
  obtain ⟨sb, so, ss, e1, r1, db, d, dd, e2, r2, hv, g1, g2, g3, g4, hk⟩ := siteN_inv hn
  rw [hv] at h5
  have l := hs.len
  have hcall := hc _ ⟨db, d, dd, e2, r2, rfl, g3, g4⟩
  have S := hs.acc
  have I := hs.it
  refine ⟨(((((((t.set 15 (.int .i64 (acc : Int))).set 16 (.pointer (some ⟨sb, so, none⟩))).set 17 (.pointer (some ⟨sb, so, none⟩))).set 18 (.pointer (some ⟨sb, so + 0, none⟩))).set 19 (.pointer (some ⟨db, d, none⟩))).set 20 (.int .i64 (n : Int))).set 21 (.int .i64 ((acc + n : Nat) : Int))).set 3 (.int .i64 ((acc + n : Nat) : Int)), ?_,
    ⟨by simp [l], by rw [List.getElem?_set_self]; simp [l], by simp [List.getElem?_set, I]⟩⟩
  rw [R5_eq]
  refine region_ev ?_
  rw [evSeqY_bare _ _ R5_g, R5_l]
  rw [evL_val (o_move (aev S))]
  simp only [aput, lset_eq]
  rw [evL_val (o_move (v := .pointer (some ⟨sb, so, none⟩)) (aev (by simp [List.getElem?_set, h5])))]
  simp only [aput, lset_eq]
  rw [evL_val (o_nil (a := ⟨sb, so, none⟩) (aev (by rw [List.getElem?_set_self]; simp [l])))]
  simp only [aput, lset_eq]
  rw [evL_val (o_fa (v := .pointer (some ⟨sb, so, none⟩)) (aev (by rw [List.getElem?_set_self]; simp [l])) (fa68 sb so))]
  simp only [aput, lset_eq]
  rw [evL_val (o_load (v := .pointer (some ⟨sb, so + 0, none⟩)) (aev (by rw [List.getElem?_set_self]; simp [l])) (aLoad1 ty61 g1 (by simpa using g2)))]
  simp only [aput, lset_eq]
  have hop : evOpS Tryz.prog B.Γ B.Δ (bareOp (some 20) (.call c20)) (((((t.set 15 (.int .i64 (acc : Int))).set 16 (.pointer (some ⟨sb, so, none⟩))).set 17 (.pointer (some ⟨sb, so, none⟩))).set 18 (.pointer (some ⟨sb, so + 0, none⟩))).set 19 (.pointer (some ⟨db, d, none⟩))) h = some (.enter 88 [.pointer (some ⟨db, d, none⟩)] h) := by
    have a1 : aArgs (((((t.set 15 (.int .i64 (acc : Int))).set 16 (.pointer (some ⟨sb, so, none⟩))).set 17 (.pointer (some ⟨sb, so, none⟩))).set 18 (.pointer (some ⟨sb, so + 0, none⟩))).set 19 (.pointer (some ⟨db, d, none⟩))) [.tmp 19] = some [.pointer (some ⟨db, d, none⟩)] := by
      have := aev (t := ((((t.set 15 (.int .i64 (acc : Int))).set 16 (.pointer (some ⟨sb, so, none⟩))).set 17 (.pointer (some ⟨sb, so, none⟩))).set 18 (.pointer (some ⟨sb, so + 0, none⟩))).set 19 (.pointer (some ⟨db, d, none⟩))) (i := 19) (v := .pointer (some ⟨db, d, none⟩)) (by rw [List.getElem?_set_self]; simp [l])
      simp only [aArgs, this]
    simp only [evOpS, bareOp, aCall, c20_f, c20_a, a1, aeval]
    exact inv56 _ _
  rw [evL_call hop hcall]
  simp only [aput, lset_eq]
  rw [evL_val (o_bin (a := .int .i64 (acc : Int)) (b := .int .i64 (n : Int)) (r := .int .i64 ((acc + n : Nat) : Int)) (aev (by simp [List.getElem?_set, l])) (aev (by rw [List.getElem?_set_self]; simp [l])) (add_i64 (by omega)))]
  simp only [aput, lset_eq]
  rw [evL_val (o_assign (v := .int .i64 ((acc + n : Nat) : Int)) (aev (by rw [List.getElem?_set_self]; simp [l])))]
  simp only [aput, lset_eq]
  rfl

/-! #### Writes -/
noncomputable def body6 : Code := (Tryz.f88.body).getD .skip
noncomputable def W0 : Code := at1 body6 [.l]
noncomputable def W1 : Code := at1 body6 [.r, .l, .l]
noncomputable def W2 : Code := at1 body6 [.r, .l, .r]
noncomputable def W3 : Code := at1 body6 [.r, .r, .l]
theorem body6_eq : body6 = .seq W0 (.seq (.seq W1 W2) (.seq W3 .ret)) := by kernel_rfl
theorem W3_eq : W3 = .region 3 (opsOf W3) false := by kernel_rfl
theorem W3_g : ((opsOf W3).toList.all fun o => o.guard.isNone) = true := by kernel_rfl
theorem W3_l : (opsOf W3).toList.map dop = [(some 5, .move (.tmp 0)), (some 6, .nilCheck (.tmp 5)), (some 7, .fieldAddr 109 (.tmp 6) 1), (some 8, .load 3 (.tmp 7)), (some 2, .assign (.tmp 8))] := by kernel_rfl
theorem W0_ev (b o k : Nat) (h : AH) : evCode Tryz.prog B.Γ B.Δ 88 (B.plan 88) call noRnd (k + 10) W0 ⟨[.pointer (some ⟨b, o, none⟩), undef, undef, undef, undef, undef, undef, undef, undef], [], h⟩ =
    some (.normal, ⟨[.pointer (some ⟨b, o, none⟩), undef, .int .i64 0, undef, undef, undef, undef, undef, undef], [], h⟩) := by kernel_rfl
theorem W1_ev (b o k : Nat) (h : AH) : evCode Tryz.prog B.Γ B.Δ 88 (B.plan 88) call noRnd (k + 10) W1 ⟨[.pointer (some ⟨b, o, none⟩), undef, .int .i64 0, undef, undef, undef, undef, undef, undef], [], h⟩ =
    some (.normal, ⟨[.pointer (some ⟨b, o, none⟩), undef, .int .i64 0, .pointer (some ⟨b, o, none⟩), .bool false, undef, undef, undef, undef], [], h⟩) := by kernel_rfl
theorem W2_ev (b o k : Nat) (h : AH) : evCode Tryz.prog B.Γ B.Δ 88 (B.plan 88) call noRnd (k + 10) W2 ⟨[.pointer (some ⟨b, o, none⟩), undef, .int .i64 0, .pointer (some ⟨b, o, none⟩), .bool false, undef, undef, undef, undef], [], h⟩ =
    some (.normal, ⟨[.pointer (some ⟨b, o, none⟩), undef, .int .i64 0, .pointer (some ⟨b, o, none⟩), .bool false, undef, undef, undef, undef], [], h⟩) := by kernel_rfl
theorem W3_ev (b o k : Nat) (h : AH) {dd : List Value} {e2 : Nat} {r2 : Bool} {n : Nat} (g : cellsAt h b = some (dd, e2, r2)) (hn : dd[o + 1]? = some (.int .i64 (n : Int))) : evCode Tryz.prog B.Γ B.Δ 88 (B.plan 88) call noRnd (k + 1) W3 ⟨[.pointer (some ⟨b, o, none⟩), undef, .int .i64 0, .pointer (some ⟨b, o, none⟩), .bool false, undef, undef, undef, undef], [], h⟩ =
    some (.normal, ⟨[.pointer (some ⟨b, o, none⟩), undef, .int .i64 (n : Int), .pointer (some ⟨b, o, none⟩), .bool false, .pointer (some ⟨b, o, none⟩), .pointer (some ⟨b, o, none⟩), .pointer (some ⟨b, o + 1, none⟩), .int .i64 (n : Int)], [], h⟩) := by
  rw [W3_eq]
  refine region_ev ?_
  rw [evSeqY_bare _ _ W3_g, W3_l]
  rw [evL_val (o_move (v := .pointer (some ⟨b, o, none⟩)) (aev rfl))]
  simp only [aput, lset_eq, List.set]
  rw [evL_val (o_nil (a := ⟨b, o, none⟩) (aev rfl))]
  simp only [aput, lset_eq, List.set]
  rw [evL_val (o_fa (v := .pointer (some ⟨b, o, none⟩)) (aev rfl) (fa99 b o))]
  simp only [aput, lset_eq, List.set]
  rw [evL_val (o_load (v := .pointer (some ⟨b, o + 1, none⟩)) (aev rfl) (aLoad1 ty3 g hn))]
  simp only [aput, lset_eq, List.set]
  rw [evL_val (o_assign (v := .int .i64 (n : Int)) (aev rfl))]
  simp only [aput, lset_eq, List.set]
  rfl
theorem writes_call (b o : Nat) (h : AH) {dd : List Value} {e2 : Nat} {r2 : Bool} {n : Nat} (g : cellsAt h b = some (dd, e2, r2)) (hn : dd[o + 1]? = some (.int .i64 (n : Int))) :
    evCall Tryz.prog B.Γ B.Δ B.plan (fun _ _ _ _ => none) 3 30 1 88 [.pointer (some ⟨b, o, none⟩)] h = some (.ret (.int .i64 (n : Int)) h) := by
  have hF : B.Γ.fn 88 = some Tryz.f88 := by kernel_rfl
  have hb : Tryz.f88.body = some body6 := by kernel_rfl
  have hz : zeroTmps Tryz.f88 [.pointer (some ⟨b, o, none⟩)] = [.pointer (some ⟨b, o, none⟩), undef, undef, undef, undef, undef, undef, undef, undef] := by kernel_rfl
  have hres : Tryz.f88.results.toList = [.tmp 2] := by kernel_rfl
  have e1 : evCode Tryz.prog B.Γ B.Δ 88 (B.plan 88) (fun _ _ _ => none) (fun _ _ _ => none) 30 body6 ⟨[.pointer (some ⟨b, o, none⟩), undef, undef, undef, undef, undef, undef, undef, undef], [], h⟩ =
      some (.ret, ⟨[.pointer (some ⟨b, o, none⟩), undef, .int .i64 (n : Int), .pointer (some ⟨b, o, none⟩), .bool false, .pointer (some ⟨b, o, none⟩), .pointer (some ⟨b, o, none⟩), .pointer (some ⟨b, o + 1, none⟩), .int .i64 (n : Int)], [], h⟩) := by
    rw [body6_eq]
    have f1 : evCode Tryz.prog B.Γ B.Δ 88 (B.plan 88) (fun _ _ _ => none) noRnd (27 + 1) (.seq W1 W2) ⟨[.pointer (some ⟨b, o, none⟩), undef, .int .i64 0, undef, undef, undef, undef, undef, undef], [], h⟩ = some (.normal, ⟨[.pointer (some ⟨b, o, none⟩), undef, .int .i64 0, .pointer (some ⟨b, o, none⟩), .bool false, undef, undef, undef, undef], [], h⟩) := by
      rw [seq_ev (W1_ev _ b o 17 h)]
      exact W2_ev _ b o 17 h
    have e0 := W0_ev (fun _ _ _ => none) b o 19 h
    have e3 := W3_ev (fun _ _ _ => none) b o 26 h g hn
    show evCode Tryz.prog B.Γ B.Δ 88 (B.plan 88) (fun _ _ _ => none) noRnd (29 + 1) _ _ = _
    rw [seq_ev e0]
    show evCode Tryz.prog B.Γ B.Δ 88 (B.plan 88) (fun _ _ _ => none) noRnd (28 + 1) _ _ = _
    rw [seq_ev f1]
    show evCode Tryz.prog B.Γ B.Δ 88 (B.plan 88) (fun _ _ _ => none) noRnd (27 + 1) _ _ = _
    rw [seq_ev e3]
    rfl
  simp only [evCall, evEnv, hF, hb, hz, e1, marked, evLeave, evRes, hres, evResults, wrap1]
  rfl

/-! #### the loop -/
noncomputable def o3 (k : Nat) : Oper := ((opsOf R3)[k]?).getD (bareOp none (.move (.tmp 0)))
theorem R3_size : (opsOf R3).size = 2 := by kernel_rfl
theorem o30 : (opsOf R3)[0]? = some (o3 0) := by kernel_rfl
theorem o31 : (opsOf R3)[1]? = some (o3 1) := by kernel_rfl
theorem o30_op : (o3 0).op = .next (.tmp 10) false := by kernel_rfl
theorem o30_g : (o3 0).guard = none := by kernel_rfl
theorem o30_d : (o3 0).dst = some 11 := by kernel_rfl
theorem o31_d : dop (o3 1) = (some 12, .extract (.tmp 11) 0) := by kernel_rfl
theorem o31_g : ([o3 1].all fun o => o.guard.isNone) = true := by kernel_rfl
theorem o31_gl : opGl 3 (o3 1) = true := by kernel_rfl
theorem R45_ok : codeOk 3 (B.plan 45) (.block 1 (.seq R4 R5)) = true := by kernel_rfl
theorem R2_ok : codeOk 3 (B.plan 45) R2 = true := by kernel_rfl
theorem R0_ok : codeOk 3 (B.plan 45) R0 = true := by kernel_rfl
theorem R1_ok : codeOk 3 (B.plan 45) R1 = true := by kernel_rfl
theorem R6_ok : codeOk 3 (B.plan 45) R6 = true := by kernel_rfl

noncomputable def cal : Caller := evCall Tryz.prog B.Γ B.Δ B.plan (fun _ _ _ _ => none) 3 30 1
theorem tOk : TabsOk Tryz.prog 3 B := tabsOk
theorem cal_ok (w0 : World) : CallerOk Tryz.prog w0 3 cal := evCall_ok tOk.Γ tOk.Δ tOk.codes' (fun f call _ args h r hg => by cases hg) 30 1
theorem rnd_ok (w0 : World) : RoundOk Tryz.prog w0 3 noRnd := fun b args h r he => by cases he

theorem sitesN_mem {h : AH} : ∀ {l : List MapEntry} {n : Nat}, sitesN h l = some n → ∀ e ∈ l, ∃ k, siteN h e = some k
  | [], n, hn, e, he => by cases he
  | x :: l, n, hn, e, he => by
    simp only [sitesN] at hn
    split at hn
    case h_2 => cases hn
    next a b h1 h2 =>
    rcases List.mem_cons.1 he with rfl | he
    · exact ⟨_, h1⟩
    · exact sitesN_mem h2 e he

/-- striking one entry strikes its share -/
theorem sitesN_out {h : AH} : ∀ {l : List MapEntry} {n : Nat}, sitesN h l = some n → (l.map (·.born)).Nodup → ∀ e ∈ l, ∃ k m, siteN h e = some k ∧ sitesN h (l.filter fun x => !(x.born == e.born)) = some m ∧ k + m = n
  | [], n, hn, _, e, he => by cases he
  | x :: l, n, hn, hd, e, he => by
    simp only [sitesN] at hn
    split at hn
    case h_2 => cases hn
    next a b h1 h2 =>
    cases hn
    simp only [List.map_cons, List.nodup_cons] at hd
    rcases List.mem_cons.1 he with rfl | he
    · have : (e :: l).filter (fun x => !(x.born == e.born)) = l := by
        simp only [List.filter_cons, beq_self_eq_true, Bool.not_true, Bool.false_eq_true, if_false]
        rw [List.filter_eq_self]
        intro y hy
        have : y.born ≠ e.born := fun e' => hd.1 (e' ▸ List.mem_map_of_mem hy)
        simpa using this
      rw [this]
      exact ⟨a, b, h1, h2, rfl⟩
    · obtain ⟨k, m, g1, g2, g3⟩ := sitesN_out h2 hd.2 e he
      have hne : x.born ≠ e.born := fun e' => hd.1 (e' ▸ List.mem_map_of_mem he)
      have : (x :: l).filter (fun y => !(y.born == e.born)) = x :: l.filter (fun y => !(y.born == e.born)) := by
        simp [List.filter_cons, hne]
      rw [this]
      refine ⟨k, a + m, g1, ?_, by omega⟩
      simp only [sitesN, h1, g2]

theorem siteN_agree {h h' : AH} {e : MapEntry} {n it : Nat} (hn : siteN h e = some n) (ha : ∀ b, b ≠ it → h'.get b = h.get b) {w0 : World} {π : Pi} {w : World} (s : Sim w0 π h w) (hit : h.next ≤ it) {V : Value} (hv : VR π e.val V) : siteN h' e = some n := by
  obtain ⟨sb, so, ss, e1, r1, db, d, dd, e2, r2, ev, g1, g2, g3, g4, hk⟩ := siteN_inv hn
  rw [ev] at hv
  obtain ⟨p, _, hp, _⟩ := hv.ptr_inv
  have lt : ∀ b p, π b = some p → b ≠ it := by
    intro b p hb e
    subst e
    rw [s.fresh _ hit] at hb; cases hb
  have hc : ∀ b p, π b = some p → cellsAt h' b = cellsAt h b := fun b p hb => by unfold cellsAt; rw [ha b (lt b p hb)]
  obtain ⟨_, C, E, fz, hB, _, _, hcs, _⟩ := s.blk _ _ _ hp (cellsAt_get g1)
  obtain ⟨V2, _, hv2⟩ := hcs _ _ g2
  obtain ⟨p2, _, hp2, _⟩ := hv2.ptr_inv
  unfold siteN
  simp only [ev, hc _ _ hp, g1, g2, hc _ _ hp2, g3, g4]
  have : (n : Int) = Int.ofNat n := rfl
  simp only [this, hk, if_true]

theorem find_born : ∀ {es : List MapEntry} {e : MapEntry}, (es.map (·.born)).Nodup → e ∈ es → es.find? (fun x => x.born == e.born) = some e
  | x :: l, e, hd, he => by
    simp only [List.map_cons, List.nodup_cons] at hd
    rcases List.mem_cons.1 he with rfl | he
    · simp
    · have hne : x.born ≠ e.born := fun e' => hd.1 (e' ▸ List.mem_map_of_mem he)
      rw [List.find?_cons_of_neg (by simpa using hne)]
      exact find_born hd.2 he
theorem filter_more (es : List MapEntry) (seen : List Nat) (b : Nat) : es.filter (fun e => !(seen ++ [b]).contains e.born) = (es.filter fun e => !seen.contains e.born).filter fun x => !(x.born == b) := by
  rw [List.filter_filter]
  congr 1
  funext x
  by_cases h1 : x.born = b <;> by_cases h2 : x.born ∈ seen <;> simp [h1, h2]
theorem filter_less {l : List MapEntry} {e : MapEntry} (he : e ∈ l) : (l.filter fun x => !(x.born == e.born)).length < l.length := by
  induction l with
  | nil => cases he
  | cons x l ih =>
    rcases List.mem_cons.1 he with rfl | he
    · have : (e :: l).filter (fun x => !(x.born == e.born)) = l.filter (fun x => !(x.born == e.born)) := by simp
      rw [this]
      exact Nat.lt_of_le_of_lt (List.length_filter_le _ _) (by simp)
    · have := ih he
      simp only [List.filter_cons, List.length_cons]
      split
      · simp only [List.length_cons]; omega
      · omega

section
variable {w0 : World} {h : AH} {es : List MapEntry} {clock m : Nat}
theorem loop_ok {π0 : Pi} {wA : World} (s0 : Sim w0 π0 h wA) {q0 : Spot} (hmq : π0 m = some q0) (hm : mapAt h m = some (es, clock)) (hold : ∀ e ∈ es, e.born < clock) (hnd : (es.map (·.born)).Nodup) {Q : Exit → Act → World → Prop} :
    ∀ (k : Nat) {seen : List Nat} {acc n : Nat} {t : List Value} {h' : AH} {π : Pi} {w : World} {a : Act}, (es.filter fun e => !seen.contains e.born).length = k → Sim w0 π h' w → Glob 3 π → ActR π t [] a → WS acc h.next t →
      (∃ p, π h.next = some p) → h'.get h.next = some (.mapIter (some m) clock seen clock) → (∀ b, b ≠ h.next → h'.get b = h.get b) → h'.next = h.next + 1 → sitesN h (es.filter fun e => !seen.contains e.born) = some n → acc + n < 4611686018427387904 →
      (∀ π' t' a' h'' w', WS (acc + n) h.next t' → ActR π' t' [] a' → Ext w0 π h' π' h'' w' → (∀ b, b ≠ h.next → h''.get b = h.get b) → h''.next = h.next + 1 → Q (.exit 0) a' w') → wpL Fence.wide 0 Tryz.prog LB Q a w := by
  have mne : m ≠ h.next := by
    intro e; subst e
    rw [s0.fresh _ (Nat.le_refl _)] at hmq; cases hmq
  obtain ⟨_, ES0, hB0, hE0⟩ := s0.blk _ _ _ hmq (mapAt_get hm)
  intro k
  induction k using Nat.strongRecOn with
  | _ k ih =>
    intro seen acc n t h' π w a hk s gl ar ws hp hg hag hnx hsum hlt hQ
    obtain ⟨p, hp⟩ := hp
    have hm' : mapAt h' m = some (es, clock) := by
      unfold mapAt; rw [hag m mne]; exact hm
    refine wpL_step ?_
    rw [LB_eq]
    refine wpIn_seq ?_
    rw [R3_eq]
    refine wpIn_region ?_
    rw [R3_size]
    show wpOpsIn _ _ _ _ _ [0, 1] a w
    have hw : ∀ y, Region.wanted (o3 0) y = true := fun y => by unfold Region.wanted; rw [o30_g]
    rw [wpOpsIn_cons]
    unfold wpOpIn
    simp only [o30, hw, if_true]
    refine ⟨fun _ _ => trivial, ?_⟩
    have hVR : VR π (.pointer (some ⟨h.next, 0, none⟩)) (a.eval (.tmp 10)) := by
      obtain ⟨V, x, y⟩ := ar.tmps.get ws.it
      simp only [Act.eval]
      rw [Array.getD_eq_getD_getElem?]
      have : a.tmps[10]? = some V := by simpa using x
      rw [this]; exact y
    obtain ⟨p', _, hp', hV⟩ := hVR.ptr_inv
    rw [hp] at hp'; cases hp'
    have hex : (o3 0).semAt Fence.wide.round a.eval = (do pure (Next.value (← Instr.next (.pointer (some ⟨p.B, p.base + 0, none⟩)) false (o3 0).type)) : Sem Next) := by
      show execOp a.eval (o3 0) = _
      unfold execOp
      rw [o30_op]
      simp only [hV]
    rw [hex]
    have hlast : (!seen.isEmpty && !es.isEmpty && es.all (fun e => decide (e.born ≥ clock))) = false := by
      cases es with
      | nil => simp
      | cons x l =>
        have := hold x (by simp)
        simp; intro _ h1; omega
    -- the second operation, behind either
    have second : ∀ {v V : Value} {vs : Array Value} {b : Bool} {π' : Pi} {hh : AH} {w' : World}, v = .tuple vs → vs.toList[0]? = some (.bool b) → VR π' v V → PLe π π' → Sim w0 π' hh w' →
        (∀ π'' a'' w'', ActR π'' ((t.set 11 v).set 12 (.bool b)) [] a'' → Ext w0 π' hh π'' hh w'' → (Code.seq (.cond (.tmp 12) .skip (.exit 0)) (.block 1 (.seq R4 R5))).wpIn Fence.wide 0 Tryz.prog (Exit.then (fun a w => wpL Fence.wide 0 Tryz.prog (.seq (.region 3 (opsOf R3) false) (.seq (.cond (.tmp 12) .skip (.exit 0)) (.block 1 (.seq R4 R5)))) Q a w) Q) a'' w'') →
        wpOpsIn Fence.wide 0 Tryz.prog (opsOf R3) (Exit.then (fun a w => (Code.seq (.cond (.tmp 12) .skip (.exit 0)) (.block 1 (.seq R4 R5))).wpIn Fence.wide 0 Tryz.prog (Exit.then (fun a w => wpL Fence.wide 0 Tryz.prog (.seq (.region 3 (opsOf R3) false) (.seq (.cond (.tmp 12) .skip (.exit 0)) (.block 1 (.seq R4 R5)))) Q a w) Q) a w) (Exit.then (fun a w => wpL Fence.wide 0 Tryz.prog (.seq (.region 3 (opsOf R3) false) (.seq (.cond (.tmp 12) .skip (.exit 0)) (.block 1 (.seq R4 R5)))) Q a w) Q)) [1] (a.put (o3 0).dst V) w' := by
      intro v V vs b π' hh w' hv hb hvr hle sm K
      have ar1 : ActR π' (t.set 11 v) [] (a.put (o3 0).dst V) := by
        have := (ar.mono hle).put hvr (o3 0).dst
        rw [o30_d] at this ⊢
        simpa [aput, lset_eq] using this
      have e1 : evSeqY Tryz.prog B.Γ B.Δ cal noRnd (opsOf R3) [o3 1] ⟨t.set 11 v, [], hh⟩ = some (none, ⟨(t.set 11 v).set 12 (.bool b), [], hh⟩) := by
        rw [evSeqY_bare _ _ o31_g]
        simp only [List.map_cons, List.map_nil, o31_d]
        rw [evL_val (o_extract (vs := vs) (v := .bool b) (aev (by rw [List.getElem?_set_self, hv]; simp [ws.len])) hb)]
        simp only [aput, lset_eq]
        rfl
      refine evSeqY_ok (σ := ⟨t.set 11 v, [], hh⟩) (σ' := ⟨(t.set 11 v).set 12 (.bool b), [], hh⟩) (out := none) (π := π') tOk.Γ tOk.Δ (cal_ok w0) (rnd_ok w0) (.inl rfl) [o3 1] 1 ?_ ?_ (.inl rfl) sm (gl.mono hle) ar1 e1 ?_
      · intro j
        rcases j with _ | j
        · exact o31.symm
        · have : (opsOf R3)[1 + (j + 1)]? = none := by
            rw [Array.getElem?_eq_none]; rw [R3_size]; omega
          rw [this]; rfl
      · intro o ho
        rcases List.mem_singleton.1 ho with rfl
        exact o31_gl
      · intro π'' a'' w'' x y
        exact K π'' a'' w'' x y
    rcases next_any (P := Tryz.prog) s (o3 0).type hp hg hm' hold hlast with ⟨hl, hrun⟩ | ⟨e, R, w', he, hrun, hR, hx⟩
    · -- nothing is left
      simp only [Sem.run_bind, hrun, Result.andThen_ok, Sem.run_pure]
      rw [Oper.uponIn_value]
      refine second (v := .tuple #[.bool false]) (b := false) (π' := π) (hh := h') rfl rfl (VR.const 20 _ rfl) (PLe.refl _) s ?_
      intro π'' a'' w'' x y
      have n0 : n = 0 := by rw [hl] at hsum; simpa [sitesN] using hsum.symm
      have ws' : WS (acc + n) h.next ((t.set 11 (.tuple #[.bool false])).set 12 (.bool false)) := by
        rw [n0]; exact (ws.set _ _ (by omega) (by omega)).set _ _ (by omega) (by omega)
      refine wpIn_seq (wpIn_cond_false (cond_eval x.tmps (aev (by rw [List.getElem?_set_self]; simp [ws.len]))) (wpIn_exit ?_))
      exact hQ π'' _ a'' h' w'' ws' x y hag hnx
    · -- an entry has come
      simp only [Sem.run_bind, hrun, Result.andThen_ok, Sem.run_pure]
      rw [Oper.uponIn_value]
      refine second (v := .tuple #[.bool true, e.key, e.val]) (b := true) (π' := π) (hh := h'.put h.next (some (.mapIter (some m) clock (seen ++ [e.born]) clock))) rfl rfl hR (PLe.refl _) hx.sim ?_
      intro π'' a'' w'' x y
      have hee : e ∈ es := (List.mem_filter.1 he).1
      have ws' : WS acc h.next ((t.set 11 (.tuple #[.bool true, e.key, e.val])).set 12 (.bool true)) := (ws.set _ _ (by omega) (by omega)).set _ _ (by omega) (by omega)
      have hnd' : ((es.filter fun e => !seen.contains e.born).map (·.born)).Nodup := List.Nodup.sublist (List.Sublist.map _ List.filter_sublist) hnd
      obtain ⟨c, r, hc, hr, hcr⟩ := sitesN_out hsum hnd' e he
      have hag' : ∀ b, b ≠ h.next → (h'.put h.next (some (.mapIter (some m) clock (seen ++ [e.born]) clock))).get b = h.get b := by
        intro b hb
        rw [AH.get_put, if_neg (Ne.symm hb)]; exact hag b hb
      have hg' : (h'.put h.next (some (.mapIter (some m) clock (seen ++ [e.born]) clock))).get h.next = some (.mapIter (some m) clock (seen ++ [e.born]) clock) := by rw [AH.get_put, if_pos rfl]
      have hm'' : mapAt (h'.put h.next (some (.mapIter (some m) clock (seen ++ [e.born]) clock))) m = some (es, clock) := by
        unfold mapAt; rw [hag' m mne]; exact hm
      have hvE : ∃ V, VR π0 e.val V := by
        obtain ⟨j, hj, hje⟩ := List.getElem_of_mem hee
        have hj' : j < ES0.toList.length := hE0.1 ▸ hj
        exact ⟨_, (hE0.2 j e _ (by rw [List.getElem?_eq_getElem hj, hje]) (List.getElem?_eq_getElem hj')).2.1⟩
      obtain ⟨VE, hvE⟩ := hvE
      have hc' := siteN_agree hc hag' s0 (Nat.le_refl _) hvE
      obtain ⟨t4, e4, ws4, h5⟩ := R4_ev cal ws' hg' hm'' (find_born hnd hee) 40 []
      obtain ⟨t5, e5, ws5⟩ := R5_ev cal ws4 h5 hc' (by omega) (fun v hv => by
        obtain ⟨db, d, dd, e2, r2, rfl, g3, g4⟩ := hv
        exact writes_call db d _ g3 g4) 40 []
      have e45 : evCode Tryz.prog B.Γ B.Δ 45 (B.plan 45) cal noRnd (42 + 1) (.block 1 (.seq R4 R5)) ⟨(t.set 11 (.tuple #[.bool true, e.key, e.val])).set 12 (.bool true), [], h'.put h.next (some (.mapIter (some m) clock (seen ++ [e.born]) clock))⟩ =
          some (.normal, ⟨t5, [], h'.put h.next (some (.mapIter (some m) clock (seen ++ [e.born]) clock))⟩) := by
        refine block_ev ?_
        show evCode _ _ _ _ _ _ _ (41 + 1) _ _ = _
        rw [seq_ev e4]
        exact e5
      refine wpIn_seq (wpIn_cond_true (cond_eval x.tmps (aev (by rw [List.getElem?_set_self]; simp [ws.len]))) (wpIn_skip ?_))
      show (Code.block 1 (.seq R4 R5)).wpIn Fence.wide 0 Tryz.prog _ a'' w''
      refine wpG_wp (evCode_ok tOk.Γ tOk.Δ (cal_ok w0) (rnd_ok w0) (.inl rfl) (42 + 1) (.block 1 (.seq R4 R5)) R45_ok (.inl rfl) y.sim ((gl.mono hx.le).mono y.le) x e45 fun π3 a3 w3 x3 y3 => ?_)
      have hk' : (es.filter fun e' => !(seen ++ [e.born]).contains e'.born).length < k := by
        rw [filter_more, ← hk]; exact filter_less he
      have key := ih _ hk' (seen := seen ++ [e.born]) (acc := acc + c) (n := r) (t := t5) (π := π3) (w := w3) (a := a3) rfl y3.sim (((gl.mono hx.le).mono y.le).mono y3.le) x3 ws5 ⟨p, y3.le _ _ (y.le _ _ (hx.le _ _ hp))⟩ hg' hag' (by simpa using hnx) (by rw [filter_more]; exact hr) (by omega) (by
        intro π' t' a' h'' w4 wsE arE xE agE nxE
        refine hQ π' t' a' h'' w4 (by rw [← hcr, ← Nat.add_assoc]; exact wsE) arE ?_ agE nxE
        exact (((hx.trans y).trans y3).trans xE))
      rw [LB_eq, R3_eq] at key
      exact key
end

/-! #### written -/
theorem R6_eq : R6 = .region 6 (opsOf R6) false := by kernel_rfl
theorem R6_g : ((opsOf R6).toList.all fun o => o.guard.isNone) = true := by kernel_rfl
theorem R6_l : (opsOf R6).toList.map dop = [(some 22, .move (.tmp 3)), (some 2, .assign (.tmp 22))] := by kernel_rfl
def z0 (p v2 v3 : Value) : List Value := [p, undef, v2, v3, undef, undef, undef, undef, undef, undef, undef, undef, undef, undef, undef, undef, undef, undef, undef, undef, undef, undef, undef]
theorem R0_ev (b o k : Nat) (h : AH) : evCode Tryz.prog B.Γ B.Δ 45 (B.plan 45) call noRnd (k + 10) R0 ⟨z0 (.pointer (some ⟨b, o, none⟩)) undef undef, [], h⟩ = some (.normal, ⟨z0 (.pointer (some ⟨b, o, none⟩)) (.int .i64 0) undef, [], h⟩) := by kernel_rfl
theorem R1_ev (b o k : Nat) (h : AH) : evCode Tryz.prog B.Γ B.Δ 45 (B.plan 45) call noRnd (k + 10) R1 ⟨z0 (.pointer (some ⟨b, o, none⟩)) (.int .i64 0) undef, [], h⟩ = some (.normal, ⟨z0 (.pointer (some ⟨b, o, none⟩)) (.int .i64 0) (.int .i64 0), [], h⟩) := by kernel_rfl
theorem R2_ev (b o k : Nat) (h : AH) {ws : List Value} {e1 : Nat} {r1 : Bool} {m : Nat} {es : List MapEntry} {clock : Nat} (g : cellsAt h b = some (ws, e1, r1)) (hw : ws[o + 3]? = some (.map (some m))) (hm : mapAt h m = some (es, clock)) :
    ∃ t', evCode Tryz.prog B.Γ B.Δ 45 (B.plan 45) call noRnd (k + 1) R2 ⟨z0 (.pointer (some ⟨b, o, none⟩)) (.int .i64 0) (.int .i64 0), [], h⟩ = some (.normal, ⟨t', [], h.new (.mapIter (some m) clock [] clock)⟩) ∧ WS 0 h.next t' := by
  have hr : aRange B.Γ 61 (.map (some m)) h = some (.pointer (some ⟨h.next, 0, none⟩), h.new (.mapIter (some m) clock [] clock)) := by
    obtain ⟨i, h1, h2⟩ := ty56
    unfold aRange
    simp only [h1, h2, hm]
  refine ⟨[.pointer (some ⟨b, o, none⟩), undef, .int .i64 0, .int .i64 0, undef, undef, .pointer (some ⟨b, o, none⟩), .pointer (some ⟨b, o, none⟩), .pointer (some ⟨b, o + 3, none⟩), .map (some m), .pointer (some ⟨h.next, 0, none⟩), undef, undef, undef, undef, undef, undef, undef, undef, undef, undef, undef, undef], ?_, ⟨rfl, rfl, rfl⟩⟩
  rw [R2_eq]
  refine region_ev ?_
  rw [evSeqY_bare _ _ R2_g, R2_l]
  unfold z0
  rw [evL_val (o_move (v := .pointer (some ⟨b, o, none⟩)) (aev rfl))]
  simp only [aput, lset_eq, List.set]
  rw [evL_val (o_nil (a := ⟨b, o, none⟩) (aev rfl))]
  simp only [aput, lset_eq, List.set]
  rw [evL_val (o_fa (v := .pointer (some ⟨b, o, none⟩)) (aev rfl) (fa60 b o))]
  simp only [aput, lset_eq, List.set]
  rw [evL_val (o_load (v := .pointer (some ⟨b, o + 3, none⟩)) (aev rfl) (aLoad1 ty56a g hw))]
  simp only [aput, lset_eq, List.set]
  rw [evL_val (o_range (v := .map (some m)) (aev rfl) hr)]
  simp only [aput, lset_eq, List.set]
  rfl
theorem R6_ev {acc it : Nat} {t : List Value} (hs : WS acc it t) (h : AH) (k : Nat) : ∃ t', evCode Tryz.prog B.Γ B.Δ 45 (B.plan 45) call noRnd (k + 1) R6 ⟨t, [], h⟩ = some (.normal, ⟨t', [], h⟩) ∧ t'[2]? = some (.int .i64 (acc : Int)) := by
  have l := hs.len
  refine ⟨(t.set 22 (.int .i64 (acc : Int))).set 2 (.int .i64 (acc : Int)), ?_, by rw [List.getElem?_set_self]; simp [l]⟩
  rw [R6_eq]
  refine region_ev ?_
  rw [evSeqY_bare _ _ R6_g, R6_l]
  rw [evL_val (o_move (aev hs.acc))]
  simp only [aput, lset_eq]
  rw [evL_val (o_assign (v := .int .i64 (acc : Int)) (aev (by rw [List.getElem?_set_self]; simp [l])))]
  simp only [aput, lset_eq]
  rfl

theorem risen_ok : ∀ (es : List MapEntry) (k c : Nat), risen k es c = true → (∀ e ∈ es, e.born < c ∧ k ≤ e.born) ∧ (es.map (·.born)).Nodup
  | [], k, c, _ => ⟨fun e he => by simp at he, by simp⟩
  | x :: l, k, c, h => by
    simp only [risen, Bool.and_eq_true] at h
    obtain ⟨⟨h1, h2⟩, h3⟩ := h
    have a := Nat.le_of_ble_eq_true h1
    have b : x.born < c := by simpa using h2
    obtain ⟨i1, i2⟩ := risen_ok l _ _ h3
    refine ⟨fun e he => ?_, ?_⟩
    · rcases List.mem_cons.1 he with rfl | he
      · exact ⟨b, a⟩
      · have := i1 e he; exact ⟨this.1, by omega⟩
    · rw [List.map_cons, List.nodup_cons]
      refine ⟨fun hm => ?_, i2⟩
      obtain ⟨e, he, hb⟩ := List.mem_map.1 hm
      have := (i1 e he).2
      omega
theorem sitesN_lt {h : AH} : ∀ {l : List MapEntry} {n : Nat}, sitesN h l = some n → n ≤ l.length * 4294967296
  | [], n, hn => by simp [sitesN] at hn; omega
  | x :: l, n, hn => by
    simp only [sitesN] at hn
    split at hn
    case h_2 => cases hn
    next a b h1 h2 =>
    cases hn
    obtain ⟨_, _, _, _, _, _, _, _, _, _, _, _, _, _, _, hk⟩ := siteN_inv h1
    have := sitesN_lt h2
    simp only [List.length_cons]
    omega

theorem written_ov (w0 : World) {cl : Caller} {args : List Value} {h : AH} {r : CRes} (he : writtenOver cl args h = some r) (π : Pi) (w : World) (A : Array Value) (s : Sim w0 π h w) (gl : Glob 3 π) (ha : VRL π args A.toList) :
    Calls Tryz.prog 45 A w (fun e w' => CResR w0 π h e w' r) := by
  unfold writtenOver at he
  split at he
  case h_2 => cases he
  next b o =>
  split at he
  case h_2 => cases he
  next ws e1 r1 g =>
  split at he
  case h_2 => cases he
  next m hw =>
  split at he
  case h_2 => cases he
  next es clock hm =>
  split at he
  case h_2 => cases he
  next hris =>
  split at he
  case h_2 => cases he
  next n hn =>
  cases he
  simp only [Bool.and_eq_true] at hris
  obtain ⟨hold, hnd⟩ := risen_ok es 0 clock hris.1
  have hlen : es.length < 1000 := by simpa using hris.2
  have hlt := sitesN_lt hn
  have hF : Tryz.prog.funcs[45]? = some Tryz.f45 := Tryz.func45
  have hb : Tryz.f45.body = some body := by kernel_rfl
  have hz : zeroTmps Tryz.f45 [.pointer (some ⟨b, o, none⟩)] = z0 (.pointer (some ⟨b, o, none⟩)) undef undef := by kernel_rfl
  have ar0 : ActR π (z0 (.pointer (some ⟨b, o, none⟩)) undef undef) [] { tmps := A ++ Array.replicate (Tryz.f45.ntmps - A.size) undef, defers := [] } := ⟨hz ▸ zeroTmps_VRL ha, trivial⟩
  refine calls_of_wp_defers hF hb ?_
  refine (wpIn_wide (n := 0)).1 ?_
  rw [body_eq]
  refine wpIn_seq (wpG_wp (evCode_ok tOk.Γ tOk.Δ (cal_ok w0) (rnd_ok w0) (.inl rfl) _ R0 R0_ok (.inl rfl) s gl ar0 (R0_ev cal b o 10 h) fun π1 a1 w1 x1 y1 => ?_))
  refine wpIn_seq (wpG_wp (evCode_ok tOk.Γ tOk.Δ (cal_ok w0) (rnd_ok w0) (.inl rfl) _ R1 R1_ok (.inl rfl) y1.sim (gl.mono y1.le) x1 (R1_ev cal b o 10 h) fun π2 a2 w2 x2 y2 => ?_))
  obtain ⟨t3, e3, ws3⟩ := R2_ev cal b o 10 h g hw hm
  have gl2 := (gl.mono y1.le).mono y2.le
  refine wpIn_seq (wpIn_seq (wpG_wp (evCode_ok tOk.Γ tOk.Δ (cal_ok w0) (rnd_ok w0) (.inl rfl) _ R2 R2_ok (.inl rfl) y2.sim gl2 x2 e3 fun π3 a3 w3 x3 y3 => ?_)))
  -- the map, and the walk of it
  have y12 := y1.trans y2
  obtain ⟨V0, hV0, hv0⟩ := ha.get (i := 0) rfl
  obtain ⟨pb, _, hpb, _⟩ := hv0.ptr_inv
  obtain ⟨_, C, E, fz, _, _, _, hcs, _⟩ := y12.sim.blk _ _ _ (y12.le _ _ hpb) (cellsAt_get g)
  obtain ⟨VM, _, hvm⟩ := hcs _ _ hw
  obtain ⟨qm, hqm, _⟩ := hvm.map_inv
  obtain ⟨VI, _, hvi⟩ := x3.tmps.get ws3.it
  obtain ⟨pit, _, hpit, _⟩ := hvi.ptr_inv
  have hf0 : (es.filter fun e => !([] : List Nat).contains e.born) = es := by simp
  have gl3 := gl2.mono y3.le
  refine wpIn_block (wpIn_of_L (loop_ok y12.sim hqm hm (fun e he => (hold e he).1) hnd _ (seen := []) (acc := 0) (n := n) (t := t3) (π := π3) rfl y3.sim gl3 x3 ws3 ⟨pit, hpit⟩ (by rw [AH.get_new, if_pos rfl]) (fun k hk => by rw [AH.get_new, if_neg (Ne.symm hk)]) rfl (by rw [hf0]; exact hn) (by omega) ?_))
  intro π4 t4 a4 h4 w4 ws4 x4 y4 hag4 hnx4
  simp only [Exit.inBlock, if_true]
  obtain ⟨t5, e5, h2⟩ := R6_ev cal ws4 h4 10
  refine wpIn_seq (wpG_wp (evCode_ok tOk.Γ tOk.Δ (cal_ok w0) (rnd_ok w0) (.inl rfl) _ R6 R6_ok (.inl rfl) y4.sim (gl3.mono y4.le) x4 e5 fun π5 a5 w5 x5 y5 => ?_))
  refine wpIn_ret ?_
  have hd : a5.defers = [] := by
    have := x5.defs
    cases hds : a5.defers with
    | nil => rfl
    | cons x xs => rw [hds] at this; exact this.elim
  show Leaves Tryz.prog Tryz.f45 a5.tmps _ a5.defers .returning w5
  rw [hd]
  have hres : Tryz.f45.results.toList = [.tmp 2] := by kernel_rfl
  have hev : evRes B.Γ Tryz.f45 t5 h4 = some (.int .i64 ((0 + n : Nat) : Int)) := by
    unfold evRes
    rw [hres]
    simp only [evResults, h2, wrap1]
  obtain ⟨V, hrun, hV⟩ := evRes_ok (P := Tryz.prog) tOk.Γ y5.sim x5.tmps hev
  rw [Nat.zero_add] at hV
  have yy : Ext w0 π h π5 h4 w5 := ((y12.trans y3).trans y4).trans y5
  refine ⟨V, hrun, π5, V, rfl, hV, yy.le, yy.sim.sub hnx4.symm (fun k => ?_), Nat.le_succ _, fun k hk hn' => ⟨(yy.pend k hk hn').1, ?_⟩⟩
  · show (T.set h.tbl h.next none).get k = h4.get k ∨ (T.set h.tbl h.next none).get k = none
    rw [T.get_set]
    split
    · exact .inr rfl
    · next hne => exact .inl (hag4 k (Ne.symm hne)).symm
  · show (T.set h.tbl h.next none).get k = h.get k
    rw [T.get_set, if_neg (by omega)]
    rfl
end
end Go.Proofs.YtbimgjagacligaaGreatDoor.Writ
