/- A part of the abstract machine: an evaluator of the model's code over an abstract heap, proved sound against the model's walks (Calls, wp). No condition beyond each theorem's own premises. -/
import Derived.Test.YtbimgjagacligaaGreatDoorAbsD
set_option linter.unusedVariables false
set_option linter.unusedSimpArgs false
namespace Go.Abs
open Go Go.RowKit
noncomputable section

/-! #### a test for equal values -/
def all2 (f : Value → Value → Bool) : List Value → List Value → Bool
  | [], [] => true
  | x :: xs, y :: ys => f x y && all2 f xs ys
  | _, _ => false
theorem all2_eq {f : Value → Value → Bool} (hf : ∀ a b, f a b = true → a = b) : ∀ (l m : List Value), all2 f l m = true → l = m
  | [], [], _ => rfl
  | x :: xs, y :: ys, h => by
    simp only [all2, Bool.and_eq_true] at h
    rw [hf _ _ h.1, all2_eq hf xs ys h.2]
  | [], _ :: _, h => by simp [all2] at h
  | _ :: _, [], h => by simp [all2] at h

def vSame : Nat → Value → Value → Bool
  | 0, _, _ => false
  | n + 1, a, b =>
    match a, b with
    | .bool x, .bool y => x == y
    | .int k x, .int j y => decide (k = j) && decide (x = y)
    | .string s, .string t => s == t
    | .pointer none, .pointer none => true
    | .pointer (some ⟨b, o, none⟩), .pointer (some ⟨b', o', none⟩) => Nat.beq b b' && Nat.beq o o'
    | .slice none l c, .slice none l' c' => Nat.beq l l' && Nat.beq c c'
    | .slice (some ⟨b, o, none⟩) l c, .slice (some ⟨b', o', none⟩) l' c' => Nat.beq b b' && Nat.beq o o' && Nat.beq l l' && Nat.beq c c'
    | .map none, .map none => true
    | .map (some b), .map (some b') => Nat.beq b b'
    | .func (.func f) xs ys, .func (.func g) xs' ys' => Nat.beq f g && all2 (vSame n) xs.toList xs'.toList && all2 (vSame n) ys.toList ys'.toList
    | .nilFunc, .nilFunc => true
    | .nilIface, .nilIface => true
    | .iface t v, .iface u w => Nat.beq t u && vSame n v w
    | .agg xs, .agg ys => all2 (vSame n) xs.toList ys.toList
    | .tuple xs, .tuple ys => all2 (vSame n) xs.toList ys.toList
    | _, _ => false

theorem vSame_eq : ∀ (n : Nat) (a b : Value), vSame n a b = true → a = b
  | 0, _, _, h => by simp [vSame] at h
  | n + 1, a, b, h => by
    have ih := vSame_eq n
    have ih' : ∀ xs ys : Array Value, all2 (vSame n) xs.toList ys.toList = true → xs = ys := fun xs ys h => Array.ext' (all2_eq ih _ _ h)
    unfold vSame at h
    split at h
    · simpa using h
    · simp at h; rw [h.1, h.2]
    · exact congrArg _ ((MapKept.bytes_beq _ _).1 h)
    · rfl
    · simp at h; rw [h.1, h.2]
    · simp at h; rw [h.1, h.2]
    · simp at h; rw [h.1.1.1, h.1.1.2, h.1.2, h.2]
    · rfl
    · simp at h; rw [h]
    · simp only [Bool.and_eq_true] at h; rw [Nat.eq_of_beq_eq_true h.1.1, ih' _ _ h.1.2, ih' _ _ h.2]
    · rfl
    · rfl
    · simp only [Bool.and_eq_true] at h; rw [Nat.eq_of_beq_eq_true h.1, ih _ _ h.2]
    · rw [ih' _ _ h]
    · rw [ih' _ _ h]
    · cases h

section
variable {P : Program} {Γ : Ctx} {Δ : Ctx2} {w0 : World} {π : Pi} {h : AH} {w : World} {call : Caller}

/-! #### operations that leave the heap -/
def isPR (Γ : Ctx) : Op → Bool
  | .move _ | .assign _ | .pick _ _ _ | .build _ _ | .load _ _ | .nilCheck _ | .binOp _ _ _ _ _ | .unOp _ _ _ | .sliceToArrayPointer _ _ | .makeInterface _ _ | .makeFunc _ _ _ | .slice _ _ _ _ _
  | .fieldAddr _ _ _ | .field _ _ _ | .indexAddr _ _ _ | .index _ _ _ | .lookup _ _ _ _ | .entry _ | .typeAssert _ _ _ _ | .extract _ _ => true
  | .convert _ d _ => match Γ.ty d with
    | some j => match j.k with
      | .slice _ => false
      | _ => true
    | none => false
  | .call c => match c.callee with
    | .builtin .len | .builtin .max | .builtin .min => true
    | _ => false
  | _ => false

theorem convert_pr {s d : TypeId} {x : Operand} {v r : Value} {h' : AH} (hp : isPR Γ (.convert s d x) = true) (he : aConvert Γ s d v h = some (r, h')) : h' = h := by
  simp only [isPR] at hp
  unfold aConvert at he
  split at he
  case h_2 => cases he
  next i j hi hj =>
  rw [hj] at hp
  simp only at hp
  split at he
  · cases he; rfl
  · cases he; rfl
  · next e s hk => rw [hk] at hp; cases hp
  · split at he
    · split at he
      · split at he <;> cases he; rfl
      · cases he
    · cases he
  · split at he
    · split at he
      · split at he
        · split at he
          · split at he <;> cases he; rfl
          · cases he
        · cases he
      · cases he
    · cases he
  · cases he

theorem builtin_pr {b : Builtin} {ts : List TypeId} {args : List Value} {r : Value} {h' : AH} (hb : b = .len ∨ b = .max ∨ b = .min) (he : aBuiltin P Γ b ts args h = some (r, h')) : h' = h := by
  unfold aBuiltin at he
  split at he <;> (try (rcases hb with hb | hb | hb <;> cases hb <;> done))
  · simp only [Option.map_eq_some_iff, Prod.mk.injEq] at he; obtain ⟨_, _, _, rfl⟩ := he; rfl
  · simp only [Option.map_eq_some_iff, Prod.mk.injEq] at he; obtain ⟨_, _, _, rfl⟩ := he; rfl
  · simp only [Option.map_eq_some_iff, Prod.mk.injEq] at he; obtain ⟨_, _, _, rfl⟩ := he; rfl
  · cases he

theorem evOp_pr {o : Oper} {t : List Value} {r : ARes} (hp : isPR Γ o.op = true) (he : evOp P Γ Δ o t h = some r) : ∃ v, r = .val v h := by
  obtain ⟨dst, op, type, pos, after, guard⟩ := o
  simp only at hp
  cases op <;> (try (cases hp; done)) <;> simp only [evOp] at he
  case convert s d x =>
    split at he
    case h_2 => cases he
    split at he
    case h_2 => cases he
    next r' h' hc =>
    cases he
    rw [convert_pr hp hc]
    exact ⟨_, rfl⟩
  case call c =>
    simp only [isPR] at hp
    unfold aCall at he
    split at he
    case h_2 => cases he
    split at he
    · next b hb =>
      split at he
      case h_2 => cases he
      next r' h' hc =>
      cases he
      rw [hb] at hp
      have : b = .len ∨ b = .max ∨ b = .min := by
        revert hp
        cases b <;> simp
      rw [builtin_pr this hc]
      exact ⟨_, rfl⟩
    · next hb => rw [hb] at hp; cases hp
    · next hb => rw [hb] at hp; cases hp
  all_goals
    repeat' (first | (cases he; done) | split at he)
    all_goals (cases he; exact ⟨_, rfl⟩)

theorem evStep_pr {o : Oper} {t : List Value} {r : SRes} (hp : isPR Γ o.op = true) (he : evStep P Γ Δ call o t h = some r) : ∃ v, r = .next v h := by
  unfold evStep at he
  rw [evOpS_eq] at he
  split at he
  case h_6 => cases he
  all_goals
    rename_i hev
    obtain ⟨u, hu⟩ := evOp_pr hp hev
    cases hu
  cases he
  exact ⟨_, rfl⟩

/-! #### operations that make one block -/
theorem Sim.allocAt (s : Sim w0 π h w) {id : Nat} {o : AO} {O : Obj} {sz esz : Nat} (hid : π id = none) (hlt : id < h.next) (ho : h.get id = some o)
    (hblk : ∀ π', PLe π π' → BlkR w0.heap.size π' o ⟨w.heap.size, 0, sz, esz⟩ (w.alloc O)) : Sim w0 (π.add id ⟨w.heap.size, 0, sz, esz⟩) h (w.alloc O) := by
  have lt : ∀ b q x, π b = some q → h.get b = some x → q.B < w.heap.size := fun b q x hq hx => (s.blk b q x hq hx).lt
  have hle := PLe.add ⟨w.heap.size, 0, sz, esz⟩ hid
  refine ⟨s.below.alloc s.below.size O, ?_, ?_, ?_⟩
  · intro b hb
    rw [Pi.add_ne _ _ (by omega)]
    exact s.fresh b hb
  · intro k q x hk hx
    by_cases e : k = id
    · subst e
      rw [Pi.add_same] at hk; cases hk
      rw [ho] at hx; cases hx
      exact hblk _ hle
    · rw [Pi.add_ne _ _ e] at hk
      refine ((s.blk k q x hk hx).congr ?_).mono hle
      rw [heap_alloc, if_neg]
      have := lt k q x hk hx; omega
  · intro k k' q q' x x' hk hk' hx hx' hne hB
    by_cases e : k = id
    · subst e
      rw [Pi.add_same] at hk; cases hk
      rw [Pi.add_ne _ _ (Ne.symm hne)] at hk'
      have := lt k' q' x' hk' hx'
      simp only at hB; omega
    · rw [Pi.add_ne _ _ e] at hk
      by_cases e' : k' = id
      · subst e'
        rw [Pi.add_same] at hk'; cases hk'
        have := lt k q x hk hx
        simp only at hB; omega
      · rw [Pi.add_ne _ _ e'] at hk'
        exact s.sep k k' q q' x x' hk hk' hx hx' hne hB

theorem Sim.allocAllAt (s : Sim w0 π h w) {id : Nat} {cs : List Value} {C : Array Value} {E : TypeId} (esz : Nat) (hc : VRL π cs C.toList) (hid : π id = none) (hlt : id < h.next) (ho : h.get id = some (.cells cs esz false)) :
    Sim w0 (π.add id ⟨w.heap.size, 0, C.size, esz⟩) h (w.alloc (.cells C E)) := by
  have hl : cs.length = C.size := by simpa using hc.1
  refine s.allocAt hid hlt ho fun π' hle => ⟨rfl, C, E, (0, 0), by rw [heap_alloc, if_pos rfl], rfl, by simp [hl], ?_, fun _ => ⟨s.below.size, fun j _ _ => by omega⟩⟩
  intro i v hv
  obtain ⟨V, a, b⟩ := hc.get hv
  exact ⟨V, by simpa using a, b.mono hle⟩

def aVarSize (Γ : Ctx) (e : TypeId) : Option Nat :=
  match Γ.ty e with
  | some i =>
    match i.k with
    | .array _ e' => match Γ.ty e' with
      | some j => some j.size
      | none => none
    | _ => some i.size
  | none => none

def aRow (Γ : Ctx) (t : TypeId) (len : Nat) (ps : List (Nat × Value)) : Option (AO × (Nat → Value)) :=
  match Γ.ty t with
  | some i =>
    match i.k with
    | .slice e =>
      match Γ.ty e with
      | some j =>
        if len * j.size ≤ 16777216 then
          match afill (fun q => some (q * j.size, j.size)) (zeros j.zero.cells.toList len) ps with
          | some cs => some (.cells cs j.size false, fun b => .slice (some ⟨b, 0, none⟩) len len)
          | none => none
        else none
      | none => none
    | _ => none
  | none => none

def aNew (Γ : Ctx) (op : Op) (t : List Value) : Option (AO × (Nat → Value)) :=
  match op with
  | .alloc e => match Γ.ty e, aVarSize Γ e with
    | some i, some z => some (.cells i.zero.cells.toList z false, fun b => .pointer (some ⟨b, 0, none⟩))
    | _, _ => none
  | .box e x => match aeval t x, aVarSize Γ e with
    | some v, some z => some (.cells v.cells.toList z false, fun b => .pointer (some ⟨b, 0, none⟩))
    | _, _ => none
  | .buildSlice ty n ps => match aparts t ps.toList with
    | some ps => aRow Γ ty n ps
    | none => none
  | .makeMap _ none => some (.map [] 0, fun b => .map (some b))
  | _ => none

theorem afill_length (f : Nat → Option (Nat × Nat)) : ∀ (ps : List (Nat × Value)) (z cs : List Value), afill f z ps = some cs → cs.length = z.length := by
  intro ps
  induction ps with
  | nil => intro z cs h; simp [afill] at h; rw [h]
  | cons p ps ih =>
    intro z cs h
    simp only [afill] at h
    split at h
    · cases h
    · split at h
      · split at h
        · next h1 h2 => rw [ih _ _ h, splice_length (by rw [h1]; exact h2)]
        · cases h
      · cases h

theorem row_run (hΓ : CtxOk P Γ) {t : TypeId} {len : Nat} {ps : List (Nat × Value)} {PS : Array (Nat × Value)} {blk : AO} {mk : Nat → Value} (hb : aRow Γ t len ps = some (blk, mk)) (hp : PartsR π ps PS.toList) :
    ∃ cs z C' e, blk = .cells cs z false ∧ (mk = fun b => .slice (some ⟨b, 0, none⟩) len len) ∧ (Instr.buildSlice t len PS).run P w = .ok (.slice (some ⟨w.heap.size, 0, none⟩) len len) (w.alloc (.cells C' e)) ∧ VRL π cs C'.toList ∧ len * z ≤ C'.size := by
  unfold aRow at hb
  split at hb
  case h_2 => cases hb
  next i hi =>
  split at hb
  case h_2 => cases hb
  next e hk =>
  split at hb
  case h_2 => cases hb
  next j hj =>
  split at hb
  case isFalse => cases hb
  next hle =>
  split at hb
  case h_2 => cases hb
  next cs hf =>
  simp only [Option.some.injEq, Prod.mk.injEq] at hb
  obtain ⟨rfl, rfl⟩ := hb
  have hu := (hΓ.ty _ _ hi).slice hk
  have okj := hΓ.ty _ _ hj
  have hzl : j.zero.cells.size = j.size := okj.zsize
  have hzz : VRL π (zeros j.zero.cells.toList len) (zeros j.zero.cells.toList len) := VRL.zeros (zeroVR okj).cells len
  have key : ∀ Z : Array Value, Z.toList = zeros j.zero.cells.toList len → ∃ C', Instr.fill (fun q => some (q * j.size, j.size)) Z PS.toList = some C' ∧ VRL π cs C'.toList := fun Z hZ => fill_ok _ _ _ _ _ hf (by rw [hZ]; exact hzz) hp
  have hsz : ∀ C' : Array Value, VRL π cs C'.toList → len * j.size ≤ C'.size := by
    intro C' h2
    have hl : cs.length = C'.size := by simpa using h2.1
    rw [← hl, afill_length _ _ _ _ hf, zeros_length]; simp [hzl]
  by_cases h0 : len * j.size = 0
  · have hZ : ((Array.range (len * j.size)).map (fun x => (#[] : Array Value)[x % (#[] : Array Value).size]!)).toList = zeros j.zero.cells.toList len := by
      rw [h0]
      have : (zeros j.zero.cells.toList len).length = 0 := by rw [zeros_length]; simp [hzl, h0]
      rw [List.length_eq_zero_iff.1 this]; simp
    obtain ⟨C', h1, h2⟩ := key _ hZ
    refine ⟨cs, j.size, C', e, rfl, rfl, ?_, h2, hsz _ h2⟩
    simp only [Instr.buildSlice, Sem.run_bind, run_underlying hu, Result.andThen_ok, okj.run_size, Sem.run_ite, Sem.run_pure]
    rw [if_neg (by omega), if_pos h0]
    simp only [Sem.run_bind, Result.andThen_ok, Sem.run_pure, h1, newRow, run_newObj]
    rfl
  · have hZ : ((Array.range (len * j.size)).map (fun x => j.zero.cells[x % j.zero.cells.size]!)).toList = zeros j.zero.cells.toList len := by
      have := range_zeros j.zero.cells len
      rw [hzl] at this ⊢; exact this
    obtain ⟨C', h1, h2⟩ := key _ hZ
    refine ⟨cs, j.size, C', e, rfl, rfl, ?_, h2, hsz _ h2⟩
    simp only [Instr.buildSlice, Sem.run_bind, run_underlying hu, Result.andThen_ok, okj.run_size, Sem.run_ite, Sem.run_pure]
    rw [if_neg (by omega), if_neg h0]
    simp only [Sem.run_bind, okj.run_zero, Result.andThen_ok, Sem.run_pure, h1, newRow, run_newObj]
    rfl

theorem late_ok (hΓ : CtxOk P Γ) (s : Sim w0 π h w) {o : Oper} {t : List Value} {ρ : Operand → Value} {blk : AO} {mk : Nat → Value} (hρ : ∀ x ∈ o.op.operands.toList, ∀ v, aeval t x = some v → VR π v (ρ x))
    (hn : aNew Γ o.op t = some (blk, mk)) {id : Nat} (hid : π id = none) (hlt : id < h.next) (hg : h.get id = some blk) :
    ∃ p V w', (execOp ρ o).run P w = .ok (.value V) w' ∧ VR (π.add id p) (mk id) V ∧ Sim w0 (π.add id p) h w' := by
  obtain ⟨dst, op, type, pos, after, guard⟩ := o
  simp only at hn hρ
  cases op <;> simp only [aNew] at hn <;> (try (cases hn; done))
  case alloc e =>
    split at hn
    case h_2 => cases hn
    next i z hi hz =>
    simp only [Option.some.injEq, Prod.mk.injEq] at hn
    obtain ⟨rfl, rfl⟩ := hn
    have ok := hΓ.ty _ _ hi
    refine ⟨⟨w.heap.size, 0, i.zero.cells.size, z⟩, .pointer (some ⟨w.heap.size, 0, none⟩), w.alloc (.cells i.zero.cells e), by simp [execOp, Instr.alloc, newVar, newRow, ok.run_zero w], by simpa using VR.ptr (Pi.add_same π id ⟨w.heap.size, 0, i.zero.cells.size, z⟩) (o := 0), ?_⟩
    exact s.allocAllAt (C := i.zero.cells) (E := e) z (zeroVR ok).cells hid hlt hg
  case box e x =>
    split at hn
    case h_2 => cases hn
    next v z hx hz =>
    simp only [Option.some.injEq, Prod.mk.injEq] at hn
    obtain ⟨rfl, rfl⟩ := hn
    have hv := hρ x (by simp [Op.operands]) _ hx
    refine ⟨⟨w.heap.size, 0, (ρ x).cells.size, z⟩, .pointer (some ⟨w.heap.size, 0, none⟩), w.alloc (.cells (ρ x).cells e), by simp [execOp, Instr.box, newVar, newRow], by simpa using VR.ptr (Pi.add_same π id ⟨w.heap.size, 0, (ρ x).cells.size, z⟩) (o := 0), ?_⟩
    exact s.allocAllAt (C := (ρ x).cells) (E := e) z hv.cells hid hlt hg
  case buildSlice ty n ps =>
    split at hn
    case h_2 => cases hn
    next qs hqs =>
    have hp := aparts_ok (π := π) (ρ := ρ) ps.toList (fun p hp => hρ p.2 (by simp [Op.operands]; exact ⟨p.1, by simpa using hp⟩)) hqs
    obtain ⟨cs, z, C', e, rfl, rfl, hrun, hc, hsz⟩ := row_run (P := P) (w := w) (PS := ps.map fun (i, x) => (i, ρ x)) hΓ hn (by simpa using hp)
    refine ⟨⟨w.heap.size, 0, C'.size, z⟩, .slice (some ⟨w.heap.size, 0, none⟩) n n, w.alloc (.cells C' e), by simp [execOp, hrun], newSliceVR (Nat.le_refl _) (Nat.le_refl _) hsz, ?_⟩
    exact s.allocAllAt z hc hid hlt hg
  case makeMap ty rr =>
    cases rr <;> (try (cases hn; done))
    simp only [Option.some.injEq, Prod.mk.injEq] at hn
    obtain ⟨rfl, rfl⟩ := hn
    refine ⟨⟨w.heap.size, 0, 0, 0⟩, .map (some w.heap.size), w.alloc (.map #[] 0), by simp [execOp, Instr.makeMap], .map (p := ⟨w.heap.size, 0, 0, 0⟩) (Pi.add_same _ _ _), ?_⟩
    exact s.allocAt (O := .map #[] 0) hid hlt hg (fun π' _ => ⟨s.below.size, #[], by rw [heap_alloc, if_pos rfl], ⟨rfl, fun i e E a => by simp at a⟩⟩)
end
end
end Go.Abs
