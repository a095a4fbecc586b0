/- A part of the abstract machine: an evaluator of the model's code over an abstract heap, proved sound against the model's walks (Calls, wp). No condition beyond each theorem's own premises. -/
import Derived.Test.YtbimgjagacligaaGreatDoorAbs1
namespace Go.Abs
open Go Go.RowKit
noncomputable section

def Unfz (fz : Nat × Nat) (lo hi : Nat) : Prop := ∀ j, lo ≤ j → j < hi → ¬ (fz.1 ≤ j ∧ j < fz.2)

def CellsR (π : Pi) (cs : List Value) (C : Array Value) (base : Nat) : Prop := ∀ (i : Nat) (v : Value), cs[i]? = some v → ∃ V, C[base + i]? = some V ∧ VR π v V

def EntR (π : Pi) (e E : MapEntry) : Prop := VR π e.key E.key ∧ VR π e.val E.val ∧ E.born = e.born
def EntsR (π : Pi) (es ES : List MapEntry) : Prop := es.length = ES.length ∧ ∀ (i : Nat) (e E : MapEntry), es[i]? = some e → ES[i]? = some E → EntR π e E

/-- the record of a range over a function -/
structure ALoop where
  state : LoopState
  pending : Option Code
  me : Nat
  t : List Value
  params : Array Tmp
  assign : Code
  body : Code
  d : Nat

inductive AO where
  | cells (cs : List Value) (esz : Nat) (ro : Bool)
  | map (es : List MapEntry) (clock : Nat)
  | strIter (s : ByteArray) (pos : Nat)
  | mapIter (m : Option Nat) (since : Nat) (seen : List Nat) (stepped : Nat)
  | loop (L : ALoop)
  | defd

def AO.ro : AO → Bool
  | .cells _ _ r => r
  | _ => false

structure AH where
  tbl : T AO
  next : Nat

def AH.get (h : AH) (b : Nat) : Option AO := h.tbl.get b
def AH.put (h : AH) (b : Nat) (o : Option AO) : AH := { h with tbl := h.tbl.set b o }
def AH.new (h : AH) (o : AO) : AH := { tbl := h.tbl.set h.next (some o), next := h.next + 1 }
theorem AH.get_put (h : AH) (b k : Nat) (o : Option AO) : (h.put b o).get k = if b = k then o else h.get k := T.get_set _ _ _ _
theorem AH.get_new (h : AH) (k : Nat) (o : AO) : (h.new o).get k = if h.next = k then some o else h.get k := T.get_set _ _ _ _
@[simp] theorem AH.next_put (h : AH) (b : Nat) (o : Option AO) : (h.put b o).next = h.next := rfl
@[simp] theorem AH.next_new (h : AH) (o : AO) : (h.new o).next = h.next + 1 := rfl

def BlkR (N0 : Nat) (π : Pi) (o : AO) (p : Spot) (w : World) : Prop :=
  match o with
  | .cells cs esz ro => p.esz = esz ∧ ∃ C E fz, w.heap[p.B]? = some (.cells C E fz) ∧ C.size = p.sz ∧ p.base + cs.length ≤ p.sz ∧ CellsR π cs C p.base ∧ (ro = false → N0 ≤ p.B ∧ Unfz fz p.base p.sz)
  | .map es clock => N0 ≤ p.B ∧ ∃ ES, w.heap[p.B]? = some (.map ES clock) ∧ EntsR π es ES.toList
  | .strIter s pos => N0 ≤ p.B ∧ p.base = 0 ∧ w.heap[p.B]? = some (.stringIter s pos)
  | .mapIter m since seen stepped => N0 ≤ p.B ∧ p.base = 0 ∧ ∃ M, w.heap[p.B]? = some (.mapIter M since seen.toArray stepped) ∧
      (match m with | none => M = none | some b => ∃ q, π b = some q ∧ M = some q.B)
  | .loop L => N0 ≤ p.B ∧ ∃ fn T D, w.heap[p.B]? = some (.loop { state := L.state, pending := L.pending, fn := fn, tmps := T, params := L.params, assign := L.assign, body := L.body, defers := D }) ∧ VRL π L.t T.toList
  | .defd => N0 ≤ p.B ∧ w.heap[p.B]? = some (.deferred (some []))

theorem CellsR.mono {π π' : Pi} (hle : PLe π π') {cs : List Value} {C : Array Value} {base : Nat} (h : CellsR π cs C base) : CellsR π' cs C base :=
  fun i v e => let ⟨V, a, b⟩ := h i v e; ⟨V, a, b.mono hle⟩
theorem EntsR.mono {π π' : Pi} (hle : PLe π π') {a b : List MapEntry} (h : EntsR π a b) : EntsR π' a b :=
  ⟨h.1, fun i e E x y => let ⟨p, q, r⟩ := h.2 i e E x y; ⟨p.mono hle, q.mono hle, r⟩⟩
theorem BlkR.mono {N0 : Nat} {π π' : Pi} (hle : PLe π π') {o : AO} {p : Spot} {w : World} (h : BlkR N0 π o p w) : BlkR N0 π' o p w := by
  cases o with
  | cells cs esz ro => obtain ⟨h1, C, E, fz, a, b, c, d, e⟩ := h; exact ⟨h1, C, E, fz, a, b, c, d.mono hle, e⟩
  | map es clock => obtain ⟨h1, ES, a, b⟩ := h; exact ⟨h1, ES, a, b.mono hle⟩
  | strIter s pos => exact h
  | mapIter m since seen stepped =>
    obtain ⟨h1, h0, M, a, b⟩ := h
    refine ⟨h1, h0, M, a, ?_⟩
    cases m with
    | none => exact b
    | some m => obtain ⟨q, x, y⟩ := b; exact ⟨q, hle _ _ x, y⟩
  | loop L => obtain ⟨h1, fn, T, D, a, b⟩ := h; exact ⟨h1, fn, T, D, a, b.mono hle⟩
  | defd => exact h
theorem BlkR.congr {N0 : Nat} {π : Pi} {o : AO} {p : Spot} {w w' : World} (e : w'.heap[p.B]? = w.heap[p.B]?) (h : BlkR N0 π o p w) : BlkR N0 π o p w' := by
  cases o <;> simp only [BlkR] at h ⊢ <;> rw [e] <;> exact h
theorem BlkR.own {N0 : Nat} {π : Pi} {o : AO} {p : Spot} {w : World} (h : BlkR N0 π o p w) (hr : o.ro = false) : N0 ≤ p.B := by
  cases o with
  | cells cs esz ro => obtain ⟨h1, C, E, fz, a, b, c, d, e⟩ := h; exact (e hr).1
  | map es clock => exact h.1
  | strIter s pos => exact h.1
  | mapIter m since seen stepped => exact h.1
  | loop L => exact h.1
  | defd => exact h.1
theorem BlkR.lt {N0 : Nat} {π : Pi} {o : AO} {p : Spot} {w : World} (h : BlkR N0 π o p w) : p.B < w.heap.size := by
  have : ∃ x, w.heap[p.B]? = some x := by
    cases o with
    | cells cs esz ro => obtain ⟨h1, C, E, fz, a, _⟩ := h; exact ⟨_, a⟩
    | map es clock => obtain ⟨h1, ES, a, _⟩ := h; exact ⟨_, a⟩
    | strIter s pos => exact ⟨_, h.2.2⟩
    | mapIter m since seen stepped => obtain ⟨h1, _, M, a, _⟩ := h; exact ⟨_, a⟩
    | loop L => obtain ⟨h1, fn, T, D, a, _⟩ := h; exact ⟨_, a⟩
    | defd => exact ⟨_, h.2⟩
  obtain ⟨x, hx⟩ := this
  exact (Array.getElem?_eq_some_iff.1 hx).1

structure Sim (w0 : World) (π : Pi) (h : AH) (w : World) : Prop where
  below : Below w0.heap.size w0 w
  fresh : ∀ b, h.next ≤ b → π b = none
  blk : ∀ b p o, π b = some p → h.get b = some o → BlkR w0.heap.size π o p w
  sep : ∀ b b' p p' o o', π b = some p → π b' = some p' → h.get b = some o → h.get b' = some o' → b ≠ b' → p.B = p'.B → o.ro = true ∧ o'.ro = true

/-- from a state to a later one -/
structure Ext (w0 : World) (π : Pi) (h : AH) (π' : Pi) (h' : AH) (w' : World) : Prop where
  le : PLe π π'
  sim : Sim w0 π' h' w'
  next : h.next ≤ h'.next
  pend : ∀ b, b < h.next → π b = none → π' b = none ∧ h'.get b = h.get b

theorem Ext.refl {w0 : World} {π : Pi} {h : AH} {w : World} (s : Sim w0 π h w) : Ext w0 π h π h w := ⟨PLe.refl _, s, Nat.le_refl _, fun _ _ e => ⟨e, rfl⟩⟩
theorem Ext.trans {w0 : World} {π π' π'' : Pi} {h h' h'' : AH} {w' w'' : World} (a : Ext w0 π h π' h' w') (b : Ext w0 π' h' π'' h'' w'') : Ext w0 π h π'' h'' w'' :=
  ⟨a.le.trans b.le, b.sim, Nat.le_trans a.next b.next, fun k hk e => by
    obtain ⟨x, y⟩ := a.pend k hk e
    obtain ⟨x', y'⟩ := b.pend k (Nat.lt_of_lt_of_le hk a.next) x
    exact ⟨x', y'.trans y⟩⟩

section
variable {w0 : World} {π : Pi} {h : AH} {w : World}

theorem Sim.congr (s : Sim w0 π h w) {w' : World} (hb : Below w0.heap.size w0 w') (e : ∀ k : Nat, w'.heap[k]? = w.heap[k]?) : Sim w0 π h w' :=
  ⟨hb, s.fresh, fun b p o x y => (s.blk b p o x y).congr (e _), s.sep⟩
theorem Sim.drew (s : Sim w0 π h w) : Sim w0 π h w.drew := s.congr s.below.drew fun _ => rfl

/-- a block of the call's own takes other contents, or none -/
theorem Sim.upd (s : Sim w0 π h w) {b : Nat} {p : Spot} {o o' : AO} {w' : World} (hp : π b = some p) (ho : h.get b = some o) (hr : o.ro = false)
    (hbel : Below w0.heap.size w0 w') (hw : ∀ k, k ≠ p.B → w'.heap[k]? = w.heap[k]?) (hblk : BlkR w0.heap.size π o' p w') : Ext w0 π h π (h.put b (some o')) w' := by
  refine ⟨PLe.refl _, ⟨hbel, s.fresh, ?_, ?_⟩, Nat.le_refl _, ?_⟩
  · intro k q x hk hx
    rw [AH.get_put] at hx
    split at hx
    · next e => subst e; rw [hp] at hk; cases hk; cases hx; exact hblk
    · next e =>
      refine (s.blk k q x hk hx).congr (hw _ fun e' => ?_)
      have := (s.sep b k p q o x hp hk ho hx e e'.symm).1
      rw [hr] at this; cases this
  · intro k k' q q' x x' hk hk' hx hx' hne hB
    rw [AH.get_put] at hx hx'
    split at hx
    · next e =>
      subst e; rw [hp] at hk; cases hk; cases hx
      rw [if_neg hne] at hx'
      have := (s.sep b k' p q' o x' hp hk' ho hx' hne hB).1
      rw [hr] at this; cases this
    · next e =>
      split at hx'
      · next e' =>
        subst e'; rw [hp] at hk'; cases hk'; cases hx'
        have := (s.sep k b q p x o hk hp hx ho hne hB).2
        rw [hr] at this; cases this
      · exact s.sep k k' q q' x x' hk hk' hx hx' hne hB
  · intro k _ e
    refine ⟨e, ?_⟩
    rw [AH.get_put, if_neg]
    intro e'; subst e'; rw [hp] at e; cases e

theorem Sim.kill (s : Sim w0 π h w) (b : Nat) : Sim w0 π (h.put b none) w := by
  refine ⟨s.below, s.fresh, ?_, ?_⟩
  · intro k q x hk hx
    rw [AH.get_put] at hx
    split at hx
    · cases hx
    · exact s.blk k q x hk hx
  · intro k k' q q' x x' hk hk' hx hx' hne hB
    rw [AH.get_put] at hx hx'
    split at hx
    · cases hx
    · split at hx'
      · cases hx'
      · exact s.sep k k' q q' x x' hk hk' hx hx' hne hB

theorem Ext.kill {π0 : Pi} {h0 : AH} (x : Ext w0 π0 h0 π h w) {b : Nat} {p : Spot} (hb : π0 b = some p ∨ h0.next ≤ b) : Ext w0 π0 h0 π (h.put b none) w :=
  ⟨x.le, x.sim.kill b, x.next, fun k hk e => by
    obtain ⟨a, c⟩ := x.pend k hk e
    refine ⟨a, ?_⟩
    rw [AH.get_put, if_neg]
    · exact c
    · intro e'; subst e'
      rcases hb with hb | hb
      · rw [hb] at e; cases e
      · omega⟩

/-- a new abstract block, laid at a place that no other living one has -/
theorem Sim.add (s : Sim w0 π h w) {p : Spot} {o : AO} {w' : World} (hbel : Below w0.heap.size w0 w')
    (hw : ∀ b q x, π b = some q → h.get b = some x → w'.heap[q.B]? = w.heap[q.B]?)
    (hsep : ∀ b q x, π b = some q → h.get b = some x → q.B ≠ p.B)
    (hblk : BlkR w0.heap.size (π.add h.next p) o p w') : Ext w0 π h (π.add h.next p) (h.new o) w' := by
  have hn : π h.next = none := s.fresh _ (Nat.le_refl _)
  have hle := PLe.add p hn
  refine ⟨hle, ⟨hbel, ?_, ?_, ?_⟩, Nat.le_succ _, ?_⟩
  · intro b hb
    simp at hb
    rw [Pi.add_ne _ _ (by omega)]
    exact s.fresh b (by omega)
  · intro k q x hk hx
    rw [AH.get_new] at hx
    by_cases e : k = h.next
    · subst e
      rw [Pi.add_same] at hk; cases hk
      rw [if_pos rfl] at hx; cases hx
      exact hblk
    · rw [Pi.add_ne _ _ e] at hk
      rw [if_neg (Ne.symm e)] at hx
      exact ((s.blk k q x hk hx).congr (hw k q x hk hx)).mono hle
  · intro k k' q q' x x' hk hk' hx hx' hne hB
    rw [AH.get_new] at hx hx'
    by_cases e : k = h.next
    · subst e
      rw [Pi.add_same] at hk; cases hk
      rw [Pi.add_ne _ _ (Ne.symm hne)] at hk'
      rw [if_neg hne] at hx'
      exact absurd hB.symm (hsep k' q' x' hk' hx')
    · rw [Pi.add_ne _ _ e] at hk
      rw [if_neg (Ne.symm e)] at hx
      by_cases e' : k' = h.next
      · subst e'
        rw [Pi.add_same] at hk'; cases hk'
        exact absurd hB (hsep k q x hk hx)
      · rw [Pi.add_ne _ _ e'] at hk'
        rw [if_neg (Ne.symm e')] at hx'
        exact s.sep k k' q q' x x' hk hk' hx hx' hne hB
  · intro k hk e
    refine ⟨by rw [Pi.add_ne _ _ (by omega)]; exact e, ?_⟩
    rw [AH.get_new, if_neg (by omega)]

theorem heap_alloc (w : World) (o : Obj) (k : Nat) : (w.alloc o).heap[k]? = if k = w.heap.size then some o else w.heap[k]? := by
  show (w.heap.push o)[k]? = _
  rw [Array.getElem?_push]

/-- a new block in the world, a new abstract one -/
theorem Sim.alloc (s : Sim w0 π h w) {o : AO} {O : Obj} {sz esz : Nat}
    (hblk : ∀ π', PLe π π' → BlkR w0.heap.size π' o ⟨w.heap.size, 0, sz, esz⟩ (w.alloc O)) : Ext w0 π h (π.add h.next ⟨w.heap.size, 0, sz, esz⟩) (h.new o) (w.alloc O) := by
  have lt : ∀ b q x, π b = some q → h.get b = some x → q.B < w.heap.size := fun b q x hq hx => (s.blk b q x hq hx).lt
  refine s.add (p := ⟨w.heap.size, 0, sz, esz⟩) (s.below.alloc s.below.size O) ?_ ?_ ?_
  · intro b q x hq hx
    rw [heap_alloc, if_neg]
    have := lt b q x hq hx; omega
  · intro b q x hq hx
    have := lt b q x hq hx
    show q.B ≠ w.heap.size
    omega
  · exact hblk _ (PLe.add _ (s.fresh _ (Nat.le_refl _)))

/-- a row of cells that is new -/
theorem Sim.allocCells (s : Sim w0 π h w) {cs : List Value} {C : Array Value} {E : TypeId} (esz : Nat) (hc : VRL π cs (C.toList.take cs.length)) (hl : cs.length ≤ C.size) :
    Ext w0 π h (π.add h.next ⟨w.heap.size, 0, C.size, esz⟩) (h.new (.cells cs esz false)) (w.alloc (.cells C E)) := by
  refine s.alloc fun π' hle => ⟨rfl, C, E, (0, 0), by rw [heap_alloc, if_pos rfl], rfl, by simpa using hl, ?_, fun _ => ⟨s.below.size, fun j _ _ => by omega⟩⟩
  intro i v hv
  obtain ⟨V, a, b⟩ := hc.get hv
  refine ⟨V, ?_, b.mono hle⟩
  simp only [List.getElem?_take] at a
  split at a
  · simpa using a
  · cases a

theorem Sim.allocAll (s : Sim w0 π h w) {cs : List Value} {C : Array Value} {E : TypeId} (esz : Nat) (hc : VRL π cs C.toList) :
    Ext w0 π h (π.add h.next ⟨w.heap.size, 0, C.size, esz⟩) (h.new (.cells cs esz false)) (w.alloc (.cells C E)) := by
  have e : cs.length = C.toList.length := hc.1
  refine s.allocCells esz ?_ (by rw [e]; simp)
  rw [List.take_of_length_le (by rw [e]; exact Nat.le_refl _)]; exact hc

/-! ### reading and writing cells -/
theorem cell_of {B : Nat} {C : Array Value} {E : TypeId} {fz : Nat × Nat} (hB : w.heap[B]? = some (.cells C E fz)) (o : Nat) : w.cell? ⟨B, o, none⟩ = C[o]? := by
  simp [World.cell?, hB]
theorem frozen_of {B : Nat} {C : Array Value} {E : TypeId} {fz : Nat × Nat} (hB : w.heap[B]? = some (.cells C E fz)) (o : Nat) (h : ¬ (fz.1 ≤ o ∧ o < fz.2)) : w.frozen? ⟨B, o, none⟩ = false := by
  obtain ⟨lo, hi⟩ := fz
  simp only [World.frozen?, hB]
  simp only at h
  rw [Bool.and_eq_false_iff]
  simp only [decide_eq_false_iff_not]
  omega
theorem add_none (B o n : Nat) : (⟨B, o, none⟩ : Addr).add n = ⟨B, o + n, none⟩ := by
  unfold Addr.add; split
  · next e => subst e; rfl
  · rfl

theorem oneCell_eq (v : Value) : v.oneCell' = oneCell v := by cases v <;> rfl

def putAll (C : Array Value) (o : Nat) : List Value → Array Value
  | [] => C
  | v :: vs => putAll (C.setIfInBounds o v) (o + 1) vs
@[simp] theorem putAll_size (vs : List Value) : ∀ (C : Array Value) (o : Nat), (putAll C o vs).size = C.size := by
  induction vs with
  | nil => intro C o; rfl
  | cons v vs ih => intro C o; simp [putAll, ih]
theorem putAll_get (vs : List Value) : ∀ (C : Array Value) (o k : Nat), o + vs.length ≤ C.size → (putAll C o vs)[k]? = if o ≤ k ∧ k < o + vs.length then vs[k - o]? else C[k]? := by
  induction vs with
  | nil => intro C o k _; simp [putAll]; intro h1 h2; omega
  | cons v vs ih =>
    intro C o k hl
    simp only [List.length_cons] at hl
    rw [putAll, ih _ _ _ (by simp; omega)]
    by_cases h1 : o + 1 ≤ k ∧ k < o + 1 + vs.length
    · rw [if_pos h1, if_pos (by simp; omega)]
      have : k - o = (k - (o + 1)) + 1 := by omega
      rw [this, List.getElem?_cons_succ]
    · rw [if_neg h1, Array.getElem?_setIfInBounds]
      by_cases h2 : o = k
      · subst h2; rw [if_pos rfl, if_pos (by omega), if_pos (by simp)]; simp
      · rw [if_neg h2, if_neg (by simp; omega)]

def putRow (w : World) (B : Nat) (o : Obj) : World := { w with heap := w.heap.setIfInBounds B o }
theorem heap_putRow (w : World) (B : Nat) (o : Obj) (k : Nat) : (putRow w B o).heap[k]? = if B = k then (if B < w.heap.size then some o else none) else w.heap[k]? := by
  simp [putRow, Array.getElem?_setIfInBounds]
theorem setCell_putRow {B : Nat} {C : Array Value} {E : TypeId} {fz : Nat × Nat} (hB : w.heap[B]? = some (.cells C E fz)) (o : Nat) (v : Value) :
    w.setCell ⟨B, o, none⟩ v = putRow w B (.cells (C.setIfInBounds o v) E fz) := by
  obtain ⟨hlt, hv⟩ := Array.getElem?_eq_some_iff.1 hB
  simp only [World.setCell, putRow]
  congr 1
  apply Array.ext_getElem?
  intro k
  rw [Array.getElem?_modify, Array.getElem?_setIfInBounds]
  by_cases e : B = k
  · subst e; simp [hlt, hv]
  · simp [e]
theorem putRow_putRow (w : World) (B : Nat) (o o' : Obj) : putRow (putRow w B o) B o' = putRow w B o' := by
  simp only [putRow]
  congr 1
  apply Array.ext_getElem?
  intro k
  simp only [Array.getElem?_setIfInBounds, Array.size_setIfInBounds]
  by_cases e : B = k <;> simp [e]
theorem putRow_same {B : Nat} {o : Obj} (hB : w.heap[B]? = some o) : putRow w B o = w := by
  obtain ⟨hlt, hv⟩ := Array.getElem?_eq_some_iff.1 hB
  have : w.heap.setIfInBounds B o = w.heap := by
    apply Array.ext_getElem?
    intro k
    rw [Array.getElem?_setIfInBounds]
    by_cases e : B = k
    · subst e; simp [hlt]; exact hv.symm
    · simp [e]
  simp [putRow, this]

theorem run_storeCells (P : Program) (B : Nat) (E : TypeId) (fz : Nat × Nat) (o : Nat) : ∀ (vs : List Value) (i : Nat) (C : Array Value) (w : World), w.heap[B]? = some (.cells C E fz) →
    o + i + vs.length ≤ C.size → (∀ j, o + i ≤ j → j < o + i + vs.length → ¬ (fz.1 ≤ j ∧ j < fz.2)) → (∀ v ∈ vs, oneCell v = true) →
    (storeCells ⟨B, o, none⟩ vs i).run P w = .ok () (putRow w B (.cells (putAll C (o + i) vs) E fz)) := by
  intro vs
  induction vs with
  | nil => intro i C w hB _ _ _; simp [storeCells, putAll, putRow_same hB]
  | cons v vs ih =>
    intro i C w hB hl hf h1
    simp only [List.length_cons] at hl hf
    have hlt := (Array.getElem?_eq_some_iff.1 hB).1
    have hc : w.cell? ⟨B, o + i, none⟩ = some C[o + i] := by rw [cell_of hB]; exact Array.getElem?_eq_getElem (by omega)
    have hfz := frozen_of hB (o + i) (hf _ (by omega) (by omega))
    have hv : v.oneCell' = true := by rw [oneCell_eq]; exact h1 v (by simp)
    simp only [storeCells, Sem.run_bind, add_none, run_store P w _ v _ hv, hc, hfz, Bool.false_eq_true, if_false, Result.andThen_ok]
    rw [setCell_putRow hB]
    have hB' : (putRow w B (.cells (C.setIfInBounds (o + i) v) E fz)).heap[B]? = some (.cells (C.setIfInBounds (o + i) v) E fz) := by
      rw [heap_putRow, if_pos rfl, if_pos hlt]
    have := ih (i + 1) (C.setIfInBounds (o + i) v) _ hB' (by simp; omega) (fun j a b => hf j (by omega) (by omega)) (fun u hu => h1 u (by simp [hu]))
    rw [this, putRow_putRow]
    rfl

theorem Below.putRow {N : Nat} {a w : World} (hb : Below N a w) {B : Nat} (hB : N ≤ B) (o : Obj) : Below N a (putRow w B o) :=
  ⟨hb.os, hb.tape, hb.output, by simpa [Abs.putRow] using hb.size, fun k hk => by rw [heap_putRow, if_neg (by omega)]; exact hb.block k hk⟩

/-- what stands behind writing some cells of an own row -/
def splice (cs : List Value) (o : Nat) (vs : List Value) : List Value := cs.take o ++ vs ++ cs.drop (o + vs.length)
theorem splice_length {cs : List Value} {o : Nat} {vs : List Value} (h : o + vs.length ≤ cs.length) : (splice cs o vs).length = cs.length := by
  simp [splice]; omega
theorem splice_get {cs : List Value} {o : Nat} {vs : List Value} (h : o + vs.length ≤ cs.length) (k : Nat) : (splice cs o vs)[k]? = if o ≤ k ∧ k < o + vs.length then vs[k - o]? else cs[k]? := by
  unfold splice
  by_cases h1 : k < o
  · rw [if_neg (by omega), List.append_assoc, List.getElem?_append_left (by simp; omega), List.getElem?_take, if_pos h1]
  · by_cases h2 : k < o + vs.length
    · rw [if_pos (by omega), List.getElem?_append_left (by simp; omega), List.getElem?_append_right (by simp; omega)]
      rw [List.length_take, Nat.min_eq_left (by omega)]
    · rw [if_neg (by omega), List.getElem?_append_right (by simp; omega)]
      simp only [List.getElem?_drop, List.length_append, List.length_take, Nat.min_eq_left (by omega : o ≤ cs.length)]
      congr 1; omega

theorem Sim.store (s : Sim w0 π h w) (P : Program) {b o : Nat} {p : Spot} {cs : List Value} {esz : Nat} {vs VS : List Value} (hp : π b = some p) (hg : h.get b = some (.cells cs esz false))
    (hl : o + vs.length ≤ cs.length) (hv : VRL π vs VS) (h1 : ∀ v ∈ vs, oneCell v = true) :
    ∃ w', (storeCells ⟨p.B, p.base + o, none⟩ VS).run P w = .ok () w' ∧ Ext w0 π h π (h.put b (some (.cells (splice cs o vs) esz false))) w' := by
  obtain ⟨e, C, E, fz, hB, hsz, hfit, hcs, hown⟩ := s.blk b p _ hp hg
  obtain ⟨hN, hfz⟩ := hown rfl
  have h1' : ∀ v ∈ VS, oneCell v = true := by
    intro V hV
    obtain ⟨i, hi⟩ := List.getElem?_of_mem hV
    have : i < vs.length := by rw [hv.1]; exact (List.getElem?_eq_some_iff.1 hi).1
    have h2 := hv.2 i _ V (List.getElem?_eq_getElem this) hi
    rw [h2.oneCell]
    exact h1 _ (List.getElem_mem this)
  have hrun := run_storeCells P p.B E fz (p.base + o) VS 0 C w hB (by rw [← hv.1]; omega) (fun j a b => hfz j (by omega) (by rw [← hv.1] at b; omega)) h1'
  refine ⟨_, hrun, s.upd hp hg rfl (Below.putRow s.below hN _) (fun k hk => by rw [heap_putRow, if_neg (Ne.symm hk)]) ?_⟩
  have hlt := (Array.getElem?_eq_some_iff.1 hB).1
  refine ⟨e, _, E, fz, by rw [heap_putRow, if_pos rfl, if_pos hlt], by simpa using hsz, by rw [splice_length hl]; exact hfit, ?_, fun _ => ⟨hN, hfz⟩⟩
  intro i v hiv
  rw [splice_get hl] at hiv
  rw [putAll_get _ _ _ _ (by rw [← hv.1]; omega)]
  split at hiv
  · next hc =>
    obtain ⟨V, a, b⟩ := hv.get hiv
    refine ⟨V, ?_, b⟩
    rw [if_pos (by rw [← hv.1]; omega)]
    rw [show p.base + i - (p.base + o + 0) = i - o from by omega]
    exact a
  · next hc =>
    rw [if_neg (by rw [← hv.1]; omega)]
    exact hcs i v hiv

/-- reading cells -/
theorem Sim.load (s : Sim w0 π h w) (P : Program) {b o n : Nat} {p : Spot} {cs : List Value} {esz : Nat} {ro : Bool} (hp : π b = some p) (hg : h.get b = some (.cells cs esz ro)) (hl : o + n ≤ cs.length) :
    ∃ VS, (loadCells ⟨p.B, p.base + o, none⟩ n).run P w = .ok VS.toArray w ∧ VRL π ((cs.drop o).take n) VS ∧ (∀ j V, VS[j]? = some V → w.cell? ((⟨p.B, p.base + o, none⟩ : Addr).add j) = some V) := by
  obtain ⟨e, C, E, fz, hB, hsz, hfit, hcs, hown⟩ := s.blk b p _ hp hg
  have hlen : ((C.toList.drop (p.base + o)).take n).length = n := by simp; omega
  refine ⟨(C.toList.drop (p.base + o)).take n, ?_, ⟨by simp; omega, ?_⟩, ?_⟩
  · have := run_loadCells_list (P := P) w ⟨p.B, p.base + o, none⟩ ((C.toList.drop (p.base + o)).take n) (by
      intro j v hj
      rw [add_none, cell_of hB]
      simp only [List.getElem?_take, List.getElem?_drop] at hj
      split at hj
      · simpa using hj
      · cases hj)
    rw [hlen] at this
    exact this
  · intro i x x' a a'
    simp only [List.getElem?_take, List.getElem?_drop] at a a'
    split at a
    · simp_all
      obtain ⟨V, c, d⟩ := hcs (o + i) x a
      rw [← Nat.add_assoc, a'] at c
      cases c; exact d
    · cases a
  · intro j V hj
    rw [add_none, cell_of hB]
    simp only [List.getElem?_take, List.getElem?_drop] at hj
    split at hj
    · simpa using hj
    · cases hj

end
end
end Go.Abs
