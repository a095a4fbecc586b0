/- A part of the abstract machine: an evaluator of the model's code over an abstract heap, proved sound against the model's walks (Calls, wp). No condition beyond each theorem's own premises. -/
import Derived.Test.YtbimgjagacligaaGreatDoorAbs4
import Derived.Laws.BytesString
import Derived.Laws.IdiomStrings
set_option linter.unusedVariables false
set_option linter.unusedSimpArgs false
namespace Go.Abs
open Go Go.RowKit
noncomputable section

section
variable {P : Program} {Γ : Ctx} {w0 : World} {π : Pi} {h : AH} {w : World}

/-! #### load, store -/
def cellsAt (h : AH) (b : Nat) : Option (List Value × Nat × Bool) :=
  match h.get b with
  | some (.cells cs esz ro) => some (cs, esz, ro)
  | _ => none
theorem cellsAt_get {h : AH} {b : Nat} {cs : List Value} {esz : Nat} {ro : Bool} (e : cellsAt h b = some (cs, esz, ro)) : h.get b = some (.cells cs esz ro) := by
  unfold cellsAt at e
  split at e
  · next h1 => rw [h1]; simp at e; obtain ⟨rfl, rfl, rfl⟩ := e; rfl
  · cases e

def aLoad (Γ : Ctx) (t : TypeId) (v : Value) (h : AH) : Option Value :=
  match v with
  | .pointer (some a) =>
    match Γ.ty t, cellsAt h a.block with
    | some i, some (cs, _, _) =>
      if i.k.agg then (if a.off + i.size ≤ cs.length then some (.agg ((cs.drop a.off).take i.size).toArray) else none)
      else cs[a.off]?
    | _, _ => none
  | _ => none

theorem load_ok (hΓ : CtxOk P Γ) (s : Sim w0 π h w) {t : TypeId} {v V r : Value} (hr : aLoad Γ t v h = some r) (hv : VR π v V) : ∃ R, (Instr.loadAt t V).run P w = .ok R w ∧ VR π r R := by
  unfold aLoad at hr
  split at hr
  · next a =>
    split at hr
    · next i cs esz ro hi hc =>
      have ok := hΓ.ty _ _ hi
      obtain ⟨p, hsp, hp, rfl⟩ := hv.ptr_inv
      have hg := cellsAt_get hc
      split at hr
      · next hagg =>
        split at hr
        · next hle =>
          cases hr
          obtain ⟨VS, h1, h2, _⟩ := s.load P hp hg hle
          exact ⟨.agg VS.toArray, by simp [Instr.loadAt, Instr.sureAddr, loadVar, ok.run_isAgg, hagg, ok.run_size, h1], VR.agg' h2⟩
        · cases hr
      · next hagg =>
        obtain ⟨e, C, E, fz, hB, hsz, hfit, hcs, hown⟩ := s.blk _ p _ hp hg
        obtain ⟨R, h1, h2⟩ := hcs _ _ hr
        have hagg' : i.k.agg = false := by simpa using hagg
        refine ⟨R, ?_, h2⟩
        have hcell : w.cell? ⟨p.B, p.base + a.off, none⟩ = some R := by rw [cell_of hB]; exact h1
        simp [Instr.loadAt, Instr.sureAddr, loadVar, ok.run_isAgg, hagg', run_load, hcell]
    · cases hr
  · cases hr

def aStore (Γ : Ctx) (t : TypeId) (v x : Value) (h : AH) : Option AH :=
  match v with
  | .pointer (some a) =>
    match Γ.ty t, cellsAt h a.block with
    | some i, some (cs, esz, false) =>
      let xs := x.cells.toList
      if xs.length = i.size then
        if a.off + xs.length ≤ cs.length then
          if xs.all oneCell then some (h.put a.block (some (.cells (splice cs a.off xs) esz false))) else none
        else none
      else none
    | _, _ => none
  | _ => none

theorem store_ok (hΓ : CtxOk P Γ) (s : Sim w0 π h w) {t : TypeId} {v V x X : Value} {h' : AH} (hr : aStore Γ t v x h = some h') (hv : VR π v V) (hx : VR π x X) : ∃ w', (Instr.storeAt t V X).run P w = .ok () w' ∧ Ext w0 π h π h' w' := by
  unfold aStore at hr
  split at hr
  · next a =>
    split at hr
    · next i cs esz hi hc =>
      have ok := hΓ.ty _ _ hi
      obtain ⟨p, hsp, hp, rfl⟩ := hv.ptr_inv
      have hg := cellsAt_get hc
      simp only at hr
      split at hr
      · next h1 =>
        split at hr
        · next h2 =>
          split at hr
          · next h3 =>
            cases hr
            obtain ⟨w', h4, h5⟩ := s.store P hp hg h2 hx.cells (List.all_eq_true.1 h3)
            have e : X.cells.size = i.size := by have := hx.cells.1; simp at this h1; omega
            exact ⟨w', by simp [Instr.storeAt, Instr.sureAddr, storeVar, ok.run_size, e, h4], h5⟩
          · cases hr
        · cases hr
      · cases hr
    · cases hr
  · cases hr

/-! #### places -/
def aFieldAddr (Γ : Ctx) (t : TypeId) (v : Value) (f : Nat) : Option Value :=
  match v with
  | .pointer (some a) =>
    match Γ.ty t with
    | some i => match i.k with
      | .struct fs => match fs[f]? with
        | some (off, u) => match Γ.ty u with
          | some j => if j.size = 0 then none else if a.spot.isSome then none else some (.pointer (some ⟨a.block, a.off + off, none⟩))
          | none => none
        | none => none
      | _ => none
    | none => none
  | _ => none

theorem fieldAddr_ok (hΓ : CtxOk P Γ) {t : TypeId} {v V r : Value} {f : Nat} (hr : aFieldAddr Γ t v f = some r) (hv : VR π v V) : ∃ R, (Instr.fieldAt t V f).run P w = .ok R w ∧ VR π r R := by
  unfold aFieldAddr at hr
  split at hr
  · next a =>
    split at hr
    · next i hi =>
      have ok := hΓ.ty _ _ hi
      split at hr
      · next fs hk =>
        obtain ⟨gs, hu, rfl⟩ := ok.struct hk
        split at hr
        · next off u hf =>
          split at hr
          · next j hj =>
            split at hr
            · cases hr
            · next hsz =>
              split at hr
              · cases hr
              · cases hr
                obtain ⟨p, hsp, hp, rfl⟩ := hv.ptr_inv
                simp only [List.getElem?_map, Option.map_eq_some_iff] at hf
                obtain ⟨fd, h1, h2⟩ := hf
                simp only [Prod.mk.injEq] at h2
                obtain ⟨rfl, rfl⟩ := h2
                have h1' : gs[f]? = some fd := by simpa using h1
                refine ⟨.pointer (some ⟨p.B, p.base + (a.off + fd.offset), none⟩), ?_, .ptr hp⟩
                simp [Instr.fieldAt, run_underlying hu, h1', Instr.sureAddr, fieldPlace, (hΓ.ty _ _ hj).run_size, hsz, add_none, Nat.add_assoc]
          · cases hr
        · cases hr
      · cases hr
    · cases hr
  · cases hr

/-- a part of a struct's or an array's cells -/
def aPart (Γ : Ctx) (u : TypeId) (cs : List Value) (off : Nat) : Option Value :=
  match Γ.ty u with
  | some j => if j.k.agg then some (.agg ((cs.drop off).take j.size).toArray) else cs[off]?
  | none => none
theorem part_ok (hΓ : CtxOk P Γ) {u : TypeId} {cs : List Value} {C : Array Value} {off : Nat} {r : Value} (hr : aPart Γ u cs off = some r) (hc : VRL π cs C.toList) : ∃ R, (part u C off).run P w = .ok R w ∧ VR π r R := by
  unfold aPart at hr
  split at hr
  · next j hj =>
    have ok := hΓ.ty _ _ hj
    split at hr
    · next hagg =>
      cases hr
      refine ⟨.agg (C.extract off (off + j.size)), by simp [part, ok.run_isAgg, hagg, ok.run_size], ?_⟩
      have := VR.agg' ((hc.drop off).take j.size)
      have e : (List.take j.size (List.drop off C.toList)).toArray = C.extract off (off + j.size) := by
        apply Array.ext'
        simp [List.extract_eq_take_drop]
      rw [e] at this
      exact this
    · next hagg =>
      have hagg' : j.k.agg = false := by simpa using hagg
      obtain ⟨R, h1, h2⟩ := hc.get hr
      have h1' : C[off]? = some R := by simpa using h1
      exact ⟨R, by simp [part, ok.run_isAgg, hagg', h1'], h2⟩
  · cases hr

def aField (Γ : Ctx) (t : TypeId) (v : Value) (f : Nat) : Option Value :=
  match v with
  | .agg cs =>
    match Γ.ty t with
    | some i => match i.k with
      | .struct fs => match fs[f]? with
        | some (off, u) => aPart Γ u cs.toList off
        | none => none
      | _ => none
    | none => none
  | _ => none
theorem field_ok (hΓ : CtxOk P Γ) {t : TypeId} {v V r : Value} {f : Nat} (hr : aField Γ t v f = some r) (hv : VR π v V) : ∃ R, (Instr.field t V f).run P w = .ok R w ∧ VR π r R := by
  unfold aField at hr
  split at hr
  · next cs =>
    split at hr
    · next i hi =>
      split at hr
      · next fs hk =>
        obtain ⟨gs, hu, rfl⟩ := (hΓ.ty _ _ hi).struct hk
        split at hr
        · next off u hf =>
          obtain ⟨C, rfl, hc⟩ := hv.agg_inv
          obtain ⟨R, h1, h2⟩ := part_ok (P := P) (w := w) hΓ hr hc
          simp only [List.getElem?_map, Option.map_eq_some_iff] at hf
          obtain ⟨fd, h3, h4⟩ := hf
          simp only [Prod.mk.injEq] at h4
          obtain ⟨rfl, rfl⟩ := h4
          have h3' : gs[f]? = some fd := by simpa using h3
          exact ⟨R, by simp [Instr.field, run_underlying hu, h3', asAgg, h1], h2⟩
        · cases hr
      · cases hr
    · cases hr
  · cases hr

def aIndexAddr (Γ : Ctx) (t : TypeId) (v x : Value) : Option Value :=
  match x with
  | .int _ n =>
    match Γ.ty t with
    | some i => match i.k, v with
      | .slice e, .slice (some a) len _ => match Γ.ty e with
        | some j => if 0 ≤ n then (if n < len then some (.pointer (some ⟨a.block, a.off + n.toNat * j.size, none⟩)) else none) else none
        | none => none
      | .array len e, .pointer (some a) => match Γ.ty e with
        | some j => if 0 ≤ n then (if n < len then some (.pointer (some ⟨a.block, a.off + n.toNat * j.size, none⟩)) else none) else none
        | none => none
      | _, _ => none
    | none => none
  | _ => none
theorem indexAddr_ok (hΓ : CtxOk P Γ) {t : TypeId} {v V x X r : Value} (hr : aIndexAddr Γ t v x = some r) (hv : VR π v V) (hx : VR π x X) : ∃ R, (Instr.indexAt t V X).run P w = .ok R w ∧ VR π r R := by
  unfold aIndexAddr at hr
  split at hr
  · next k n =>
    obtain rfl := hx.lit_inv rfl
    split at hr
    · next i hi =>
      split at hr
      · next e a len c hk =>
        have hu := (hΓ.ty _ _ hi).slice hk
        split at hr
        · next j hj =>
          split at hr
          · next h0 =>
            split at hr
            · next hn =>
              cases hr
              obtain ⟨p, o', c', hsp, hp, rfl, h1, h2, h3, h4, h5⟩ := hv.slice_inv
              have ho : o' = p.base + a.off := h1.resolve_left (by omega)
              subst ho
              refine ⟨.pointer (some ⟨p.B, p.base + (a.off + n.toNat * j.size), none⟩), ?_, .ptr hp⟩
              simp [Instr.indexAt, asIntOf, run_underlying hu, h0, hn, (hΓ.ty _ _ hj).run_size, add_none, Nat.add_assoc]
            · cases hr
          · cases hr
        · cases hr
      · next len e a hk =>
        have hu := (hΓ.ty _ _ hi).array hk
        split at hr
        · next j hj =>
          split at hr
          · next h0 =>
            split at hr
            · next hn =>
              cases hr
              obtain ⟨p, hsp, hp, rfl⟩ := hv.ptr_inv
              refine ⟨.pointer (some ⟨p.B, p.base + (a.off + n.toNat * j.size), none⟩), ?_, .ptr hp⟩
              simp [Instr.indexAt, asIntOf, run_underlying hu, h0, hn, (hΓ.ty _ _ hj).run_size, add_none, Nat.add_assoc, Instr.sureAddr]
            · cases hr
          · cases hr
        · cases hr
      · cases hr
    · cases hr
  · cases hr

def aIndex (Γ : Ctx) (t : TypeId) (v x : Value) : Option Value :=
  match x with
  | .int _ n =>
    match Γ.ty t with
    | some i => match i.k, v with
      | .string, .string s => if 0 ≤ n then (match s[n.toNat]? with | some b => some (.int .u8 b.toNat) | none => none) else none
      | .array len e, .agg cs => match Γ.ty e with
        | some j => if 0 ≤ n then (if n < len then aPart Γ e cs.toList (n.toNat * j.size) else none) else none
        | none => none
      | _, _ => none
    | none => none
  | _ => none
theorem index_ok (hΓ : CtxOk P Γ) {t : TypeId} {v V x X r : Value} (hr : aIndex Γ t v x = some r) (hv : VR π v V) (hx : VR π x X) : ∃ R, (Instr.index t V X).run P w = .ok R w ∧ VR π r R := by
  unfold aIndex at hr
  split at hr
  · next k n =>
    obtain rfl := hx.lit_inv rfl
    split at hr
    · next i hi =>
      split at hr
      · next str hk =>
        obtain rfl := hv.lit_inv rfl
        have hu := (hΓ.ty _ _ hi).string hk
        split at hr
        · next h0 =>
          split at hr
          · next b hb =>
            cases hr
            exact ⟨_, by simp [Instr.index, asIntOf, run_underlying hu, h0, hb], .lit rfl⟩
          · cases hr
        · cases hr
      · next len e cs hk =>
        have hu := (hΓ.ty _ _ hi).array hk
        split at hr
        · next j hj =>
          split at hr
          · next h0 =>
            split at hr
            · next hn =>
              obtain ⟨C, rfl, hc⟩ := hv.agg_inv
              obtain ⟨R, h1, h2⟩ := part_ok (P := P) (w := w) hΓ hr hc
              exact ⟨R, by simp [Instr.index, asIntOf, run_underlying hu, h0, hn, (hΓ.ty _ _ hj).run_size, h1], h2⟩
            · cases hr
          · cases hr
        · cases hr
      · cases hr
    · cases hr
  · cases hr

/-! #### slicing -/
def aBound (x : Value) (y : Nat) : Option Nat :=
  match x with
  | .int _ n => if 0 ≤ n then (if n ≤ y then some n.toNat else none) else none
  | _ => none
theorem bound_ok {x X : Value} {y y' n : Nat} {code : BoundsCode} (hr : aBound x y = some n) (hy : y ≤ y') (hx : VR π x X) : (Instr.sliceBound X y' code).run P w = .ok n w ∧ n ≤ y := by
  unfold aBound at hr
  split at hr
  · next k m =>
    obtain rfl := hx.lit_inv rfl
    split at hr
    · next h0 =>
      split at hr
      · next h1 =>
        cases hr
        have : m ≤ (y' : Int) := by omega
        exact ⟨by simp [Instr.sliceBound, asIntOf, h0, this], by omega⟩
      · cases hr
    · cases hr
  · cases hr

def optR (π : Pi) : Option Value → Option Value → Prop
  | none, none => True
  | some x, some y => VR π x y
  | _, _ => False

/-- low, high; and the capacity's end: 'none': as far as there is -/
def aBounds (len cap : Nat) (lo hi mx : Option Value) : Option (Nat × Nat × Option Nat) :=
  match mx with
  | none =>
    match (match hi with | some v => aBound v cap | none => some len) with
    | some hh => match (match lo with | some v => aBound v hh | none => some 0) with
      | some l => some (l, hh, none)
      | none => none
    | none => none
  | some v =>
    match aBound v cap with
    | some m => match hi with
      | some v' => match aBound v' m with
        | some hh => match (match lo with | some v => aBound v hh | none => some 0) with
          | some l => some (l, hh, some m)
          | none => none
        | none => none
      | none => none
    | none => none

theorem bounds_ok {b : Bool} {len cap cap' : Nat} {lo hi mx LO HI MX : Option Value} {l hh : Nat} {m : Option Nat} (hr : aBounds len cap lo hi mx = some (l, hh, m)) (hcap : cap ≤ cap') (hlen : len ≤ cap)
    (h1 : optR π lo LO) (h2 : optR π hi HI) (h3 : optR π mx MX) : (Instr.sliceBounds b len cap' LO HI MX).run P w = .ok (l, hh, m.getD cap') w ∧ l ≤ hh ∧ hh ≤ cap ∧ (∀ x, m = some x → hh ≤ x ∧ x ≤ cap) := by
  unfold aBounds at hr
  cases mx with
  | none =>
    cases MX with
    | some _ => exact h3.elim
    | none =>
      simp only at hr
      cases hi with
      | none =>
        cases HI with
        | some _ => exact h2.elim
        | none =>
          simp only at hr
          cases lo with
          | none =>
            cases LO with
            | some _ => exact h1.elim
            | none =>
              simp at hr; obtain ⟨rfl, rfl, rfl⟩ := hr
              exact ⟨by simp [Instr.sliceBounds], by omega, by omega, fun x hx => by cases hx⟩
          | some x =>
            cases LO with
            | none => exact h1.elim
            | some X =>
              simp only at hr
              split at hr
              · next q hq =>
                cases hr
                have := bound_ok (P := P) (w := w) (code := .sliceB) hq (Nat.le_refl _) h1
                exact ⟨by simp [Instr.sliceBounds, this.1], by omega, by omega, fun x hx => by cases hx⟩
              · cases hr
      | some y =>
        cases HI with
        | none => exact h2.elim
        | some Y =>
          simp only at hr
          split at hr
          · next q hq =>
            have hb := bound_ok (P := P) (w := w) (code := if b then .sliceAcap else .sliceAlen) hq hcap h2
            cases lo with
            | none =>
              cases LO with
              | some _ => exact h1.elim
              | none =>
                simp at hr; obtain ⟨rfl, rfl, rfl⟩ := hr
                exact ⟨by simp [Instr.sliceBounds, hb.1], by omega, by omega, fun x hx => by cases hx⟩
            | some x =>
              cases LO with
              | none => exact h1.elim
              | some X =>
                simp only at hr
                split at hr
                · next q' hq' =>
                  cases hr
                  have := bound_ok (P := P) (w := w) (code := .sliceB) hq' (Nat.le_refl _) h1
                  exact ⟨by simp [Instr.sliceBounds, hb.1, this.1], by omega, by omega, fun x hx => by cases hx⟩
                · cases hr
          · cases hr
  | some z =>
    cases MX with
    | none => exact h3.elim
    | some Z =>
      simp only at hr
      split at hr
      · next mm hm =>
        have hmb := bound_ok (P := P) (w := w) (code := if b then .slice3Acap else .slice3Alen) hm hcap h3
        cases hi with
        | none => cases hr
        | some y =>
          cases HI with
          | none => exact h2.elim
          | some Y =>
            simp only at hr
            split at hr
            · next q hq =>
              have hb := bound_ok (P := P) (w := w) (code := .slice3B) hq (Nat.le_refl _) h2
              cases lo with
              | none =>
                cases LO with
                | some _ => exact h1.elim
                | none =>
                  simp at hr; obtain ⟨rfl, rfl, rfl⟩ := hr
                  exact ⟨by simp [Instr.sliceBounds, hb.1, hmb.1], by omega, by omega, fun x hx => by cases hx; omega⟩
              | some x =>
                cases LO with
                | none => exact h1.elim
                | some X =>
                  simp only at hr
                  split at hr
                  · next q' hq' =>
                    cases hr
                    have := bound_ok (P := P) (w := w) (code := .slice3C) hq' (Nat.le_refl _) h1
                    exact ⟨by simp [Instr.sliceBounds, hb.1, hmb.1, this.1], by omega, by omega, fun x hx => by cases hx; omega⟩
                  · cases hr
            · cases hr
      · cases hr

def aSlice (Γ : Ctx) (t : TypeId) (v : Value) (lo hi mx : Option Value) (h : AH) : Option Value :=
  match Γ.ty t with
  | some i => match i.k, v with
    | .string, .string s => match mx with
      | none => match aBounds s.size s.size lo hi none with
        | some (l, hh, _) => some (.string (s.extract l hh))
        | none => none
      | some _ => none
    | .slice e, .slice none 0 0 => match Γ.ty e, aBounds 0 0 lo hi mx with
      | some _, some _ => some (.slice none 0 0)
      | _, _ => none
    | .slice e, .slice (some a) len cap =>
      match Γ.ty e, cellsAt h a.block with
      | some j, some (_, esz, _) => if esz = j.size then (if len ≤ cap then
          match aBounds len cap lo hi mx with
          | some (l, hh, m) => some (.slice (some ⟨a.block, a.off + l * j.size, none⟩) (hh - l) (m.getD cap - l))
          | none => none else none) else none
      | _, _ => none
    | .array n e, .pointer (some a) => match Γ.ty e with
      | some j => match aBounds n n lo hi mx with
        | some (l, hh, m) => some (.slice (some ⟨a.block, a.off + l * j.size, none⟩) (hh - l) (m.getD n - l))
        | none => none
      | none => none
    | _, _ => none
  | none => none

theorem slice_ok (hΓ : CtxOk P Γ) (s : Sim w0 π h w) {t : TypeId} {v V r : Value} {lo hi mx LO HI MX : Option Value} (hr : aSlice Γ t v lo hi mx h = some r) (hv : VR π v V)
    (h1 : optR π lo LO) (h2 : optR π hi HI) (h3 : optR π mx MX) : ∃ R, (Instr.sliceAt t V LO HI MX).run P w = .ok R w ∧ VR π r R := by
  unfold aSlice at hr
  split at hr
  · next i hi =>
    have ok := hΓ.ty _ _ hi
    split at hr
    · next str hk =>
      obtain rfl := hv.lit_inv rfl
      have hu := ok.string hk
      split at hr
      · split at hr
        · next l hh m hb =>
          cases hr
          cases MX with
          | some _ => exact h3.elim
          | none =>
            obtain ⟨hb1, _⟩ := bounds_ok (P := P) (w := w) (b := false) hb (Nat.le_refl _) (Nat.le_refl _) h1 h2 h3
            exact ⟨_, by simp [Instr.sliceAt, Instr.slice, run_underlying hu, hb1], .lit rfl⟩
        · cases hr
      · cases hr
    · next e hk =>
      have hu := ok.slice hk
      split at hr
      · next j q hj hb =>
        cases hr
        obtain rfl := hv.lit_inv rfl
        obtain ⟨l, hh, m⟩ := q
        obtain ⟨hb1, hb2, hb3, hb4⟩ := bounds_ok (P := P) (w := w) (b := true) hb (Nat.le_refl _) (Nat.le_refl _) h1 h2 h3
        obtain rfl : hh = 0 := by omega
        obtain rfl : l = 0 := by omega
        have hm : m.getD 0 = 0 := by
          cases m with
          | none => rfl
          | some x => have := hb4 x rfl; simp; omega
        rw [hm] at hb1
        exact ⟨.slice none 0 0, by simp [Instr.sliceAt, Instr.slice, run_underlying hu, hb1, (hΓ.ty _ _ hj).run_size], .lit rfl⟩
      · cases hr
    · next e a len cap hk =>
      have hu := ok.slice hk
      split at hr
      · next j _ esz ro hj hc =>
        split at hr
        · next he =>
          split at hr
          · next hlc =>
            split at hr
            · next l hh m hb =>
              cases hr
              obtain ⟨p, o', c', hsp, hp, rfl, g1, g2, g3, g4, g5⟩ := hv.slice_inv
              obtain ⟨hb1, hb2, hb3, hb4⟩ := bounds_ok (P := P) (w := w) (b := true) hb g2 hlc h1 h2 h3
              have hesz : p.esz = j.size := by
                obtain ⟨e1, _⟩ := s.blk _ p _ hp (cellsAt_get hc)
                rw [e1, he]
              have hmle : m.getD cap ≤ m.getD c' ∧ hh ≤ m.getD cap ∧ m.getD c' ≤ c' ∧ m.getD cap ≤ cap := by
                cases m with
                | none => simp; omega
                | some x => have := hb4 x rfl; simp; omega
              refine ⟨.slice (some (if m.getD c' = l then ⟨p.B, o', none⟩ else ⟨p.B, o' + l * j.size, none⟩)) (hh - l) (m.getD c' - l), by simp [Instr.sliceAt, Instr.slice, run_underlying hu, hb1, (hΓ.ty _ _ hj).run_size, add_none, apply_ite], ?_⟩
              split
              · next hml =>
                refine .slice hp (.inl ?_) (by omega) (.inl ?_) (by omega) g5
                · omega
                · omega
              · next hml =>
                have hmul : l * j.size + (m.getD c' - l) * j.size = m.getD c' * j.size := by
                  rw [← Nat.add_mul]; congr 1; omega
                refine .slice hp ?_ (by omega) ?_ (by omega) (by have := Nat.zero_le (l * j.size); omega)
                · rcases g1 with g1 | g1
                  · left; omega
                  · right; rw [g1, Nat.add_assoc]
                · rcases g3 with g3 | g3
                  · left
                    cases m with
                    | none => simp; omega
                    | some x => simp
                  · right
                    rw [hesz] at g3 ⊢
                    have : m.getD c' * j.size ≤ c' * j.size := Nat.mul_le_mul_right _ (by omega)
                    omega
            · cases hr
          · cases hr
        · cases hr
      · cases hr
    · next n e a hk =>
      have hu := ok.array hk
      split at hr
      · next j hj =>
        split at hr
        · next l hh m hb =>
          cases hr
          obtain ⟨p, hsp, hp, rfl⟩ := hv.ptr_inv
          obtain ⟨hb1, hb2, hb3, hb4⟩ := bounds_ok (P := P) (w := w) (b := false) hb (Nat.le_refl _) (Nat.le_refl _) h1 h2 h3
          have hmle : hh ≤ m.getD n := by
            cases m with
            | none => simpa using hb3
            | some x => have := hb4 x rfl; simp; omega
          refine ⟨.slice (some (if m.getD n = l then ⟨p.B, p.base + a.off, none⟩ else ⟨p.B, p.base + a.off + l * j.size, none⟩)) (hh - l) (m.getD n - l), by simp [Instr.sliceAt, run_underlying hu, hb1, (hΓ.ty _ _ hj).run_size, add_none, apply_ite, Instr.sureAddr], ?_⟩
          split
          · next hml => exact .slice hp (.inl (by omega)) (Nat.le_refl _) (.inl rfl) (by omega) (by omega)
          · next hml => exact .slice hp (.inr (by rw [Nat.add_assoc])) (Nat.le_refl _) (.inl rfl) (by omega) (by omega)
        · cases hr
      · cases hr
    · cases hr
  · cases hr

end
end
end Go.Abs
