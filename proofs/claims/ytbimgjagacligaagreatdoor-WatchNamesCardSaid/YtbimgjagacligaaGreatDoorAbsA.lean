/- A part of the abstract machine: an evaluator of the model's code over an abstract heap, proved sound against the model's walks (Calls, wp). No condition beyond each theorem's own premises. -/
import Derived.Test.YtbimgjagacligaaGreatDoorAbs9
import Derived.MapKept
set_option linter.unusedVariables false
set_option linter.unusedSimpArgs false
namespace Go.Abs
open Go Go.RowKit
noncomputable section

section
variable {P : Program} {Γ : Ctx} {w0 : World} {π : Pi} {h : AH} {w : World}

theorem run_setObj {B : Nat} {o o' : Obj} (hB : w.heap[B]? = some o) (hno : ∀ a b c, o ≠ .cells a b c) : (setObj B o').run P w = .ok () (putRow w B o') := by
  simp only [setObj, Sem.run, hB]
  cases o <;> first | rfl | exact absurd rfl (hno _ _ _)

theorem sameBits_flat : ∀ (n : Nat) (v : Value), flatLit v = true → Instr.sameBits n v v = true := by
  intro n v h
  cases n <;> cases v <;> first | (cases h; done) | (simp [Instr.sameBits]; done) | (simp only [Instr.sameBits]; exact (MapKept.bytes_beq _ _).2 rfl)
theorem sameBits_agg (n : Nat) (xs : Array Value) (h : allLit xs.toList = true) : Instr.sameBits (n + 1) (.agg xs) (.agg xs) = true := by
  simp only [Instr.sameBits, BEq.rfl, Bool.true_and, List.all_eq_true]
  intro p hp
  obtain ⟨i, hi⟩ := List.getElem?_of_mem hp
  rw [List.getElem?_zip_eq_some] at hi
  obtain ⟨a, b⟩ := hi
  rw [a] at b
  have e : p.1 = p.2 := by simpa using b
  rw [← e]
  exact sameBits_flat _ _ (List.all_eq_true.1 h _ (List.mem_of_getElem? a))

theorem keySame_sameBits (hΓ : CtxOk P Γ) {kt : TypeId} {kk : KeyK} {x y : Value} (hr : keySame P Γ kt kk x y = some true) : Instr.sameBits 10000 y x = true := by
  unfold keySame at hr
  split at hr
  · next j a j' b =>
    split at hr
    · next e =>
      subst e
      have : a = b := by simpa using hr
      subst this
      exact sameBits_flat _ _ rfl
    · cases hr
  · next a b =>
    have : a = b := (MapKept.bytes_beq _ _).1 (by simpa using hr)
    subst this
    exact sameBits_flat _ _ rfl
  · next xs ys =>
    split at hr
    · next L M h1 h2 =>
      have : L = M := (litsSame_iff _ _).1 (by simpa using hr)
      subst this
      obtain rfl := aLits_inj hΓ h1 h2
      exact sameBits_agg 9999 xs (aLits_ok hΓ h1).2.2.1
    · cases hr
  · cases hr

def aMapUpdate (P : Program) (Γ : Ctx) (t : TypeId) (m k v : Value) (h : AH) : Option AH :=
  match Γ.ty t with
  | some i => match i.k with
    | .map kt et => match Γ.ty kt with
      | some ik => match keyK ik with
        | some kk =>
          if keyFine P Γ kt kk k then
            match m with
            | .map (some b) => match mapAt h b with
              | some (es, c) => match afind P Γ kt kk k es 0 with
                | some (some (i, _)) => match es[i]? with
                  | some e => some (h.put b (some (.map (es.set i { e with key := k, val := v }) c)))
                  | none => none
                | some none => some (h.put b (some (.map (es ++ [{ key := k, val := v, born := c }]) (c + 1))))
                | none => none
              | none => none
            | _ => none
          else none
        | none => none
      | none => none
    | _ => none
  | none => none

theorem modify_set (ES : Array MapEntry) (i : Nat) (f : MapEntry → MapEntry) (E : MapEntry) (h : ES[i]? = some E) : (ES.modify i f).toList = ES.toList.set i (f E) := by
  apply List.ext_getElem?
  intro k
  rw [Array.getElem?_toList, Array.getElem?_modify, List.getElem?_set]
  have hlt := (Array.getElem?_eq_some_iff.1 h).1
  by_cases e : i = k
  · subst e
    rw [if_pos rfl, if_pos rfl, h, if_pos (by simpa using hlt)]; rfl
  · simp [e]

theorem mapUpdate_ok (hΓ : CtxOk P Γ) (s : Sim w0 π h w) {t : TypeId} {m k v M X V : Value} {h' : AH} (hr : aMapUpdate P Γ t m k v h = some h') (hm : VR π m M) (hk : VR π k X) (hv : VR π v V) :
    ∃ w', (Instr.mapUpdate t M X V).run P w = .ok () w' ∧ Ext w0 π h π h' w' := by
  unfold aMapUpdate at hr
  split at hr
  case h_2 => cases hr
  next i hi =>
  split at hr
  case h_2 => cases hr
  next kt et hik =>
  have hu := (hΓ.ty _ _ hi).map hik
  split at hr
  case h_2 => cases hr
  next ik hkt =>
  split at hr
  case h_2 => cases hr
  next kk hkk =>
  split at hr
  case isFalse => cases hr
  next hfine =>
  split at hr
  case h_2 => cases hr
  next b =>
  split at hr
  case h_2 => cases hr
  next es c hes =>
  obtain ⟨p, hp, rfl⟩ := hm.map_inv
  have hg := mapAt_get hes
  obtain ⟨hN, ES, hB, hE⟩ := s.blk _ _ _ hp hg
  have hlt := (Array.getElem?_eq_some_iff.1 hB).1
  have hck := checkKey_ok hΓ hkt hkk hfine hk false w
  have fin : ∀ (es' : List MapEntry) (ES' : Array MapEntry) (c' : Nat), EntsR π es' ES'.toList → Ext w0 π h π (h.put b (some (.map es' c'))) (putRow w p.B (.map ES' c')) := fun es' ES' c' hh =>
    s.upd hp hg rfl (Below.putRow s.below hN _) (fun q hq => by rw [heap_putRow, if_neg (Ne.symm hq)]) ⟨hN, ES', by rw [heap_putRow, if_pos rfl, if_pos hlt], hh⟩
  have hset : ∀ o', (setObj p.B o').run P w = .ok () (putRow w p.B o') := fun o' => run_setObj hB (fun _ _ _ h => by cases h)
  split at hr
  · next n _ hf =>
    split at hr
    · next e he =>
      cases hr
      obtain ⟨R, h1, h2, h3⟩ := findKey_ok hΓ hkt hkk hf hk hE w
      obtain ⟨V', e', rfl, _, he', _, hs⟩ := h3 n _ rfl
      rw [he] at he'; cases he'
      obtain ⟨E, hEn, hER⟩ := hE.get he
      have hEn' : ES[n]? = some E := by simpa using hEn
      obtain ⟨e1, e2⟩ := keySame_lit hΓ hs hk hER.1
      have hsb : Instr.sameBits 10000 E.key X = true := by rw [e1, e2]; exact keySame_sameBits hΓ hs
      refine ⟨_, ?_, fin _ (ES.modify n fun q => { q with key := X, val := V }) c ?_⟩
      · simp [Instr.mapUpdate, run_underlying hu, run_getMap hB, hck, h1, hEn', Instr.keyThatStays, hsb, hset]
      · rw [modify_set _ _ _ E hEn']
        exact hE.set n ⟨hk, hv, hER.2.2⟩
    · cases hr
  · next hf =>
    cases hr
    obtain ⟨R, h1, h2, h3⟩ := findKey_ok hΓ hkt hkk hf hk hE w
    obtain rfl := h2 rfl
    refine ⟨_, ?_, fin _ (ES.push { key := X, val := V, born := c }) (c + 1) ?_⟩
    · simp [Instr.mapUpdate, run_underlying hu, run_getMap hB, hck, h1, hset]
    · rw [Array.toList_push]
      exact hE.snoc ⟨hk, hv, rfl⟩
  · cases hr

def aDelete (P : Program) (Γ : Ctx) (t : TypeId) (m k : Value) (h : AH) : Option AH :=
  match Γ.ty t with
  | some i => match i.k with
    | .map kt et => match Γ.ty kt with
      | some ik => match keyK ik with
        | some kk =>
          if keyFine P Γ kt kk k then
            match m with
            | .map (some b) => match mapAt h b with
              | some (es, c) => match afind P Γ kt kk k es 0 with
                | some (some (i, _)) => some (h.put b (some (.map (es.eraseIdx i) c)))
                | some none => some (h.put b (some (.map es c)))
                | none => none
              | none => none
            | _ => none
          else none
        | none => none
      | none => none
    | _ => none
  | none => none

theorem delete_ok (hΓ : CtxOk P Γ) (s : Sim w0 π h w) {t ty : TypeId} {ts : Array TypeId} {m k M X : Value} {h' : AH} (hts : ts[0]? = some t) (hr : aDelete P Γ t m k h = some h') (hm : VR π m M) (hk : VR π k X) :
    ∃ w', (Builtin.delete_ ts ty #[M, X]).run P w = .ok (.tuple #[]) w' ∧ Ext w0 π h π h' w' := by
  unfold aDelete at hr
  split at hr
  case h_2 => cases hr
  next i hi =>
  split at hr
  case h_2 => cases hr
  next kt et hik =>
  have hu := (hΓ.ty _ _ hi).map hik
  split at hr
  case h_2 => cases hr
  next ik hkt =>
  split at hr
  case h_2 => cases hr
  next kk hkk =>
  split at hr
  case isFalse => cases hr
  next hfine =>
  split at hr
  case h_2 => cases hr
  next b =>
  split at hr
  case h_2 => cases hr
  next es c hes =>
  obtain ⟨p, hp, rfl⟩ := hm.map_inv
  have hg := mapAt_get hes
  obtain ⟨hN, ES, hB, hE⟩ := s.blk _ _ _ hp hg
  have hlt := (Array.getElem?_eq_some_iff.1 hB).1
  have hck := checkKey_ok hΓ hkt hkk hfine hk ES.isEmpty w
  have fin : ∀ (es' : List MapEntry) (ES' : Array MapEntry) (c' : Nat), EntsR π es' ES'.toList → Ext w0 π h π (h.put b (some (.map es' c'))) (putRow w p.B (.map ES' c')) := fun es' ES' c' hh =>
    s.upd hp hg rfl (Below.putRow s.below hN _) (fun q hq => by rw [heap_putRow, if_neg (Ne.symm hq)]) ⟨hN, ES', by rw [heap_putRow, if_pos rfl, if_pos hlt], hh⟩
  have hset : ∀ o', (setObj p.B o').run P w = .ok () (putRow w p.B o') := fun o' => run_setObj hB (fun _ _ _ h => by cases h)
  split at hr
  · next n v hf =>
    cases hr
    obtain ⟨R, h1, h2, h3⟩ := findKey_ok hΓ hkt hkk hf hk hE w
    obtain ⟨V', e', rfl, _, he', _, hs⟩ := h3 n _ rfl
    refine ⟨_, ?_, fin _ (ES.eraseIdxIfInBounds n) c ?_⟩
    · simp [Builtin.delete_, hts, run_underlying hu, run_getMap hB, hck, h1, hset]
    · have hn : n < ES.size := by
        have := (List.getElem?_eq_some_iff.1 he').1
        have e := hE.1
        simp at e; omega
      have : (ES.eraseIdxIfInBounds n).toList = ES.toList.eraseIdx n := by
        simp [Array.eraseIdxIfInBounds, hn, Array.toList_eraseIdx]
      rw [this]
      exact hE.erase n
  · next hf =>
    cases hr
    obtain ⟨R, h1, h2, h3⟩ := findKey_ok hΓ hkt hkk hf hk hE w
    obtain rfl := h2 rfl
    exact ⟨_, by simp [Builtin.delete_, hts, run_underlying hu, run_getMap hB, hck, h1, hset], fin _ ES c hE⟩
  · cases hr

/-! #### making a map, its length -/
theorem makeMap_ok (s : Sim w0 π h w) {t : TypeId} : ∃ π' R w', (Instr.makeMap t none).run P w = .ok R w' ∧ VR π' (.map (some h.next)) R ∧ Ext w0 π h π' (h.new (.map [] 0)) w' := by
  have x := s.alloc (o := .map [] 0) (O := .map #[] 0) (sz := 0) (esz := 0) (fun π' _ => ⟨s.below.size, #[], by rw [heap_alloc, if_pos rfl], ⟨rfl, fun i e E a => by simp at a⟩⟩)
  exact ⟨_, .map (some w.heap.size), _, by simp [Instr.makeMap], .map (p := ⟨w.heap.size, 0, 0, 0⟩) (Pi.add_same _ _ _), x⟩

def aLenOp (Γ : Ctx) (t : TypeId) (v : Value) (h : AH) : Option Value :=
  match Γ.ty t with
  | some i => match i.k, v with
    | .string, .string s => some (.int .i64 s.size)
    | .slice _, .slice _ n _ => some (.int .i64 n)
    | .array n _, _ => some (.int .i64 n)
    | .map _ _, .map none => some (.int .i64 0)
    | .map _ _, .map (some b) => (mapAt h b).map fun q => .int .i64 q.1.length
    | _, _ => none
  | none => none
theorem len_ok (hΓ : CtxOk P Γ) (s : Sim w0 π h w) {t ty : TypeId} {ts : Array TypeId} {v V r : Value} (hts : ts[0]? = some t) (hr : aLenOp Γ t v h = some r) (hv : VR π v V) :
    (Builtin.len_ ts ty #[V]).run P w = .ok r w ∧ isLit r = true := by
  unfold aLenOp at hr
  split at hr
  case h_2 => cases hr
  next i hi =>
  have ok := hΓ.ty _ _ hi
  split at hr
  · next s hk => cases hr; obtain rfl := hv.lit_inv rfl; exact ⟨by simp [Builtin.len_, hts, run_underlying (ok.string hk), goInt], rfl⟩
  · next e a n c hk =>
    cases hr
    refine ⟨?_, rfl⟩
    cases a with
    | none => obtain rfl := hv.lit_inv rfl; simp [Builtin.len_, hts, run_underlying (ok.slice hk), goInt]
    | some a => obtain ⟨p, o', c', _, _, rfl, _⟩ := hv.slice_inv; simp [Builtin.len_, hts, run_underlying (ok.slice hk), goInt]
  · next n e v hk => cases hr; exact ⟨by simp [Builtin.len_, hts, run_underlying (ok.array hk), goInt], rfl⟩
  · next a e hk => cases hr; obtain rfl := hv.lit_inv rfl; exact ⟨by simp [Builtin.len_, hts, run_underlying (ok.map hk), goInt], rfl⟩
  · next a e b hk =>
    simp only [Option.map_eq_some_iff] at hr
    obtain ⟨⟨es, c⟩, h1, rfl⟩ := hr
    obtain ⟨p, hp, rfl⟩ := hv.map_inv
    obtain ⟨_, ES, hB, hE⟩ := s.blk _ _ _ hp (mapAt_get h1)
    have e := hE.1
    simp at e
    exact ⟨by simp [Builtin.len_, hts, run_underlying (ok.map hk), run_getMap hB, goInt, e], rfl⟩
  · cases hr

/-! #### clearing a slice -/
def aClear (Γ : Ctx) (t : TypeId) (v : Value) (h : AH) : Option AH :=
  match Γ.ty t with
  | some i => match i.k, v with
    | .slice _, .slice none _ _ => some h
    | .slice e, .slice (some a) n c =>
      if n = 0 then some h else
      match Γ.ty e, cellsAt h a.block with
      | some j, some (cs, esz, false) => if a.off + n * j.size ≤ cs.length then some (h.put a.block (some (.cells (splice cs a.off (zeros j.zero.cells.toList n)) esz false))) else none
      | _, _ => none
    | _, _ => none
  | none => none
theorem zeroCells_eq (z : Array Value) (n : Nat) : (Builtin.zeroCells z n).toList = zeros z.toList n := range_zeros z n
theorem zeros_all {z : List Value} (h : ∀ v ∈ z, oneCell v = true) (n : Nat) : ∀ v ∈ zeros z n, oneCell v = true := by
  induction n with
  | zero => intro v hv; simp [zeros] at hv
  | succ n ih =>
    intro v hv
    simp only [zeros, List.mem_append] at hv
    rcases hv with hv | hv
    · exact h v hv
    · exact ih v hv
theorem clear_ok (hΓ : CtxOk P Γ) (s : Sim w0 π h w) {t ty : TypeId} {ts : Array TypeId} {v V : Value} {h' : AH} (hts : ts[0]? = some t) (hr : aClear Γ t v h = some h') (hv : VR π v V) :
    ∃ w', (Builtin.clear_ ts ty #[V]).run P w = .ok (.tuple #[]) w' ∧ Ext w0 π h π h' w' := by
  unfold aClear at hr
  split at hr
  case h_2 => cases hr
  next i hi =>
  have ok := hΓ.ty _ _ hi
  split at hr
  · next e n c hk => cases hr; obtain rfl := hv.lit_inv rfl; exact ⟨w, by simp [Builtin.clear_, hts, run_underlying (ok.slice hk)], Ext.refl s⟩
  · next e a n c hk =>
    obtain ⟨p, o', c', hsp, hp, rfl, g1, g2, g3, g4, g5⟩ := hv.slice_inv
    split at hr
    · next h0 => cases hr; subst h0; exact ⟨w, by simp [Builtin.clear_, hts, run_underlying (ok.slice hk)], Ext.refl s⟩
    · next h0 =>
      split at hr
      case h_2 => cases hr
      next j cs esz hj hc =>
      have okj := hΓ.ty _ _ hj
      split at hr
      case isFalse => cases hr
      next hle =>
      cases hr
      have ho : o' = p.base + a.off := g1.resolve_left (by omega)
      subst ho
      have hzl : (zeros j.zero.cells.toList n).length = n * j.size := by rw [zeros_length]; simp [okj.zsize]
      obtain ⟨w', h1, h2⟩ := s.store P hp (cellsAt_get hc) (by rw [hzl]; exact hle) (VRL.zeros (zeroVR okj).cells n) (zeros_all okj.zone n)
      refine ⟨w', ?_, h2⟩
      cases n with
      | zero => exact absurd rfl h0
      | succ n => simp [Builtin.clear_, hts, run_underlying (ok.slice hk), okj.run_zero, zeroCells_eq, h1]
  · cases hr

/-! #### going through a map or a string -/
def aRange (Γ : Ctx) (t : TypeId) (v : Value) (h : AH) : Option (Value × AH) :=
  match Γ.ty t with
  | some i => match i.k, v with
    | .string, .string s => some (.pointer (some ⟨h.next, 0, none⟩), h.new (.strIter s 0))
    | .map _ _, .map none => some (.pointer (some ⟨h.next, 0, none⟩), h.new (.mapIter none 0 [] 0))
    | .map _ _, .map (some b) => match mapAt h b with
      | some (_, c) => some (.pointer (some ⟨h.next, 0, none⟩), h.new (.mapIter (some b) c [] c))
      | none => none
    | _, _ => none
  | none => none
theorem range_ok (hΓ : CtxOk P Γ) (s : Sim w0 π h w) {t : TypeId} {v V r : Value} {h' : AH} (hr : aRange Γ t v h = some (r, h')) (hv : VR π v V) :
    ∃ π' R w', (Instr.range t V).run P w = .ok R w' ∧ VR π' r R ∧ Ext w0 π h π' h' w' := by
  unfold aRange at hr
  split at hr
  case h_2 => cases hr
  next i hi =>
  have ok := hΓ.ty _ _ hi
  split at hr
  · next str hk =>
    simp only [Option.some.injEq, Prod.mk.injEq] at hr
    obtain ⟨rfl, rfl⟩ := hr
    obtain rfl := hv.lit_inv rfl
    have x := s.alloc (o := .strIter str 0) (O := .stringIter str 0) (sz := 0) (esz := 0) (fun π' _ => ⟨s.below.size, rfl, by rw [heap_alloc, if_pos rfl]⟩)
    exact ⟨_, _, _, by simp [Instr.range, run_underlying (ok.string hk)], .ptr (p := ⟨w.heap.size, 0, 0, 0⟩) (Pi.add_same _ _ _), x⟩
  · next a e hk =>
    simp only [Option.some.injEq, Prod.mk.injEq] at hr
    obtain ⟨rfl, rfl⟩ := hr
    obtain rfl := hv.lit_inv rfl
    have x := s.alloc (o := .mapIter none 0 [] 0) (O := .mapIter none 0 #[] 0) (sz := 0) (esz := 0) (fun π' _ => ⟨s.below.size, rfl, none, by rw [heap_alloc, if_pos rfl], rfl⟩)
    exact ⟨_, _, _, by simp [Instr.range, run_underlying (ok.map hk)], .ptr (p := ⟨w.heap.size, 0, 0, 0⟩) (Pi.add_same _ _ _), x⟩
  · next a e b hk =>
    split at hr
    · next es c hes =>
      simp only [Option.some.injEq, Prod.mk.injEq] at hr
      obtain ⟨rfl, rfl⟩ := hr
      obtain ⟨p, hp, rfl⟩ := hv.map_inv
      obtain ⟨_, ES, hB, hE⟩ := s.blk _ _ _ hp (mapAt_get hes)
      have x := s.alloc (o := .mapIter (some b) c [] c) (O := .mapIter (some p.B) c #[] c) (sz := 0) (esz := 0) (fun π' hle => ⟨s.below.size, rfl, some p.B, by rw [heap_alloc, if_pos rfl], p, hle _ _ hp, rfl⟩)
      exact ⟨_, _, _, by simp [Instr.range, run_underlying (ok.map hk), run_getMap hB], .ptr (p := ⟨w.heap.size, 0, 0, 0⟩) (Pi.add_same _ _ _), x⟩
    · cases hr
  · cases hr

def aNext (v : Value) (isString : Bool) (h : AH) : Option (Value × AH) :=
  match v with
  | .pointer (some a) =>
    if a.off = 0 then
      match h.get a.block, isString with
      | some (.strIter s pos), true =>
        if pos < s.size then
          let (c, width) := Utf8.decode s pos
          some (.tuple #[.bool true, .int .i64 pos, .int .i32 c], h.put a.block (some (.strIter s (pos + width))))
        else some (.tuple #[.bool false], h)
      | some (.mapIter none _ _ _), false => some (.tuple #[.bool false], h)
      | some (.mapIter (some m) since seen last), false =>
        match mapAt h m with
        | some (es, clock) =>
          if !seen.isEmpty && !es.isEmpty && es.all (fun e => decide (e.born ≥ last)) then none else
          let left := es.filter fun e => !seen.contains e.born
          let old := left.filter fun e => decide (e.born < since)
          let new := left.filter fun e => decide (e.born ≥ since)
          match old, new with
          | [], [] => some (.tuple #[.bool false], h)
          | [e], [] => some (.tuple #[.bool true, e.key, e.val], h.put a.block (some (.mapIter (some m) since (seen ++ [e.born]) clock)))
          | _, _ => none
        | none => none
      | _, _ => none
    else none
  | _ => none

theorem EntsR.filter {es ES : List MapEntry} (h : EntsR π es ES) (f : Nat → Bool) : EntsR π (es.filter fun e => f e.born) (ES.filter fun e => f e.born) := by
  induction es generalizing ES with
  | nil => obtain rfl := h.nil_inv; exact h
  | cons e es ih =>
    obtain ⟨E, ES', rfl, hE, hes'⟩ := h.cons_inv
    simp only [List.filter_cons, hE.2.2]
    split
    · exact EntsR.cons hE (ih hes')
    · exact ih hes'
theorem EntsR.all {es ES : List MapEntry} (h : EntsR π es ES) (f : Nat → Bool) : (ES.all fun e => f e.born) = (es.all fun e => f e.born) := by
  induction es generalizing ES with
  | nil => obtain rfl := h.nil_inv; rfl
  | cons e es ih =>
    obtain ⟨E, ES', rfl, hE, hes'⟩ := h.cons_inv
    simp only [List.all_cons, hE.2.2, ih hes']
theorem EntsR.isEmpty {es ES : List MapEntry} (h : EntsR π es ES) : ES.isEmpty = es.isEmpty := by
  cases es with
  | nil => obtain rfl := h.nil_inv; rfl
  | cons e es => obtain ⟨E, ES', rfl, _⟩ := h.cons_inv; rfl

theorem next_ok (s : Sim w0 π h w) {v V r : Value} {b : Bool} {h' : AH} (ty : TypeId) (hr : aNext v b h = some (r, h')) (hv : VR π v V) :
    ∃ R w', (Instr.next V b ty).run P w = .ok R w' ∧ VR π r R ∧ Ext w0 π h π h' w' := by
  unfold aNext at hr
  split at hr
  case h_2 => cases hr
  next a =>
  obtain ⟨p, hsp, hp, rfl⟩ := hv.ptr_inv
  split at hr
  case isFalse => cases hr
  next hoff =>
  split at hr
  · next str pos hg =>
    obtain ⟨hN, hb0, hB⟩ := s.blk _ _ _ hp hg
    have hlt := (Array.getElem?_eq_some_iff.1 hB).1
    have hgo : ∀ W : World, W.heap[p.B]? = some (.stringIter str pos) → (getObj p.B).run P W = .ok (.stringIter str pos) W := fun W hW => by simp [getObj, Sem.run, hW]
    split at hr
    · next hpos =>
      simp only [Option.some.injEq, Prod.mk.injEq] at hr
      obtain ⟨rfl, rfl⟩ := hr
      refine ⟨_, putRow w p.B (.stringIter str (pos + (Utf8.decode str pos).2)), ?_, VR.const 20 _ rfl, ?_⟩
      · simp [Instr.next, hb0, hoff, hgo w hB, hpos, run_setObj hB (fun _ _ _ h => by cases h), goInt]
      · exact s.upd hp hg rfl (Below.putRow s.below hN _) (fun q hq => by rw [heap_putRow, if_neg (Ne.symm hq)]) ⟨hN, hb0, by rw [heap_putRow, if_pos rfl, if_pos hlt]⟩
    · next hpos =>
      simp only [Option.some.injEq, Prod.mk.injEq] at hr
      obtain ⟨rfl, rfl⟩ := hr
      exact ⟨_, w, by simp [Instr.next, hb0, hoff, hgo w hB, hpos], VR.const 20 _ rfl, Ext.refl s⟩
  · next q1 q2 q3 hg =>
    obtain ⟨hN, hb0, M, hB, hM⟩ := s.blk _ _ _ hp hg
    simp only at hM; subst hM
    simp only [Option.some.injEq, Prod.mk.injEq] at hr
    obtain ⟨rfl, rfl⟩ := hr
    have hgo : (getObj p.B).run P w = .ok (.mapIter none q1 q2.toArray q3) w := by simp [getObj, Sem.run, hB]
    exact ⟨_, w, by simp [Instr.next, hb0, hoff, hgo], VR.const 20 _ rfl, Ext.refl s⟩
  · next m since seen last hg =>
    obtain ⟨hN, hb0, M, hB, hM⟩ := s.blk _ _ _ hp hg
    obtain ⟨q, hq, rfl⟩ := hM
    have hlt := (Array.getElem?_eq_some_iff.1 hB).1
    have hgo : (getObj p.B).run P w = .ok (.mapIter (some q.B) since seen.toArray last) w := by simp [getObj, Sem.run, hB]
    split at hr
    case h_2 => cases hr
    next es clock hes =>
    obtain ⟨_, ES, hB2, hE⟩ := s.blk _ _ _ hq (mapAt_get hes)
    have hgo2 := run_getMap (P := P) hB2
    split at hr
    · cases hr
    next hall =>
    have e1 : ES.isEmpty = es.isEmpty := by rw [← hE.isEmpty]; simp
    have e2 : (ES.all fun e => decide (e.born ≥ last)) = (es.all fun e => decide (e.born ≥ last)) := by
      rw [← hE.all (fun b => decide (b ≥ last))]; simp
    have hall' : (!seen.toArray.isEmpty && !ES.isEmpty && ES.all fun e => decide (e.born ≥ last)) = false := by
      rw [e1, e2]; simpa using hall
    have hF := hE.filter (fun b => !seen.contains b)
    have hO := hF.filter (fun b => decide (b < since))
    have hW := hF.filter (fun b => decide (b ≥ since))
    have c1 : ((ES.filter fun e => !seen.toArray.contains e.born).filter fun e => decide (e.born < since)).toList = (ES.toList.filter fun e => !seen.contains e.born).filter fun e => decide (e.born < since) := by simp
    have c2 : ((ES.filter fun e => !seen.toArray.contains e.born).filter fun e => decide (e.born ≥ since)).toList = (ES.toList.filter fun e => !seen.contains e.born).filter fun e => decide (e.born ≥ since) := by simp
    rw [← c1] at hO
    rw [← c2] at hW
    simp only at hr
    split at hr
    · next ho hn =>
      simp only [Option.some.injEq, Prod.mk.injEq] at hr
      obtain ⟨rfl, rfl⟩ := hr
      rw [ho] at hO
      rw [hn] at hW
      have o0 : ((ES.filter fun e => !seen.toArray.contains e.born).filter fun e => decide (e.born < since)) = #[] := Array.ext' hO.nil_inv
      have n0 : ((ES.filter fun e => !seen.toArray.contains e.born).filter fun e => decide (e.born ≥ since)) = #[] := Array.ext' hW.nil_inv
      refine ⟨_, w, ?_, VR.const 20 _ rfl, Ext.refl s⟩
      simp only [Instr.next, hb0, hoff, Nat.add_zero, Sem.run_bind, hgo, Result.andThen_ok, hgo2, hall', Bool.false_eq_true, if_false, o0, n0]
      simp [Question.forced]
    · next e ho hn =>
      simp only [Option.some.injEq, Prod.mk.injEq] at hr
      obtain ⟨rfl, rfl⟩ := hr
      rw [ho] at hO
      rw [hn] at hW
      obtain ⟨E, ES', hES, hER, hES'⟩ := hO.cons_inv
      obtain rfl := hES'.nil_inv
      have o0 : ((ES.filter fun e => !seen.toArray.contains e.born).filter fun e => decide (e.born < since)) = #[E] := Array.ext' hES
      have n0 : ((ES.filter fun e => !seen.toArray.contains e.born).filter fun e => decide (e.born ≥ since)) = #[] := Array.ext' hW.nil_inv
      have hset : ∀ o', (setObj p.B o').run P w = .ok () (putRow w p.B o') := fun o' => run_setObj hB (fun _ _ _ h => by cases h)
      refine ⟨.tuple #[.bool true, E.key, E.val], putRow w p.B (.mapIter (some q.B) since (seen ++ [e.born]).toArray clock), ?_, ?_, ?_⟩
      · simp only [Instr.next, hb0, hoff, Nat.add_zero, Sem.run_bind, hgo, Result.andThen_ok, hgo2, hall', Bool.false_eq_true, if_false, o0, n0]
        simp [Question.forced, hset, hER.2.2]
      · exact VR.tuple' (VRL.cons (.lit (v := .bool true) rfl) (VRL.cons hER.1 (VRL.cons hER.2.1 (VRL.nil _))))
      · exact s.upd hp hg rfl (Below.putRow s.below hN _) (fun k hk => by rw [heap_putRow, if_neg (Ne.symm hk)]) ⟨hN, hb0, some q.B, by rw [heap_putRow, if_pos rfl, if_pos hlt], q, hq, rfl⟩
    · cases hr
  · cases hr


/-! #### the entry that a walk of a map stands at -/
def aEntry (v : Value) (h : AH) : Option Value :=
  match v with
  | .pointer (some a) =>
    if a.off = 0 then
      match h.get a.block with
      | some (.mapIter (some m) _ seen stepped) =>
        match seen.getLast?, mapAt h m with
        | some stamp, some (es, clock) => if clock = stepped then (match es.find? (fun e => e.born == stamp) with
          | some e => some (.tuple #[e.key, e.val])
          | none => none) else none
        | _, _ => none
      | _ => none
    else none
  | _ => none

theorem EntsR.find {es ES : List MapEntry} (h : EntsR π es ES) (stamp : Nat) {e : MapEntry} (he : es.find? (fun e => e.born == stamp) = some e) : ∃ E, ES.find? (fun e => e.born == stamp) = some E ∧ EntR π e E := by
  induction es generalizing ES with
  | nil => simp at he
  | cons x es ih =>
    obtain ⟨X, ES', rfl, hX, hes'⟩ := h.cons_inv
    rw [List.find?_cons] at he ⊢
    rw [hX.2.2]
    split at he
    · cases he; exact ⟨X, rfl, hX⟩
    · exact ih hes' he

theorem entry_ok (s : Sim w0 π h w) {v V r : Value} (hr : aEntry v h = some r) (hv : VR π v V) : ∃ R, (Instr.entry V).run P w = .ok R w ∧ VR π r R := by
  unfold aEntry at hr
  split at hr
  case h_2 => cases hr
  next a =>
  obtain ⟨p, hsp, hp, rfl⟩ := hv.ptr_inv
  split at hr
  case isFalse => cases hr
  next hoff =>
  split at hr
  case h_2 => cases hr
  next m since seen stepped hg =>
  obtain ⟨hN, hb0, M, hB, hM⟩ := s.blk _ _ _ hp hg
  obtain ⟨q, hq, rfl⟩ := hM
  have hgo : (getObj p.B).run P w = .ok (.mapIter (some q.B) since seen.toArray stepped) w := by simp [getObj, Sem.run, hB]
  split at hr
  case h_2 => cases hr
  next stamp es clock hlast hes =>
  obtain ⟨_, ES, hB2, hE⟩ := s.blk _ _ _ hq (mapAt_get hes)
  have hgo2 : (getObj q.B).run P w = .ok (.map ES clock) w := by simp [getObj, Sem.run, hB2]
  split at hr
  case isFalse => cases hr
  next hcl =>
  subst hcl
  split at hr
  case h_2 => cases hr
  next e he =>
  cases hr
  obtain ⟨E, h1, h2⟩ := hE.find stamp he
  have h1' : ES.find? (fun e => e.born == stamp) = some E := by rw [← Array.find?_toList]; exact h1
  refine ⟨.tuple #[E.key, E.val], ?_, ?_⟩
  · simp [Instr.entry, hb0, hoff, hgo, hlast, hgo2, h1']
  · exact VR.tuple' (VRL.cons h2.1 (VRL.cons h2.2.1 (VRL.nil _)))
end
end
end Go.Abs
