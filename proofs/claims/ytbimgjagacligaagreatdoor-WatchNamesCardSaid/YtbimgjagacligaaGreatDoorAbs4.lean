/- A part of the abstract machine: an evaluator of the model's code over an abstract heap, proved sound against the model's walks (Calls, wp). No condition beyond each theorem's own premises. -/
import Derived.Test.YtbimgjagacligaaGreatDoorAbs3
set_option linter.unusedVariables false
set_option linter.unusedSimpArgs false
namespace Go.Abs
open Go Go.RowKit
noncomputable section

section
variable {P : Program} {Γ : Ctx} {w0 : World} {π : Pi} {h : AH} {w : World}

theorem run_arr_mapM {α β : Type} (g : α → Sem β) (g' : α → β) (w : World) : ∀ (l : List α), (∀ x ∈ l, (g x).run P w = .ok (g' x) w) → (l.mapM g).run P w = .ok (l.map g') w := by
  intro l
  induction l with
  | nil => intro _; simp
  | cons x l ih =>
    intro hg
    simp only [List.mapM_cons, Sem.run_bind, hg x (by simp), Result.andThen_ok, ih (fun y hy => hg y (by simp [hy])), Sem.run_pure, List.map_cons]
theorem run_array_mapM {α β : Type} (g : α → Sem β) (g' : α → β) (w : World) (a : Array α) (hg : ∀ x ∈ a.toList, (g x).run P w = .ok (g' x) w) : (a.mapM g).run P w = .ok (a.map g') w := by
  rw [Array.mapM_eq_mapM_toList]
  simp only [Sem.run_map, run_arr_mapM g g' w a.toList hg, Result.andThen_ok]
  congr 1
  apply Array.ext'
  simp

/-! #### filling -/
def afill (place : Nat → Option (Nat × Nat)) : List Value → List (Nat × Value) → Option (List Value)
  | cells, [] => some cells
  | cells, (i, v) :: rest =>
    match place i with
    | none => none
    | some (off, size) =>
      let cs := v.cells.toList
      if cs.length = size then
        if off + size ≤ cells.length then afill place (splice cells off cs) rest else none
      else none

theorem foldl_putAll (off : Nat) : ∀ (l : List Value) (k : Nat) (C : Array Value), (l.zipIdx k).foldl (fun cs p => cs.setIfInBounds (off + p.2) p.1) C = putAll C (off + k) l := by
  intro l
  induction l with
  | nil => intro k C; rfl
  | cons v l ih => intro k C; simp [putAll, ih, Nat.add_assoc]

theorem putAll_VRL {cs : List Value} {C : Array Value} {vs VS : List Value} {o : Nat} (hc : VRL π cs C.toList) (hv : VRL π vs VS) (hl : o + vs.length ≤ cs.length) : VRL π (splice cs o vs) (putAll C o VS).toList := by
  have e1 := hc.1
  have e2 := hv.1
  have e3 : cs.length = C.size := by simpa using e1
  refine ⟨by rw [splice_length hl]; simpa using e1, ?_⟩
  intro i x x' a b
  rw [splice_get hl] at a
  rw [Array.getElem?_toList, putAll_get _ _ _ _ (by omega)] at b
  rw [← e2] at b
  split at a
  · rw [if_pos (by assumption)] at b
    exact hv.2 _ x x' a b
  · rw [if_neg (by assumption)] at b
    exact hc.2 i x x' a (by simpa using b)

def PartsR (π : Pi) (ps PS : List (Nat × Value)) : Prop := ps.length = PS.length ∧ ∀ (i : Nat) (p p' : Nat × Value), ps[i]? = some p → PS[i]? = some p' → p.1 = p'.1 ∧ VR π p.2 p'.2

theorem fill_ok (place : Nat → Option (Nat × Nat)) : ∀ (ps PS : List (Nat × Value)) (cs : List Value) (C : Array Value) {cs' : List Value}, afill place cs ps = some cs' → VRL π cs C.toList → PartsR π ps PS →
    ∃ C', Instr.fill place C PS = some C' ∧ VRL π cs' C'.toList := by
  intro ps
  induction ps with
  | nil =>
    intro PS cs C cs' hf hc hp
    have : PS = [] := by have := hp.1; simp at this; exact List.length_eq_zero_iff.1 this.symm
    subst this
    simp [afill] at hf; subst hf
    exact ⟨C, rfl, hc⟩
  | cons p ps ih =>
    intro PS cs C cs' hf hc hp
    cases PS with
    | nil => have := hp.1; simp at this
    | cons p' PS =>
      obtain ⟨e, hv⟩ := hp.2 0 p p' rfl rfl
      have hp' : PartsR π ps PS := ⟨by have := hp.1; simpa using this, fun i a b x y => hp.2 (i + 1) a b (by simpa using x) (by simpa using y)⟩
      obtain ⟨i, v⟩ := p
      obtain ⟨i', v'⟩ := p'
      simp only at e hv; subst e
      simp only [afill] at hf
      cases hpl : place i with
      | none => rw [hpl] at hf; cases hf
      | some q =>
        obtain ⟨off, size⟩ := q
        rw [hpl] at hf
        simp only at hf
        have hcv := hv.cells
        split at hf
        · next hs =>
          split at hf
          · next hs' =>
            have e1 : v'.cells.size = size := by have := hcv.1; simp at this; simp at hs; omega
            have e2 : C.size = cs.length := by have := hc.1; simp at this; omega
            have hl : off + v.cells.toList.length ≤ cs.length := by rw [hs]; exact hs'
            obtain ⟨C', h1, h2⟩ := ih PS _ _ hf (putAll_VRL hc hcv hl) hp'
            refine ⟨C', ?_, h2⟩
            simp only [Instr.fill, hpl]
            rw [if_neg (by simp [e1, e2]; omega)]
            rw [← h1]
            congr 1
            rw [← Array.foldl_toList]
            have := foldl_putAll off v'.cells.toList 0 C
            simpa using this
          · cases hf
        · cases hf

def aparts (tmps : List Value) : List (Nat × Operand) → Option (List (Nat × Value))
  | [] => some []
  | (i, x) :: r => match aeval tmps x, aparts tmps r with
    | some v, some l => some ((i, v) :: l)
    | _, _ => none

theorem aparts_ok {tmps : List Value} {ρ : Operand → Value} : ∀ (l : List (Nat × Operand)) {ps : List (Nat × Value)}, (∀ p ∈ l, ∀ v, aeval tmps p.2 = some v → VR π v (ρ p.2)) → aparts tmps l = some ps → PartsR π ps (l.map fun (i, x) => (i, ρ x)) := by
  intro l
  induction l with
  | nil => intro ps _ h; simp [aparts] at h; subst h; exact ⟨rfl, fun i p p' a => by simp at a⟩
  | cons q l ih =>
    intro ps hρ h
    obtain ⟨i, x⟩ := q
    simp only [aparts] at h
    cases hx : aeval tmps x with
    | none => simp [hx] at h
    | some v =>
      cases hr : aparts tmps l with
      | none => simp [hx, hr] at h
      | some r =>
        simp [hx, hr] at h; subst h
        have := ih (fun p hp => hρ p (by simp [hp])) hr
        refine ⟨by simp [this.1], ?_⟩
        intro k p p' a b
        cases k with
        | zero => simp at a b; subst a; subst b; exact ⟨rfl, hρ (i, x) (by simp) v hx⟩
        | succ k => simp at a b; exact this.2 k p p' (by simpa using a) (by simpa using b)

/-! #### new variables, structs, rows -/
def aVar (Γ : Ctx) (e : TypeId) (v : Value) (h : AH) : Option ARes :=
  match Γ.ty e with
  | some i =>
    match i.k with
    | .array _ e' => match Γ.ty e' with
      | some j => some (.val (.pointer (some ⟨h.next, 0, none⟩)) (h.new (.cells v.cells.toList j.size false)))
      | none => none
    | _ => some (.val (.pointer (some ⟨h.next, 0, none⟩)) (h.new (.cells v.cells.toList i.size false)))
  | none => none

theorem var_ok (s : Sim w0 π h w) {e : TypeId} {v V : Value} {r : ARes} (hr : aVar Γ e v h = some r) (hv : VR π v V) {S : Sem Value} (hS : S.run P w = .ok V w) :
    OpOk w0 π h ((do pure (Next.value (← (do let x ← S; pure (.pointer (some (← newVar e x)))))) : Sem Next).run P w) r := by
  have hc := hv.cells
  have key : ∀ z : Nat, OpOk w0 π h ((do pure (Next.value (← (do let x ← S; pure (.pointer (some (← newVar e x)))))) : Sem Next).run P w)
      (.val (.pointer (some ⟨h.next, 0, none⟩)) (h.new (.cells v.cells.toList z false))) := fun z =>
    ⟨_, _, _, by simp [newVar, newRow, hS]; rfl, by simpa using VR.ptr (Pi.add_same π h.next ⟨w.heap.size, 0, V.cells.size, z⟩) (o := 0), s.allocAll (cs := v.cells.toList) (C := V.cells) (E := e) z hc⟩
  unfold aVar at hr
  split at hr
  · split at hr
    · split at hr
      · cases hr; exact key _
      · cases hr
    · cases hr; exact key _
  · cases hr

def aBuild (Γ : Ctx) (t : TypeId) (ps : List (Nat × Value)) : Option Value :=
  match Γ.ty t with
  | some i =>
    match i.k with
    | .struct fs =>
      match fs.mapM fun (q : Nat × TypeId) => (Γ.ty q.2).map fun (j : Ty) => (q.1, j.size) with
      | some pl => (afill (pl[·]?) i.zero.cells.toList ps).map fun l => .agg l.toArray
      | none => none
    | .array n e =>
      match Γ.ty e with
      | some j => (afill (fun q => some (q * j.size, j.size)) i.zero.cells.toList ps).map fun l => .agg l.toArray
      | none => none
    | _ => none
  | none => none

theorem mapM_opt {α β : Type} {f : α → Option β} : ∀ {l : List α} {r : List β}, l.mapM f = some r → r.length = l.length ∧ ∀ (i : Nat) (x : α), l[i]? = some x → ∃ y, f x = some y ∧ r[i]? = some y := by
  intro l
  induction l with
  | nil => intro r h; simp at h; subst h; exact ⟨rfl, fun i x a => by simp at a⟩
  | cons a l ih =>
    intro r h
    simp only [List.mapM_cons] at h
    cases ha : f a with
    | none => simp [ha] at h
    | some b =>
      cases hl : l.mapM f with
      | none => simp [ha, hl] at h
      | some bs =>
        simp [ha, hl] at h; subst h
        obtain ⟨h1, h2⟩ := ih hl
        refine ⟨by simp [h1], ?_⟩
        intro i x hx
        cases i with
        | zero => simp at hx; subst hx; exact ⟨b, ha, rfl⟩
        | succ i => simpa using h2 i x (by simpa using hx)

theorem zeroVR {t : TypeId} {i : Ty} (h : TyOk P t i) : VR π i.zero i.zero := VR.const 20 _ h.zok

theorem build_run (hΓ : CtxOk P Γ) {t : TypeId} {ps : List (Nat × Value)} {PS : Array (Nat × Value)} {v : Value} (hb : aBuild Γ t ps = some v) (hp : PartsR π ps PS.toList) :
    ∃ V, (Instr.build t PS).run P w = .ok V w ∧ VR π v V := by
  unfold aBuild at hb
  split at hb
  · next i hi =>
    have ok := hΓ.ty t i hi
    have hz : VRL π i.zero.cells.toList i.zero.cells.toList := (zeroVR ok).cells
    split at hb
    · next fs hk =>
      obtain ⟨gs, hu, rfl⟩ := ok.struct hk
      split at hb
      · next pl hpl =>
        obtain ⟨hlen, hat⟩ := mapM_opt hpl
        simp only [Option.map_eq_some_iff] at hb
        obtain ⟨l, hf, rfl⟩ := hb
        obtain ⟨C', h1, h2⟩ := fill_ok _ _ _ _ _ hf hz hp
        let g' : Field → Nat × Nat := fun f => (f.offset, ((P.info? f.type).map (·.size)).getD 0)
        have hrunf : ∀ f ∈ gs.toList, ((do pure (f.offset, ← sizeOf f.type)) : Sem (Nat × Nat)).run P w = .ok (g' f) w ∧ ∃ j, Γ.ty f.type = some j ∧ g' f = (f.offset, j.size) := by
          intro f hf
          obtain ⟨n, hn⟩ := List.getElem?_of_mem hf
          obtain ⟨y, hy, _⟩ := hat n (f.offset, f.type) (by simp [hn])
          simp only [Option.map_eq_some_iff] at hy
          obtain ⟨j, hj, rfl⟩ := hy
          have okj := hΓ.ty _ _ hj
          obtain ⟨inf, hi1, hi2, _⟩ := okj.info
          have e : g' f = (f.offset, j.size) := by simp [g', hi1, hi2]
          exact ⟨by simp only [Sem.run_bind, okj.run_size, Result.andThen_ok, Sem.run_pure, e], j, hj, e⟩
        have hm := run_array_mapM (P := P) (fun f : Field => (do pure (f.offset, ← sizeOf f.type) : Sem (Nat × Nat))) g' w gs (fun f hf => (hrunf f hf).1)
        have hplace : (fun n : Nat => (gs.map g')[n]?) = (fun n : Nat => pl[n]?) := by
          funext n
          rw [Array.getElem?_map]
          cases hn : gs[n]? with
          | none =>
            have : gs.size ≤ n := by
              rcases Nat.lt_or_ge n gs.size with h' | h'
              · rw [Array.getElem?_eq_getElem h'] at hn; cases hn
              · exact h'
            have : pl[n]? = none := by rw [List.getElem?_eq_none_iff, hlen]; simpa using this
            simp [this]
          | some f =>
            have hn' : gs.toList[n]? = some f := by simpa using hn
            obtain ⟨y, hy, hpn⟩ := hat n (f.offset, f.type) (by simp [hn])
            obtain ⟨_, j, hj, e⟩ := hrunf f (List.mem_of_getElem? hn')
            simp only [hj, Option.map_some, Option.some.injEq] at hy
            subst hy
            simp [hpn, e]
        refine ⟨.agg C', ?_, ?_⟩
        · simp only [Instr.build, Sem.run_bind, ok.run_zero, Result.andThen_ok, run_underlying hu, hm, hplace, h1, Sem.run_pure]
        · have := VR.agg' h2
          simpa using this
      · cases hb
    · next n e hk =>
      have hu := ok.array hk
      split at hb
      · next j hj =>
        simp only [Option.map_eq_some_iff] at hb
        obtain ⟨l, hf, rfl⟩ := hb
        obtain ⟨C', h1, h2⟩ := fill_ok _ _ _ _ _ hf hz hp
        refine ⟨.agg C', ?_, by simpa using VR.agg' h2⟩
        simp only [Instr.build, Sem.run_bind, ok.run_zero, Result.andThen_ok, run_underlying hu, (hΓ.ty _ _ hj).run_size, h1, Sem.run_pure]
      · cases hb
    · cases hb
  · cases hb

/-- n cells of an element's zero, again and again -/
def zeros (z : List Value) : Nat → List Value
  | 0 => []
  | n + 1 => z ++ zeros z n
theorem zeros_length (z : List Value) (n : Nat) : (zeros z n).length = n * z.length := by
  induction n with
  | zero => simp [zeros]
  | succ n ih => simp [zeros, ih, Nat.succ_mul]; omega
theorem zeros_get (z : List Value) (hz : 0 < z.length) : ∀ (n k : Nat), k < n * z.length → (zeros z n)[k]? = z[k % z.length]? := by
  intro n
  induction n with
  | zero => intro k hk; simp at hk
  | succ n ih =>
    intro k hk
    simp only [zeros]
    by_cases h : k < z.length
    · rw [List.getElem?_append_left h, Nat.mod_eq_of_lt h]
    · have hk' : k < n * z.length + z.length := by rw [← Nat.succ_mul]; exact hk
      have e : k % z.length = (k - z.length) % z.length := Nat.mod_eq_sub_mod (by omega)
      rw [List.getElem?_append_right (by omega), ih _ (by omega), e]
theorem range_zeros (z : Array Value) (n : Nat) : ((Array.range (n * z.size)).map (fun i => z[i % z.size]!)).toList = zeros z.toList n := by
  apply List.ext_getElem?
  intro k
  by_cases hz : 0 < z.size
  · by_cases hk : k < n * z.size
    · have hm : k % z.size < z.size := Nat.mod_lt _ hz
      rw [zeros_get _ (by simpa using hz) _ _ (by simpa using hk)]
      simp [hk, hm]
    · rw [List.getElem?_eq_none (by simp; omega), List.getElem?_eq_none (by rw [zeros_length]; simp; omega)]
  · have e : z.size = 0 := by omega
    rw [List.getElem?_eq_none (by simp [e]), List.getElem?_eq_none (by rw [zeros_length]; simp [e])]

theorem VRL.zeros {z : List Value} (hz : VRL π z z) (n : Nat) : VRL π (zeros z n) (zeros z n) := by
  induction n with
  | zero => exact VRL.nil _
  | succ n ih => exact hz.append ih

def aBuildSlice (Γ : Ctx) (t : TypeId) (len : Nat) (ps : List (Nat × Value)) (h : AH) : Option ARes :=
  match Γ.ty t with
  | some i =>
    match i.k with
    | .slice e =>
      match Γ.ty e with
      | some j =>
        if len * j.size ≤ 16777216 then
          match afill (fun q => some (q * j.size, j.size)) (zeros j.zero.cells.toList len) ps with
          | some cs => some (.val (.slice (some ⟨h.next, 0, none⟩) len len) (h.new (.cells cs j.size false)))
          | none => none
        else none
      | none => none
    | _ => none
  | none => none

theorem newSliceVR {π : Pi} {b sz esz n c c' : Nat} {B : Nat} (hn : n ≤ c) (hc : c ≤ c') (hs : c' * esz ≤ sz) : VR (π.add b ⟨B, 0, sz, esz⟩) (.slice (some ⟨b, 0, none⟩) n c) (.slice (some ⟨B, 0, none⟩) n c') :=
  VR.slice (Pi.add_same π b ⟨B, 0, sz, esz⟩) (.inr (by simp)) hc (.inr (by simpa using hs)) hn (Nat.zero_le _)

theorem buildSlice_ok (hΓ : CtxOk P Γ) (s : Sim w0 π h w) {t : TypeId} {len : Nat} {ps : List (Nat × Value)} {PS : Array (Nat × Value)} {r : ARes} (hb : aBuildSlice Γ t len ps h = some r) (hp : PartsR π ps PS.toList) :
    OpOk w0 π h ((do pure (Next.value (← Instr.buildSlice t len PS)) : Sem Next).run P w) r := by
  unfold aBuildSlice at hb
  split at hb
  · next i hi =>
    split at hb
    · next e hk =>
      split at hb
      · next j hj =>
        split at hb
        · next hle =>
          split at hb
          · next cs hf =>
            cases hb
            have hu := (hΓ.ty _ _ hi).slice hk
            have okj := hΓ.ty _ _ hj
            have hzl : j.zero.cells.size = j.size := okj.zsize
            have hzz : VRL π (zeros j.zero.cells.toList len) (zeros j.zero.cells.toList len) := VRL.zeros (zeroVR okj).cells len
            have key : ∀ Z : Array Value, Z.toList = zeros j.zero.cells.toList len → ∃ C', Instr.fill (fun q => some (q * j.size, j.size)) Z PS.toList = some C' ∧ VRL π cs C'.toList := fun Z hZ => fill_ok _ _ _ _ _ hf (by rw [hZ]; exact hzz) hp
            have fin : ∀ C' : Array Value, VRL π cs C'.toList → OpOk w0 π h (.ok (.value (.slice (some ⟨w.heap.size, 0, none⟩) len len)) (w.alloc (.cells C' e))) (.val (.slice (some ⟨h.next, 0, none⟩) len len) (h.new (.cells cs j.size false))) := by
              intro C' h2
              have hl : cs.length = C'.size := by simpa using h2.1
              have x := s.allocAll (cs := cs) (C := C') (E := e) j.size h2
              have hcl : cs.length = len * j.size := by
                have : ∀ (ps : List (Nat × Value)) (z cs : List Value), afill (fun q => some (q * j.size, j.size)) z ps = some cs → cs.length = z.length := by
                  intro ps
                  induction ps with
                  | nil => intro z cs h; simp [afill] at h; rw [h]
                  | cons p ps ih =>
                    intro z cs h
                    simp only [afill] at h
                    split at h
                    · split at h
                      · next h1 h2 => rw [ih _ _ h, splice_length (by rw [h1]; exact h2)]
                      · cases h
                    · cases h
                rw [this _ _ _ hf, zeros_length]; simp [hzl]
              exact ⟨_, _, _, rfl, newSliceVR (Nat.le_refl _) (Nat.le_refl _) (by rw [← hl, hcl]; exact Nat.le_refl _), x⟩
            by_cases h0 : len * j.size = 0
            · have hZ : ((Array.range (len * j.size)).map (fun x => (#[] : Array Value)[x % (#[] : Array Value).size]!)).toList = zeros j.zero.cells.toList len := by
                rw [h0]
                have : (zeros j.zero.cells.toList len).length = 0 := by rw [zeros_length]; simp [hzl, h0]
                rw [List.length_eq_zero_iff.1 this]; simp
              obtain ⟨C', h1, h2⟩ := key _ hZ
              have := fin C' h2
              have hgt : ¬ (16777216 < len * j.size) := by omega
              simp only [Instr.buildSlice, Sem.run_bind, run_underlying hu, Result.andThen_ok, okj.run_size, Sem.run_ite, Sem.run_pure]
              rw [if_neg (by omega), if_pos h0]
              simp only [Sem.run_bind, Result.andThen_ok, Sem.run_pure, h1, newRow, run_newObj]
              exact this
            · have hZ : ((Array.range (len * j.size)).map (fun x => j.zero.cells[x % j.zero.cells.size]!)).toList = zeros j.zero.cells.toList len := by
                have := range_zeros j.zero.cells len
                rw [hzl] at this ⊢; exact this
              obtain ⟨C', h1, h2⟩ := key _ hZ
              have := fin C' h2
              simp only [Instr.buildSlice, Sem.run_bind, run_underlying hu, Result.andThen_ok, okj.run_size, Sem.run_ite, Sem.run_pure]
              rw [if_neg (by omega), if_neg h0]
              simp only [Sem.run_bind, okj.run_zero, Result.andThen_ok, Sem.run_pure, h1, newRow, run_newObj]
              exact this
          · cases hb
        · cases hb
      · cases hb
    · cases hb
  · cases hb

end
end
end Go.Abs
