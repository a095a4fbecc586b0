/- A part of the abstract machine: an evaluator of the model's code over an abstract heap, proved sound against the model's walks (Calls, wp). No condition beyond each theorem's own premises. -/
import Derived.Test.YtbimgjagacligaaGreatDoorAbs5
set_option linter.unusedVariables false
set_option linter.unusedSimpArgs false
namespace Go.Abs
open Go Go.RowKit
noncomputable section

theorem Ext.ofKill {w0 : World} {π π' : Pi} {h h' : AH} {w' : World} {b : Nat} {p : Spot} (hp : π b = some p) (x : Ext w0 π (h.put b none) π' h' w') : Ext w0 π h π' h' w' :=
  ⟨x.le, x.sim, x.next, fun k hk e => by
    obtain ⟨a, c⟩ := x.pend k hk e
    refine ⟨a, c.trans ?_⟩
    rw [AH.get_put, if_neg]
    intro e'; subst e'; rw [hp] at e; cases e⟩

section
variable {P : Program} {Γ : Ctx} {w0 : World} {π : Pi} {h : AH} {w : World}

/-- the bytes of a string, as cells -/
def byteCells (s : ByteArray) : List Value := s.data.toList.map fun b => .int .u8 b.toNat
theorem VRL.lits {l : List Value} (hl : ∀ v ∈ l, isLit v = true) : VRL π l l :=
  ⟨rfl, fun i x x' a b => by rw [a] at b; cases b; exact .lit (hl x (List.mem_of_getElem? a))⟩
theorem byteCells_lit (s : ByteArray) : ∀ v ∈ byteCells s, isLit v = true := by
  intro v hv; simp [byteCells] at hv; obtain ⟨b, _, rfl⟩ := hv; rfl

/-- how many elements there are -/
def aLen : Value → Option Nat
  | .slice _ n _ => some n
  | .string s => some s.size
  | _ => none
/-- the cells of the first n elements -/
def aFirst (h : AH) (size n : Nat) : Value → Option (List Value)
  | .slice none _ _ => if n = 0 then some [] else none
  | .slice (some a) len _ => if n = 0 then some [] else if len < n then none else match cellsAt h a.block with
    | some (cs, _, _) => if a.off + n * size ≤ cs.length then some ((cs.drop a.off).take (n * size)) else none
    | none => none
  | .string s => if n ≤ s.size then some ((byteCells s).take n) else none
  | _ => none

theorem aLen_ok {v V : Value} {n : Nat} (hr : aLen v = some n) (hv : VR π v V) (w : World) : (Builtin.lenOf V).run P w = .ok n w := by
  unfold aLen at hr
  split at hr
  · next a n' c =>
    cases hr
    cases a with
    | none => obtain rfl := hv.lit_inv rfl; simp [Builtin.lenOf]
    | some a => obtain ⟨p, o', c', _, _, rfl, _⟩ := hv.slice_inv; simp [Builtin.lenOf]
  · cases hr; obtain rfl := hv.lit_inv rfl; simp [Builtin.lenOf]
  · cases hr

theorem aFirst_ok (s : Sim w0 π h w) {size n : Nat} {v V : Value} {l : List Value} (hr : aFirst h size n v = some l) (hv : VR π v V) :
    ∃ L, (Builtin.firstCells size n V).run P w = .ok L.toArray w ∧ VRL π l L := by
  unfold aFirst at hr
  split at hr
  · obtain rfl := hv.lit_inv rfl
    split at hr
    · cases hr; exact ⟨[], by simp [Builtin.firstCells], VRL.nil _⟩
    · cases hr
  · next a len c =>
    obtain ⟨p, o', c', hsp, hp, rfl, g1, g2, g3, g4, g5⟩ := hv.slice_inv
    split at hr
    · next h0 =>
      cases hr
      subst h0
      exact ⟨[], by simp [Builtin.firstCells, loadCells, loadCellsFrom], VRL.nil _⟩
    · split at hr
      · cases hr
      · next hlt =>
        split at hr
        · next cs esz ro hc =>
          split at hr
          · next hle =>
            cases hr
            have ho : o' = p.base + a.off := g1.resolve_left (by omega)
            subst ho
            obtain ⟨VS, h1, h2, _⟩ := s.load P hp (cellsAt_get hc) hle
            exact ⟨VS, by simpa [Builtin.firstCells] using h1, h2⟩
          · cases hr
        · cases hr
  · next str =>
    split at hr
    · next hle =>
      cases hr
      obtain rfl := hv.lit_inv rfl
      refine ⟨(byteCells str).take n, ?_, (VRL.lits (byteCells_lit str)).take n⟩
      simp only [Builtin.firstCells, Sem.run_pure]
      congr 1
      apply Array.ext'
      simp only [byteCells, ByteArray.data_extract, Array.toList_map, Array.toList_extract, List.extract_eq_take_drop, List.drop_zero, Nat.sub_zero, List.map_take]
    · cases hr
  · cases hr

theorem aFirst_len {size n : Nat} {v : Value} {l : List Value} (hr : aFirst h size n v = some l) : (∃ s, v = .string s) ∨ l.length = n * size := by
  unfold aFirst at hr
  split at hr
  · split at hr
    · next h0 => cases hr; subst h0; right; simp
    · cases hr
  · split at hr
    · next h0 => cases hr; subst h0; right; simp
    · split at hr
      · cases hr
      · split at hr
        · split at hr
          · next hle => cases hr; right; simp; omega
          · cases hr
        · cases hr
  · exact .inl ⟨_, rfl⟩
  · cases hr

def isInt : K → Bool
  | .int _ => true
  | _ => false

def aAppend (Γ : Ctx) (st xt : TypeId) (v x : Value) (h : AH) : Option (Value × AH) :=
  match Γ.ty st, Γ.ty xt with
  | some i, some ix =>
    match i.k with
    | .slice e =>
      match Γ.ty e with
      | some j =>
        if isInt ix.k || j.size = 0 || 1024 < j.bytes then none else
        match aLen x with
        | some n =>
          match aFirst h j.size n x with
          | some news =>
            if news.length ≠ n * j.size then none else
            match v with
            | .slice none 0 0 =>
              if n = 0 then some (.slice none 0 0, h)
              else if 1073741824 < n then none
              else some (.slice (some ⟨h.next, 0, none⟩) n n, h.new (.cells news j.size false))
            | .slice (some a) sLen sCap =>
              match cellsAt h a.block with
              | some (cs, esz, false) =>
                if esz ≠ j.size || sCap < sLen || !news.all oneCell then none else
                if sLen + n ≤ sCap then
                  if n = 0 then some (.slice (some a) sLen sCap, h)
                  else if a.off + sLen * j.size + news.length ≤ cs.length then some (.slice (some a) (sLen + n) sCap, h.put a.block (some (.cells (splice cs (a.off + sLen * j.size) news) esz false)))
                  else none
                else if 1073741824 < sLen + n then none
                else
                  match aFirst h j.size sLen v with
                  | some olds => some (.slice (some ⟨h.next, 0, none⟩) (sLen + n) (sLen + n), (h.put a.block none).new (.cells (olds ++ news) j.size false))
                  | none => none
              | _ => none
            | _ => none
          | none => none
        | none => none
      | none => none
    | _ => none
  | _, _ => none

theorem zerosTest {ix : Ty} {xt : TypeId} (hx : TyOk P xt ix) (hi : isInt ix.k = false) : ∃ d, P.underlying xt = some d ∧ ∀ k, d = .int k → False := by
  obtain ⟨d, h2, h3⟩ := hx.k
  refine ⟨d, h2, fun k e => ?_⟩
  subst e
  rw [← h3] at hi
  cases hi

/-- append, its parts told one by one -/
theorem append_eq {st xt ty e : TypeId} {ix j : Ty} (hst : P.underlying st = some (.slice e)) (hxt : TyOk P xt ix) (hni : isInt ix.k = false) (hj : TyOk P e j)
    {base : Option Addr} {sLen sCap n : Nat} {X : Value} (hn : (Builtin.lenOf X).run P w = .ok n w) :
    (Builtin.append_ #[st, xt] ty #[.slice base sLen sCap, X]).run P w =
      (if sLen + n ≤ sCap then (do
          let new ← Builtin.firstCells j.size n X
          if let some a := base then storeCells (a.add (sLen * j.size)) new.toList
          pure (.slice base (sLen + n) sCap) : Sem Value)
        else (do
          if ((sLen + n : Nat) : Int) > IntKind.i64.max ∧ (False ∨ (← typeInfo e).bytes = 0) then runtimePanic (.error "growslice: len out of range")
          if Builtin.nextslicecap (sLen + n) sCap * (← typeInfo e).bytes > 2 ^ 48 then (do
            if !(← Builtin.mayShare j.size sLen n base X) then mark .noRoom
            unsupported (.resourceLimit "append: a slice or a string whose bytes no memory bears"))
          let newCap ← choose (.appendCap (sLen + n) sCap e)
          askRoom (newCap * (← typeInfo e).bytes)
          let old ← Builtin.firstCells j.size sLen (.slice base sLen sCap)
          let new ← Builtin.firstCells j.size n X
          let rest := Builtin.zeroCells (← zeroValue e).cells (newCap - (sLen + n))
          pure (.slice (some (← newRow e (old ++ new ++ rest))) (sLen + n) newCap) : Sem Value)).run P w := by
  obtain ⟨d, hd1, hd2⟩ := zerosTest hxt hni
  cases d with
  | int k => exact (hd2 k rfl).elim
  | _ =>
    simp only [Builtin.append_, List.getElem?_toArray, List.getElem?_cons_zero, List.getElem?_cons_succ, Sem.run_bind, run_underlying hst, run_underlying hd1, Result.andThen_ok, hj.run_size, Sem.run_pure, hn, Bool.not_false, if_true, Bool.false_eq_true, if_false]
    rfl

theorem append_grows {st xt ty e : TypeId} {ix j : Ty} (hst : P.underlying st = some (.slice e)) (hxt : TyOk P xt ix) (hni : isInt ix.k = false) (hj : TyOk P e j) (hb : j.bytes ≤ 1024)
    {base : Option Addr} {sLen sCap n : Nat} {X : Value} {O N : List Value} (hn : (Builtin.lenOf X).run P w = .ok n w) (hcap : sCap < sLen + n) (hneed : sLen + n ≤ 1073741824)
    (hO : (Builtin.firstCells j.size sLen (.slice base sLen sCap)).run P w.drew = .ok O.toArray w.drew) (hN : (Builtin.firstCells j.size n X).run P w.drew = .ok N.toArray w.drew) :
    ∃ c R, sLen + n ≤ c ∧ R.size = (c - (sLen + n)) * j.zero.cells.size ∧
      (Builtin.append_ #[st, xt] ty #[.slice base sLen sCap, X]).run P w = .ok (.slice (some ⟨w.heap.size, 0, none⟩) (sLen + n) c) (w.drew.alloc (.cells (O.toArray ++ N.toArray ++ R) e)) := by
  obtain ⟨f, hf, hf1, hf2, hf3⟩ := hj.info
  have hm : IntKind.i64.max = 9223372036854775807 := by decide
  have h48 : Builtin.nextslicecap (sLen + n) sCap * f.bytes ≤ 281474976710656 := by
    have h1 := nextslicecap_le hcap
    rw [hf2]
    calc Builtin.nextslicecap (sLen + n) sCap * j.bytes ≤ (2 * (sLen + n)) * 1024 := Nat.mul_le_mul h1 hb
      _ ≤ 281474976710656 := by omega
  refine ⟨grownCap w (sLen + n) sCap e, Builtin.zeroCells j.zero.cells (grownCap w (sLen + n) sCap e - (sLen + n)), ?_, ?_, ?_⟩
  · unfold grownCap Question.cut; exact Nat.le_add_right _ _
  · simp [Builtin.zeroCells]
  · rw [append_eq hst hxt hni hj hn, if_neg (by omega)]
    have hti : ∀ W : World, (typeInfo e).run P W = .ok f W := fun W => by simp [typeInfo, hf]
    have hask : ∀ (k : Nat) (W : World), (askRoom k).run P W = .ok () W := fun k W => run_askRoom P W k
    simp only [Sem.run_bind, hti, Result.andThen_ok]
    rw [if_neg (by rw [hm]; omega)]
    simp only [Sem.run_bind, hti, Result.andThen_ok]
    rw [if_neg (by omega)]
    simp only [Sem.run_bind, run_choose, Question.forced, Bool.false_eq_true, if_false, hask]
    have e1 : ({ w with drawn := w.drawn + 1 } : World) = w.drew := rfl
    simp only [e1, hti, Result.andThen_ok, hask, hO, hN, hj.run_zero, newRow, Sem.run_bind, run_newObj, Sem.run_pure]
    rfl

theorem append_room {st xt ty e : TypeId} {ix j : Ty} (hst : P.underlying st = some (.slice e)) (hxt : TyOk P xt ix) (hni : isInt ix.k = false) (hj : TyOk P e j)
    {base : Option Addr} {sLen sCap n : Nat} {X : Value} {N : List Value} {w' : World} (hn : (Builtin.lenOf X).run P w = .ok n w) (hcap : sLen + n ≤ sCap)
    (hN : (Builtin.firstCells j.size n X).run P w = .ok N.toArray w) (hs : ∀ a, base = some a → (storeCells (a.add (sLen * j.size)) N).run P w = .ok () w') (hs' : base = none → w' = w) :
    (Builtin.append_ #[st, xt] ty #[.slice base sLen sCap, X]).run P w = .ok (.slice base (sLen + n) sCap) w' := by
  rw [append_eq hst hxt hni hj hn, if_pos hcap]
  simp only [Sem.run_bind, hN, Result.andThen_ok]
  cases base with
  | none => simp [hs' rfl]
  | some a => simp [hs a rfl]

theorem append_ok (hΓ : CtxOk P Γ) (s : Sim w0 π h w) {st xt ty : TypeId} {v V x X r : Value} {h' : AH} (hr : aAppend Γ st xt v x h = some (r, h')) (hv : VR π v V) (hx : VR π x X) :
    ∃ π' R w', (Builtin.append_ #[st, xt] ty #[V, X]).run P w = .ok R w' ∧ VR π' r R ∧ Ext w0 π h π' h' w' := by
  unfold aAppend at hr
  split at hr
  case h_2 => cases hr
  next i ix hi hix =>
  split at hr
  case h_2 => cases hr
  next e hk =>
  have hst := (hΓ.ty _ _ hi).slice hk
  have hxt := hΓ.ty _ _ hix
  split at hr
  case h_2 => cases hr
  next j hj =>
  have okj := hΓ.ty _ _ hj
  split at hr
  · cases hr
  next hcond =>
  simp only [Bool.or_eq_true, decide_eq_true_eq, not_or, Bool.not_eq_true] at hcond
  obtain ⟨⟨hni, hsz⟩, hby⟩ := hcond
  split at hr
  case h_2 => cases hr
  next n hn =>
  split at hr
  case h_2 => cases hr
  next news hnews =>
  split at hr
  · cases hr
  next hnl =>
  have hnl' : news.length = n * j.size := by omega
  have hlen := aLen_ok (P := P) hn hx
  split at hr
  · -- onto nil
    obtain rfl := hv.lit_inv rfl
    split at hr
    · next h0 =>
      simp only [Option.some.injEq, Prod.mk.injEq] at hr
      obtain ⟨rfl, rfl⟩ := hr
      subst h0
      obtain ⟨N, hN1, hN2⟩ := aFirst_ok (P := P) s hnews hx
      refine ⟨π, .slice none 0 0, w, ?_, .lit rfl, Ext.refl s⟩
      exact append_room (base := none) hst hxt hni okj (hlen w) (Nat.le_refl _) hN1 (fun a ha => by cases ha) (fun _ => rfl)
    · next h0 =>
      split at hr
      · cases hr
      · next hbig =>
        simp only [Option.some.injEq, Prod.mk.injEq] at hr
        obtain ⟨rfl, rfl⟩ := hr
        obtain ⟨N, hN1, hN2⟩ := aFirst_ok (P := P) s.drew hnews hx
        obtain ⟨c, R, hc, hR, hrun⟩ := append_grows (ty := ty) (base := none) (sLen := 0) (sCap := 0) (O := []) hst hxt hni okj (by omega) (hlen w) (by omega) (by omega) (by simp [Builtin.firstCells]) hN1
        have hNl : N.length = news.length := hN2.1.symm
        have x := s.drew.allocCells (cs := news) (C := (List.toArray [] ++ N.toArray ++ R)) (E := e) j.size (by simpa [← hNl] using hN2) (by simp [hNl])
        refine ⟨_, _, _, by simpa using hrun, ?_, x⟩
        refine newSliceVR (Nat.le_refl _) (by omega) ?_
        simp only [Array.size_append, List.size_toArray, List.length_nil, Nat.zero_add, hNl, hnl', hR, okj.zsize]
        rw [← Nat.add_mul]
        exact Nat.mul_le_mul_right _ (by omega)
  · next a sLen sCap =>
    obtain ⟨p, o', c', hsp, hp, rfl, g1, g2, g3, g4, g5⟩ := hv.slice_inv
    obtain ⟨ab, ao, asp⟩ := a
    simp only at hsp; subst hsp
    simp only at hp g1 hr
    split at hr
    case h_2 => cases hr
    next cs esz hc =>
    have hg := cellsAt_get hc
    split at hr
    · cases hr
    next hcond2 =>
    simp only [Bool.or_eq_true, decide_eq_true_eq, not_or, Bool.not_eq_true, ne_eq, Decidable.not_not, Bool.not_eq_eq_eq_not, Bool.not_true, Bool.not_eq_false] at hcond2
    obtain ⟨⟨hesz, hlc⟩, hone⟩ := hcond2
    subst hesz
    obtain ⟨e1, C, E, fz, hB, hCsz, hfit, hcs, hown⟩ := s.blk _ p _ hp hg
    obtain ⟨hN0, hfz⟩ := hown rfl
    split at hr
    · next hroom =>
      split at hr
      · next h0 =>
        simp only [Option.some.injEq, Prod.mk.injEq] at hr
        obtain ⟨rfl, rfl⟩ := hr
        subst h0
        obtain ⟨N, hN1, hN2⟩ := aFirst_ok (P := P) s hnews hx
        have hNn : N = [] := by
          have := hN2.1
          rw [hnl'] at this
          exact List.length_eq_zero_iff.1 (by omega)
        subst hNn
        refine ⟨π, _, w, append_room (base := some ⟨p.B, o', none⟩) hst hxt hni okj (hlen w) (by omega) hN1 (w' := w) (fun a ha => by simp [storeCells]) (fun h => by cases h), hv, Ext.refl s⟩
      · next h0 =>
        split at hr
        · next hfit2 =>
          simp only [Option.some.injEq, Prod.mk.injEq] at hr
          obtain ⟨rfl, rfl⟩ := hr
          have ho : o' = p.base + ao := g1.resolve_left (by omega)
          subst ho
          obtain ⟨N, hN1, hN2⟩ := aFirst_ok (P := P) s hnews hx
          obtain ⟨w', hw1, hw2⟩ := s.store P hp hg hfit2 hN2 (List.all_eq_true.1 hone)
          refine ⟨π, .slice (some ⟨p.B, p.base + ao, none⟩) (sLen + n) c', w', append_room (base := some ⟨p.B, p.base + ao, none⟩) hst hxt hni okj (hlen w) (by omega) hN1 (fun a' ha => ?_) (fun h => by cases h), ?_, hw2⟩
          · cases ha
            rw [add_none, Nat.add_assoc]; exact hw1
          · exact .slice hp (.inr rfl) g2 g3 hroom g5
        · cases hr
    · next hroom =>
      split at hr
      · cases hr
      next hbig =>
      split at hr
      case h_2 => cases hr
      next olds holds =>
      simp only [Option.some.injEq, Prod.mk.injEq] at hr
      obtain ⟨rfl, rfl⟩ := hr
      have hol : olds.length = sLen * j.size := by
        rcases aFirst_len holds with ⟨_, h⟩ | h
        · cases h
        · exact h
      by_cases hin : sLen + n ≤ c'
      · -- there was room after all
        obtain ⟨O, hO1, hO2⟩ := aFirst_ok (P := P) s holds hv
        obtain ⟨N, hN1, hN2⟩ := aFirst_ok (P := P) s hnews hx
        have hNl : N.length = n * j.size := by rw [← hN2.1, hnl']
        have hsz' : o' + c' * j.size ≤ p.sz := by
          rcases g3 with g3 | g3
          · omega
          · rw [e1] at g3; exact g3
        have hmul : (sLen + n) * j.size ≤ c' * j.size := Nat.mul_le_mul_right _ hin
        rw [Nat.add_mul] at hmul
        have h1' : ∀ v ∈ N, oneCell v = true := by
          intro V hV
          obtain ⟨i, hi⟩ := List.getElem?_of_mem hV
          have : i < news.length := by rw [hN2.1]; exact (List.getElem?_eq_some_iff.1 hi).1
          have h2 := hN2.2 i _ V (List.getElem?_eq_getElem this) hi
          rw [h2.oneCell]
          exact List.all_eq_true.1 hone _ (List.getElem_mem this)
        have hrun := run_storeCells P p.B E fz (o' + sLen * j.size) N 0 C w hB (by omega) (fun q a b => hfz q (by omega) (by omega)) h1'
        have hlt := (Array.getElem?_eq_some_iff.1 hB).1
        have sk := s.kill ab
        have hother : ∀ b q x, π b = some q → (h.put ab none).get b = some x → q.B ≠ p.B := by
          intro b q x hq hx' hBB
          rw [AH.get_put] at hx'
          split at hx'
          · cases hx'
          · next hne =>
            have := (s.sep _ _ _ _ _ _ hq hp hx' hg (Ne.symm hne) hBB).2
            cases this
        have x := sk.add (p := ⟨p.B, o', p.sz, j.size⟩) (o := .cells (olds ++ news) j.size false) (w' := putRow w p.B (.cells (putAll C (o' + sLen * j.size + 0) N) E fz))
          (Below.putRow s.below hN0 _) (fun b q x hq hx' => by rw [heap_putRow, if_neg (Ne.symm (hother b q x hq hx'))]) (fun b q x hq hx' => hother b q x hq hx') (by
            refine ⟨rfl, _, E, fz, by rw [heap_putRow, if_pos rfl, if_pos hlt], by simpa using hCsz, ?_, ?_, fun _ => ⟨hN0, fun q a b => hfz q (by have := a; simp only at this; omega) b⟩⟩
            · simp only [List.length_append, hol, hnl']; omega
            · intro i v hiv
              simp only
              rw [putAll_get _ _ _ _ (by omega)]
              by_cases hi : i < olds.length
              · rw [List.getElem?_append_left hi] at hiv
                rw [if_neg (by omega)]
                have ho : o' = p.base + ao := g1.resolve_left (by
                  intro h0
                  have : sLen = 0 := by omega
                  rw [hol, this] at hi; simp at hi)
                -- an old cell
                unfold aFirst at holds
                simp only at holds
                split at holds
                · cases holds; simp at hi
                · split at holds
                  · cases holds
                  · rw [hc] at holds
                    simp only at holds
                    split at holds
                    · cases holds
                      simp only [List.getElem?_take, List.getElem?_drop] at hiv
                      split at hiv
                      · obtain ⟨V, a1, a2⟩ := hcs _ _ hiv
                        refine ⟨V, ?_, a2.mono (PLe.add _ (s.fresh _ (Nat.le_refl _)))⟩
                        rw [ho, Nat.add_assoc]; exact a1
                      · cases hiv
                    · cases holds
              · rw [List.getElem?_append_right (by omega)] at hiv
                obtain ⟨V, a1, a2⟩ := hN2.get hiv
                have hil : i - olds.length < N.length := (List.getElem?_eq_some_iff.1 a1).1
                refine ⟨V, ?_, a2.mono (PLe.add _ (s.fresh _ (Nat.le_refl _)))⟩
                rw [if_pos (by omega), show o' + i - (o' + sLen * j.size + 0) = i - olds.length from by omega]
                exact a1)
        refine ⟨_, .slice (some ⟨p.B, o', none⟩) (sLen + n) c', _, append_room (base := some ⟨p.B, o', none⟩) hst hxt hni okj (hlen w) hin hN1 (fun a' ha => ?_) (fun h => by cases h), ?_, Ext.ofKill hp x⟩
        · cases ha
          rw [add_none]; exact hrun
        · exact .slice (p := ⟨p.B, o', p.sz, j.size⟩) (Pi.add_same π h.next _) (.inr rfl) hin (.inr hsz') (Nat.le_refl _) (Nat.le_refl _)
      · -- a new array
        obtain ⟨O, hO1, hO2⟩ := aFirst_ok (P := P) s.drew holds hv
        obtain ⟨N, hN1, hN2⟩ := aFirst_ok (P := P) s.drew hnews hx
        obtain ⟨c, R, hcc, hR, hrun⟩ := append_grows (ty := ty) (base := some ⟨p.B, o', none⟩) hst hxt hni okj (by omega) (hlen w) (Nat.not_le.1 hin) (by omega) hO1 hN1
        have hOl : O.length = olds.length := hO2.1.symm
        have hNl : N.length = news.length := hN2.1.symm
        have sk := s.drew.kill ab
        have x := sk.allocCells (cs := olds ++ news) (C := O.toArray ++ N.toArray ++ R) (E := e) j.size (by
            rw [show (O.toArray ++ N.toArray ++ R).toList = (O ++ N) ++ R.toList from by simp, List.take_left' (by simp [hOl, hNl])]
            exact hO2.append hN2) (by simp [hOl, hNl])
        refine ⟨_, _, _, hrun, ?_, Ext.ofKill hp x⟩
        refine newSliceVR (Nat.le_refl _) (by omega) ?_
        simp only [Array.size_append, List.size_toArray, hOl, hNl, hol, hnl', hR, okj.zsize]
        rw [← Nat.add_mul, ← Nat.add_mul]
        exact Nat.mul_le_mul_right _ (by omega)
  · cases hr

end
end
end Go.Abs
