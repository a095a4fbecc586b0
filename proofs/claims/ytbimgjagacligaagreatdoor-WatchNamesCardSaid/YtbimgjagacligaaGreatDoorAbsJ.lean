/- A part of the abstract machine: an evaluator of the model's code over an abstract heap, proved sound against the model's walks (Calls, wp). No condition beyond each theorem's own premises. -/
import Derived.Test.YtbimgjagacligaaGreatDoorAbsI
set_option linter.unusedVariables false
set_option linter.unusedSimpArgs false
namespace Go.Abs
open Go Go.RowKit
noncomputable section

section
variable {P : Program} {Γ : Ctx} {Δ : Ctx2} {w0 : World} {NG : Nat} {call : Caller} {rnd : Rounder} {π : Pi} {h : AH} {w : World}

def CodesOk (Γ : Ctx) (NG : Nat) (pl : Nat → Nat → Option Plan) : Prop := ∀ f F c, Γ.fn f = some F → F.body = some c → codeOk NG (pl f) c = true

theorem evDeferred_ok (hΓ : CtxOk P Γ) (hΔ : Ctx2Ok P Γ Δ) (hc : CallerOk P w0 NG call) (hr : RoundOk P w0 NG rnd) {pl : Nat → Nat → Option Plan} (hcodes : CodesOk Γ NG pl) {n : Nat} {d : ADef} {D : Deferred} {u u' U : Option Value} {h' : AH}
    (s : Sim w0 π h w) (gl : Glob NG π) (hd : DefR π d D) (hu : optVR π u U) (he : evDeferred P Γ Δ pl call rnd n d u h = some (u', h')) :
    ∃ fv cap f args, D.target = .fn fv cap ∧ (invoke D.target D.args).run P w = .ok (.enter f args) w ∧
      ∀ R : Ending → FrameMode → World → Prop, (∀ π' U' V w' m, optVR π' u' U' → Ext w0 π h π' h' w' → settle m = modeOf U' → R (.returned V) m w') → CallsD P f args (modeOf U) w R := by
  rcases hd with ⟨C, A, rfl, hpl, hC, hA⟩ | ⟨b, p, hb, _⟩
  case inr => simp [evDeferred, hb] at he
  unfold evDeferred at he
  split at he
  case h_2 => cases he
  next f hfn =>
  split at he
  case h_2 => cases he
  next F hF =>
  split at he
  case h_2 => cases he
  next c hb =>
  rw [hfn]
  refine ⟨.func f, C, f, A ++ C, rfl, invoke_fn hΓ hΔ hF hb C A w, fun R hR => ?_⟩
  have hf := hΓ.fn _ _ hF
  have ok := hcodes f F c hF hb
  have hAC : VRL π (d.args ++ d.cap) (A ++ C).toList := by rw [Array.toList_append]; exact hA.append hC
  have ar0 : ActR π (zeroTmps F (d.args ++ d.cap)) [] { tmps := (A ++ C) ++ Array.replicate (F.ntmps - (A ++ C).size) undef, defers := [] } := ⟨zeroTmps_VRL hAC, trivial⟩
  have noDefs : ∀ {π' : Pi} {t : List Value} {a : Act}, ActR π' t [] a → a.defers = [] := by
    intro π' t a har
    have := har.defs
    cases hds : a.defers with
    | nil => rfl
    | cons x xs => rw [hds] at this; exact this.elim
  refine callsD_of_wpS hf hb fun c₀ cs hm => ?_
  split at he
  · next hrec =>
    have key : ∀ {t : List Value} {out : Out}, (out = .normal ∨ out = .ret) → evRec P Γ Δ f (pl f) call rnd n u c ⟨zeroTmps F (d.args ++ d.cap), [], h⟩ = some (out, ⟨t, [], h'⟩) → (∃ v, evRes Γ F t h' = some v) → u' = none →
        c.wpS P (bodyPostS P F c₀ cs R) { tmps := (A ++ C) ++ Array.replicate (F.ntmps - (A ++ C).size) undef, defers := [] } (c₀ :: cs) w := by
      rintro t out hout hev ⟨v, hv⟩ rfl
      refine evRec_ok hΓ hΔ hc hr hm c ok s gl ar0 hu hev fun π' a' w' x y => ?_
      obtain ⟨V, hV, _⟩ := evRes_ok (P := P) hΓ y.sim x.tmps hv
      have post : a'.defers = [] ∧ ∃ m, seenBy c₀ U :: cs = { c₀ with mode := m } :: cs ∧ ∃ v, (results F a'.tmps).run P w' = .ok v w' ∧ R (.returned v) m w' := by
        refine ⟨noDefs x, (seenBy c₀ U).mode, ?_, V, hV, hR π' none V w' _ trivial y ?_⟩
        · cases U <;> rfl
        · cases U with
          | none => simp [seenBy, hm, modeOf, settle]
          | some V => simp [seenBy, modeOf, settle]
      rcases hout with rfl | rfl <;> exact post
    split at he
    · next t h1 hev =>
      split at he
      · next v hv => cases he; exact key (.inl rfl) hev ⟨v, hv⟩ rfl
      · cases he
    · next t h1 hev =>
      split at he
      · next v hv => cases he; exact key (.inr rfl) hev ⟨v, hv⟩ rfl
      · cases he
    · cases he
  · next hrec =>
    have key : ∀ {t : List Value} {out : Out}, (out = .normal ∨ out = .ret) → evCode P Γ Δ f (pl f) call rnd n c ⟨zeroTmps F (d.args ++ d.cap), [], h⟩ = some (out, ⟨t, [], h'⟩) → (∃ v, evRes Γ F t h' = some v) → u' = u →
        c.wpS P (bodyPostS P F c₀ cs R) { tmps := (A ++ C) ++ Array.replicate (F.ntmps - (A ++ C).size) undef, defers := [] } (c₀ :: cs) w := by
      rintro t out hout hev ⟨v, hv⟩ rfl
      refine wpS_of_wp ((wpIn_wide (n := 0)).1 (wpG_wp (evCode_ok hΓ hΔ hc hr (.inl rfl) n c ok (.inl rfl) s gl ar0 hev fun π' a' w' x y => ?_)))
      obtain ⟨V, hV, _⟩ := evRes_ok (P := P) hΓ y.sim x.tmps hv
      have post : a'.defers = [] ∧ ∃ m, c₀ :: cs = { c₀ with mode := m } :: cs ∧ ∃ v, (results F a'.tmps).run P w' = .ok v w' ∧ R (.returned v) m w' := by
        refine ⟨noDefs x, c₀.mode, rfl, V, hV, hR π' U V w' _ (hu.mono y.le) y ?_⟩
        rw [hm]
        cases U <;> rfl
      rcases hout with rfl | rfl <;> exact post
    split at he
    · next t h1 hev =>
      split at he
      · next v hv => cases he; exact key (.inl rfl) hev ⟨v, hv⟩ rfl
      · cases he
    · next t h1 hev =>
      split at he
      · next v hv => cases he; exact key (.inr rfl) hev ⟨v, hv⟩ rfl
      · cases he
    · cases he

theorem evLeave_ok (hΓ : CtxOk P Γ) (hΔ : Ctx2Ok P Γ Δ) (hc : CallerOk P w0 NG call) (hr : RoundOk P w0 NG rnd) {pl : Nat → Nat → Option Plan} (hcodes : CodesOk Γ NG pl) {n : Nat} {F : Func} {t : List Value} {T : Array Value} {r : CRes} {π0 : Pi} {h0 : AH} :
    ∀ (ds : List ADef) (Ds : List Deferred) (u U : Option Value) {π : Pi} {h : AH} {w : World}, Ext w0 π0 h0 π h w → Glob NG π → VRL π t T.toList → DefsR π ds Ds → optVR π u U → evLeave P Γ Δ pl call rnd n F t ds u h = some r →
      Leaves P F T (fun e w' => CResR w0 π0 h0 e w' r) Ds (modeOf U) w
  | [], [], none, none, π, h, w, x, gl, ht, hd, hu, he => by
    simp only [evLeave] at he
    split at he <;> cases he
    next v hv =>
    obtain ⟨V, h1, h2⟩ := evRes_ok (P := P) hΓ x.sim ht hv
    exact ⟨V, h1, π, V, rfl, h2, x⟩
  | [], [], some v, some V, π, h, w, x, gl, ht, hd, hu, he => by
    simp only [evLeave, Option.some.injEq] at he
    subst he
    exact ⟨π, V, rfl, hu, x⟩
  | d :: ds, D :: Ds, u, U, π, h, w, x, gl, ht, hd, hu, he => by
    simp only [evLeave] at he
    split at he
    case h_2 => cases he
    next u' h' hev =>
    obtain ⟨fv, cap, f, args, h1, h2, h3⟩ := evDeferred_ok hΓ hΔ hc hr hcodes x.sim gl hd.1 hu hev
    refine ⟨?_, fv, cap, f, args, h1, h2, h3 _ fun π' U' V w' m hu' y hm => ?_⟩
    · cases U <;> simp [modeOf]
    · simp only [hm]
      exact evLeave_ok hΓ hΔ hc hr hcodes ds Ds u' U' (x.trans y) (gl.mono y.le) (ht.mono' y.le) (hd.2.mono y.le) hu' he
  | [], _ :: _, _, _, π, h, w, x, gl, ht, hd, hu, he => hd.elim
  | _ :: _, [], _, _, π, h, w, x, gl, ht, hd, hu, he => hd.elim
  | [], [], none, some _, π, h, w, x, gl, ht, hd, hu, he => hu.elim
  | [], [], some _, none, π, h, w, x, gl, ht, hd, hu, he => hu.elim

def OvOk (P : Program) (w0 : World) (NG : Nat) (ov : Over) : Prop :=
  ∀ f call, CallerOk P w0 NG call → ∀ args h r, ov f call args h = some r → ∀ π w (A : Array Value), Sim w0 π h w → Glob NG π → VRL π args A.toList → Calls P f A w (fun e w' => CResR w0 π h e w' r)

theorem evLeaveM_ok (hΓ : CtxOk P Γ) {F : Func} {t : List Value} {T : Array Value} {r : CRes} {π0 : Pi} {h0 : AH} {n : Nat} :
    ∀ (ds : List ADef) (Ds : List Deferred) {π : Pi} {h : AH} {w : World}, Ext w0 π0 h0 π h w → VRL π t T.toList → DefsR π ds Ds → evLeaveM Γ F t ds h = some r →
      LeavesInM Fence.wide n P F T (fun e w' => CResR w0 π0 h0 e w' r) Ds .returning w
  | [], [], π, h, w, x, ht, hd, he => by
    simp only [evLeaveM] at he
    split at he <;> cases he
    next v hv =>
    obtain ⟨V, h1, h2⟩ := evRes_ok (P := P) hΓ x.sim ht hv
    exact ⟨V, h1, π, V, rfl, h2, x⟩
  | d :: ds, D :: Ds, π, h, w, x, ht, hd, he => by
    simp only [evLeaveM] at he
    split at he
    case h_2 => cases he
    next b hb =>
    split at he
    case h_2 => cases he
    next hg =>
    rcases hd.1 with ⟨C, A, _, hpl, _⟩ | ⟨b', p, hb', hp, rfl⟩
    · rw [hb] at hpl; cases hpl
    rw [hb] at hb'; cases hb'
    obtain ⟨hN, hB⟩ := x.sim.blk b p _ hp hg
    have hlt := (Array.getElem?_eq_some_iff.1 hB).1
    have y : Ext w0 π h π (h.put b none) (w.putObj p.B (.deferred none)) := x.sim.drop hp hg rfl (Below.putRow x.sim.below hN _) (fun k hk => World.putObj_heap_other hk)
    exact ⟨by simp, .inl ⟨p.B, _, rfl, run_takeDeferred hB, evLeaveM_ok hΓ ds Ds (x.trans y) ht hd.2 he⟩⟩
  | [], _ :: _, π, h, w, x, ht, hd, he => hd.elim
  | _ :: _, [], π, h, w, x, ht, hd, he => hd.elim

/-! #### rounds -/
theorem setPs_ok {π : Pi} : ∀ (ps : List Tmp) (args ARGS : List Value) (t : List Value) (T : Array Value), VRL π args ARGS → VRL π t T.toList → VRL π (setPs t ps args) ((ps.zip ARGS).foldl (fun t (d, v) => t.setIfInBounds d v) T).toList
  | [], args, ARGS, t, T, ha, ht => by simpa [setPs] using ht
  | p :: ps, [], [], t, T, ha, ht => by simpa [setPs] using ht
  | p :: ps, v :: vs, V :: VS, t, T, ha, ht => by
    simp only [setPs, List.zip_cons_cons, List.foldl_cons]
    refine setPs_ok ps vs VS _ _ ⟨by simpa using ha.1, fun i x y a b => ha.2 (i + 1) x y (by simpa using a) (by simpa using b)⟩ ?_
    rw [lset_eq, Array.toList_setIfInBounds]
    exact ht.set (ha.2 0 v V rfl rfl) p
  | p :: ps, [], _ :: _, t, T, ha, ht => by have := ha.1; simp at this
  | p :: ps, _ :: _, [], t, T, ha, ht => by have := ha.1; simp at this

theorem endRnd_ok {π0 : Pi} {h0 : AH} {b : Nat} {p : Spot} {j : Option Code} {r : CRes} (x : Ext w0 π0 h0 π h w) (hp : π b = some p) (he : endRnd b j h = some r) :
    ∃ v w', (Instr.endRound p.B j).run P w = .ok v w' ∧ CResR w0 π0 h0 (.returned v) w' r := by
  unfold endRnd at he
  split at he <;> cases he
  next L hg =>
  obtain ⟨fn, T, D, hB, hT, hturn⟩ := x.sim.turn hp hg
  refine ⟨_, _, run_endRound j hB, π, _, rfl, .lit rfl, x.trans (hturn _ j)⟩

theorem evRound_ok (hΓ : CtxOk P Γ) (hΔ : Ctx2Ok P Γ Δ) (hc : CallerOk P w0 NG call) (hr : RoundOk P w0 NG rnd) {pl : Nat → Nat → Option Plan} {n : Nat} : RoundOk P w0 NG (evRound P Γ Δ NG pl call rnd n) := by
  intro b args h r he π w p A s gl hp ha
  unfold evRound at he
  split at he
  case h_2 => cases he
  next L hL =>
  split at he
  case h_2 => cases he
  next hok =>
  simp only [okRound, Bool.and_eq_true] at hok
  obtain ⟨⟨⟨⟨hk, ok1⟩, ok2⟩, pb1⟩, pb2⟩ := hok
  obtain ⟨fn, T, D, hB, hT, hturn⟩ := s.turn hp hL
  have hsz : A.size = L.params.size := by
    rw [← Nat.eq_of_beq_eq_true hk, ha.1]; simp
  refine ⟨_, hB, hsz, roundIn_of_wpIn trivial ?_⟩
  have hat : At (Fence.wide.inRound p.B) := .inr ⟨_, rfl⟩
  split at he
  case h_2 => cases he
  next t1 ds1 h1 hev1 =>
  have ar0 : ActR π (setPs L.t L.params.toList args) [] { tmps := (L.params.zip A).foldl (fun t (d, v) => t.setIfInBounds d v) T, defers := [] } := by
    refine ⟨?_, trivial⟩
    have := setPs_ok (π := π) L.params.toList args A.toList L.t T ha hT
    rw [← Array.foldl_toList, Array.toList_zip]
    exact this
  refine wpG_wp (evCode_ok hΓ hΔ hc hr hat n L.assign ok1 (.inr pb1) s gl ar0 hev1 fun π1 a1 w1 x1 y1 => ?_)
  split at he
  case h_2 => cases he
  next L1 hL1 =>
  split at he
  case h_2 => cases he
  next hst =>
  have hp1 := y1.le _ _ hp
  obtain ⟨fn1, T1, D1, hB1, hT1, hturn1⟩ := y1.sim.turn hp1 hL1
  have z1 := hturn1 .busy L1.pending
  refine ⟨_, run_beginRound hB1 hst, ?_⟩
  have y2 := y1.trans z1
  have x2 : ActR π1 t1 ds1 a1 := x1
  have fin : ∀ {o : Out} {σ2 : St} {j : Option Code}, evCode P Γ Δ L.me (pl L.me) call rnd n L.body ⟨t1, ds1, h1.put b (some (.loop { L1 with state := .busy }))⟩ = some (o, σ2) → endRnd b j σ2.h = some r →
      (∀ π' a' w', (∃ v w'', (Instr.endRound p.B j).run P w' = .ok v w'' ∧ CResR w0 π h (.returned v) w'' r) → o.toQ π' (roundPost P p.B (fun e w' => CResR w0 π h e w' r)) a' w') →
      L.body.wpIn (Fence.wide.inRound p.B) 0 P (roundPost P p.B (fun e w' => CResR w0 π h e w' r)) a1 (w1.putObj p.B (.loop { { state := L1.state, pending := L1.pending, fn := fn1, tmps := T1, params := L1.params, assign := L1.assign, body := L1.body, defers := D1 : Loop } with state := .busy })) := by
    intro o σ2 j hev2 hend hq
    refine wpG_wp (evCode_ok hΓ hΔ hc hr hat n L.body ok2 (.inr pb2) z1.sim (gl.mono y2.le) x2 hev2 fun π2 a2 w2 x3 y3 => ?_)
    exact hq π2 a2 w2 (endRnd_ok (y2.trans y3) (y3.le _ _ hp1) hend)
  split at he
  · next hev2 => exact fin hev2 he (fun π' a' w' h => h)
  · next hev2 => exact fin hev2 he (fun π' a' w' h => h)
  · next id _ _ _ hev2 => exact fin hev2 he (fun π' a' w' h => h)
  · cases he

theorem evEnv_ok (hΓ : CtxOk P Γ) (hΔ : Ctx2Ok P Γ Δ) {pl : Nat → Nat → Option Plan} (hcodes : CodesOk Γ NG pl) {ov : Over} (hov : OvOk P w0 NG ov) (n : Nat) : ∀ m, CallerOk P w0 NG (evEnv P Γ Δ pl ov NG n m).call ∧ RoundOk P w0 NG (evEnv P Γ Δ pl ov NG n m).rnd
  | 0 => ⟨fun f args h r he => by simp [evEnv] at he, fun f args h r he => by simp [evEnv] at he⟩
  | m + 1 => by
    obtain ⟨hc, hr⟩ := evEnv_ok hΓ hΔ hcodes hov n m
    refine ⟨?_, evRound_ok hΓ hΔ hc hr⟩
    intro f args h r he π w A s gl ha
    simp only [evEnv] at he
    split at he
    · next r' hg => cases he; exact hov f _ hc args h r hg π w A s gl ha
    · split at he
      case h_2 => cases he
      next F hF =>
      split at he
      case h_2 => cases he
      next c hb =>
      have ok := hcodes f F c hF hb
      have ar0 : ActR π (zeroTmps F args) [] { tmps := A ++ Array.replicate (F.ntmps - A.size) undef, defers := [] } := ⟨zeroTmps_VRL ha, trivial⟩
      have plain : ∀ {o : Out} {σ : St}, (o = .normal ∨ o = .ret) → evCode P Γ Δ f (pl f) (evEnv P Γ Δ pl ov NG n m).call (evEnv P Γ Δ pl ov NG n m).rnd n c ⟨zeroTmps F args, [], h⟩ = some (o, σ) →
          (match marked σ.ds with
              | false => evLeave P Γ Δ pl (evEnv P Γ Δ pl ov NG n m).call (evEnv P Γ Δ pl ov NG n m).rnd n F σ.t σ.ds none σ.h
              | true => evLeaveM Γ F σ.t σ.ds σ.h) = some r → Calls P f A w (fun e w' => CResR w0 π h e w' r) := by
        intro o σ ho hev he
        split at he
        · refine calls_of_wp_defers (hΓ.fn _ _ hF) hb ?_
          refine (wpIn_wide (n := 0)).1 (wpG_wp (evCode_ok hΓ hΔ hc hr (.inl rfl) n c ok (.inl rfl) s gl ar0 hev fun π' a' w' x y => ?_))
          have := evLeave_ok hΓ hΔ hc hr hcodes σ.ds a'.defers none none y (gl.mono y.le) x.tmps x.defs trivial he
          rcases ho with rfl | rfl <;> exact this
        · refine (callsIn_wide (n := 0)).1 (callsIn_of_wp_marks (hΓ.fn _ _ hF) hb trivial ?_)
          refine wpG_wp (evCode_ok hΓ hΔ hc hr (.inl rfl) n c ok (.inl rfl) s gl ar0 hev fun π' a' w' x y => ?_)
          have := evLeaveM_ok (P := P) (n := 0) hΓ σ.ds a'.defers y x.tmps x.defs he
          rcases ho with rfl | rfl <;> exact this
      split at he
      · next σ hev => exact plain (.inl rfl) hev he
      · next σ hev => exact plain (.inr rfl) hev he
      · next v σ hev =>
        refine calls_of_wp_defers (hΓ.fn _ _ hF) hb ?_
        refine (wpIn_wide (n := 0)).1 (wpG_wp (evCode_ok hΓ hΔ hc hr (.inl rfl) n c ok (.inl rfl) s gl ar0 hev fun π' a' w' x y => ?_))
        intro V hV
        exact evLeave_ok hΓ hΔ hc hr hcodes σ.ds a'.defers (some v) (some V) y (gl.mono y.le) x.tmps x.defs hV he
      · cases he

def evCall (P : Program) (Γ : Ctx) (Δ : Ctx2) (pl : Nat → Nat → Option Plan) (ov : Over) (NG n m : Nat) : Caller := (evEnv P Γ Δ pl ov NG n m).call
theorem evCall_ok (hΓ : CtxOk P Γ) (hΔ : Ctx2Ok P Γ Δ) {pl : Nat → Nat → Option Plan} (hcodes : CodesOk Γ NG pl) {ov : Over} (hov : OvOk P w0 NG ov) (n m : Nat) : CallerOk P w0 NG (evCall P Γ Δ pl ov NG n m) := (evEnv_ok hΓ hΔ hcodes hov n m).1
end
end
end Go.Abs
