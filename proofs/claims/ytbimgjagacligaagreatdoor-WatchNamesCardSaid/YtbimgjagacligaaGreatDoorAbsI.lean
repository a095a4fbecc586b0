/- A part of the abstract machine: an evaluator of the model's code over an abstract heap, proved sound against the model's walks (Calls, wp). No condition beyond each theorem's own premises. -/
import Derived.Test.YtbimgjagacligaaGreatDoorAbsH
set_option linter.unusedVariables false
set_option linter.unusedSimpArgs false
namespace Go.Abs
open Go Go.RowKit
noncomputable section

section
variable {P : Program} {Γ : Ctx} {Δ : Ctx2} {w0 : World} {NG : Nat} {call : Caller} {rnd : Rounder} {π : Pi} {h : AH} {w : World}

/-! #### results -/
def evResults (Γ : Ctx) (t : List Value) (h : AH) : List ResultVar → Option (List Value)
  | [] => some []
  | .tmp d :: r => match t[d]?, evResults Γ t h r with
    | some v, some l => some (v :: l)
    | _, _ => none
  | .cell d ty :: r => match t[d]? with
    | some v => match aLoad Γ ty v h, evResults Γ t h r with
      | some v, some l => some (v :: l)
      | _, _ => none
    | none => none
def wrap1 : List Value → Value
  | [v] => v
  | vs => .tuple vs.toArray

theorem results_ok (hΓ : CtxOk P Γ) (s : Sim w0 π h w) {t : List Value} {T : Array Value} (ht : VRL π t T.toList) : ∀ (l : List ResultVar) {vs : List Value}, evResults Γ t h l = some vs →
    ∃ VS, (l.mapM (m := Sem) fun
      | .tmp t => pure (T.getD t undef)
      | .cell a t => do loadVar t (← asAddr (T.getD a undef))).run P w = .ok VS w ∧ VRL π vs VS
  | [], vs, he => by simp [evResults] at he; subst he; exact ⟨[], rfl, VRL.nil _⟩
  | .tmp d :: r, vs, he => by
    simp only [evResults] at he
    split at he
    case h_2 => cases he
    next v l h1 h2 =>
    cases he
    obtain ⟨VS, h3, h4⟩ := results_ok hΓ s ht r h2
    obtain ⟨V, h5, h6⟩ := ht.get h1
    have h5' : T.getD d undef = V := by
      rw [Array.getD_eq_getD_getElem?]
      have : T[d]? = some V := by simpa using h5
      rw [this]; rfl
    refine ⟨V :: VS, ?_, VRL.cons h6 h4⟩
    simp only [List.mapM_cons, Sem.run_bind, h5', Sem.run_pure, Result.andThen_ok, h3]
  | .cell d ty :: r, vs, he => by
    simp only [evResults] at he
    split at he
    case h_2 => cases he
    next v h1 =>
    split at he
    case h_2 => cases he
    next v' l h1' h2 =>
    cases he
    obtain ⟨VS, h3, h4⟩ := results_ok hΓ s ht r h2
    obtain ⟨V, h5, h6⟩ := ht.get h1
    have h5' : T.getD d undef = V := by
      rw [Array.getD_eq_getD_getElem?]
      have : T[d]? = some V := by simpa using h5
      rw [this]; rfl
    obtain ⟨R, h7, h8⟩ := load_ok (P := P) hΓ s h1' h6
    have h9 : (do loadVar ty (← asAddr V) : Sem Value).run P w = .ok R w := by
      unfold aLoad at h1'
      split at h1'
      case h_2 => cases h1'
      next a =>
      obtain ⟨p, hsp, hp, rfl⟩ := h6.ptr_inv
      simpa [Instr.loadAt, Instr.sureAddr, asAddr] using h7
    refine ⟨R :: VS, ?_, VRL.cons h8 h4⟩
    simp only [List.mapM_cons, Sem.run_bind, h5', Sem.run_pure, Result.andThen_ok, h3]
    simp only [Sem.run_bind] at h9
    rw [h9]
    simp only [Result.andThen_ok]
    rw [h3]
    rfl

theorem wrap1_ok {vs VS : List Value} (hv : VRL π vs VS) : VR π (wrap1 vs) (if h : VS.toArray.size = 1 then VS.toArray[0] else .tuple VS.toArray) := by
  match vs, VS, hv with
  | [], [], hv => exact VR.const 20 _ rfl
  | [v], [V], hv => exact hv.2 0 _ _ rfl rfl
  | v :: v' :: vs, V :: V' :: VS, hv =>
    have : ¬ (V :: V' :: VS).toArray.size = 1 := by simp
    rw [dif_neg this]
    exact VR.tuple' hv
  | [], _ :: _, hv => have := hv.1; simp at this
  | _ :: _, [], hv => have := hv.1; simp at this
  | [_], _ :: _ :: _, hv => have := hv.1; simp at this
  | _ :: _ :: _, [_], hv => have := hv.1; simp at this

def evRes (Γ : Ctx) (F : Func) (t : List Value) (h : AH) : Option Value :=
  match evResults Γ t h F.results.toList with
  | some vs => some (wrap1 vs)
  | none => none

theorem evRes_ok (hΓ : CtxOk P Γ) (s : Sim w0 π h w) {t : List Value} {T : Array Value} (ht : VRL π t T.toList) {F : Func} {v : Value} (he : evRes Γ F t h = some v) : ∃ V, (results F T).run P w = .ok V w ∧ VR π v V := by
  unfold evRes at he
  split at he <;> cases he
  next vs hvs =>
  obtain ⟨VS, h1, h2⟩ := results_ok hΓ s ht _ hvs
  refine ⟨_, ?_, wrap1_ok h2⟩
  unfold results
  rw [Array.mapM_eq_mapM_toList]
  simp only [Sem.run_bind, Sem.run_map]
  erw [h1]
  rfl

/-! #### deferred calls -/
def zeroTmps (F : Func) (args : List Value) : List Value := args ++ List.replicate (F.ntmps - args.length) undef
theorem zeroTmps_VRL {F : Func} {args : List Value} {A : Array Value} (ha : VRL π args A.toList) : VRL π (zeroTmps F args) (A ++ Array.replicate (F.ntmps - A.size) undef).toList := by
  have e : args.length = A.size := by simpa using ha.1
  unfold zeroTmps
  rw [Array.toList_append, Array.toList_replicate, e]
  refine ha.append ⟨by simp, fun i x y hx hy => ?_⟩
  rw [List.getElem?_replicate] at hx hy
  by_cases hi : i < F.ntmps - A.size
  · rw [if_pos hi] at hx hy
    cases hx; cases hy; exact undefVR
  · rw [if_neg hi] at hx
    cases hx

/-- the code of a deferred function that begins by recover() -/
def evRec (P : Program) (Γ : Ctx) (Δ : Ctx2) (me : Nat) (pl : Nat → Option Plan) (call : Caller) (rnd : Rounder) (n : Nat) (u : Option Value) : Code → St → Option (Out × St)
  | .seq x y, σ => match evRec P Γ Δ me pl call rnd n u x σ with
    | some (.normal, σ') => evCode P Γ Δ me pl call rnd n y σ'
    | some (o, σ') => some (o, σ')
    | none => none
  | .region _ ops false, σ => match ops.toList with
    | o :: rest => match o.op with
      | .call c => match c.callee with
        | .builtin .recover => match o.guard, c.args.toList with
          | none, [] => match evSeq P Γ Δ call ops rest ⟨aput σ.t o.dst (u.getD .nilIface), σ.ds, σ.h⟩ with
            | some (none, σ') => some (.normal, σ')
            | some (some v, σ') => some (.panic v, σ')
            | none => none
          | _, _ => none
        | _ => none
      | _ => none
    | [] => none
  | _, _ => none

def hasRec : Code → Bool
  | .seq x _ => hasRec x
  | .region _ ops false => match ops.toList with
    | o :: _ => match o.op with
      | .call c => match c.callee with
        | .builtin .recover => true
        | _ => false
      | _ => false
    | [] => false
  | _ => false

def evDeferred (P : Program) (Γ : Ctx) (Δ : Ctx2) (pl : Nat → Nat → Option Plan) (call : Caller) (rnd : Rounder) (n : Nat) (d : ADef) (u : Option Value) (h : AH) : Option (Option Value × AH) :=
  match d.fn with
  | .func f => match Γ.fn f with
    | some F => match F.body with
      | some c => match hasRec c with
        | true => match evRec P Γ Δ f (pl f) call rnd n u c ⟨zeroTmps F (d.args ++ d.cap), [], h⟩ with
          | some (.normal, ⟨t, [], h'⟩) | some (.ret, ⟨t, [], h'⟩) => match evRes Γ F t h' with
            | some _ => some (none, h')
            | none => none
          | _ => none
        | false => match evCode P Γ Δ f (pl f) call rnd n c ⟨zeroTmps F (d.args ++ d.cap), [], h⟩ with
          | some (.normal, ⟨t, [], h'⟩) | some (.ret, ⟨t, [], h'⟩) => match evRes Γ F t h' with
            | some _ => some (u, h')
            | none => none
          | _ => none
      | none => none
    | none => none
  | _ => none

def evLeave (P : Program) (Γ : Ctx) (Δ : Ctx2) (pl : Nat → Nat → Option Plan) (call : Caller) (rnd : Rounder) (n : Nat) (F : Func) (t : List Value) : List ADef → Option Value → AH → Option CRes
  | [], none, h => match evRes Γ F t h with
    | some v => some (.ret v h)
    | none => none
  | [], some v, h => some (.panic v h)
  | d :: ds, u, h => match evDeferred P Γ Δ pl call rnd n d u h with
    | some (u', h') => evLeave P Γ Δ pl call rnd n F t ds u' h'
    | none => none

abbrev Over := Nat → Caller → List Value → AH → Option CRes

/-! #### rounds -/
def setPs : List Value → List Tmp → List Value → List Value
  | t, p :: ps, v :: vs => setPs (lset t p v) ps vs
  | t, _, _ => t

def endRnd (b : Nat) (j : Option Code) (h : AH) : Option CRes :=
  match h.get b with
  | some (.loop L) => some (.ret (.bool j.isNone) (h.put b (some (.loop { L with state := if j.isNone then .ready else .done, pending := j }))))
  | _ => none

def okRound (NG : Nat) (pl : Nat → Nat → Option Plan) (L : ALoop) (k : Nat) : Bool :=
  Nat.beq k L.params.size && codeOk NG (pl L.me) L.assign && codeOk NG (pl L.me) L.body && plainBody L.assign && plainBody L.body

def evRound (P : Program) (Γ : Ctx) (Δ : Ctx2) (NG : Nat) (pl : Nat → Nat → Option Plan) (call : Caller) (rnd : Rounder) (n : Nat) : Rounder := fun b args h =>
  match h.get b with
  | some (.loop L) => match okRound NG pl L args.length with
    | true => match evCode P Γ Δ L.me (pl L.me) call rnd n L.assign ⟨setPs L.t L.params.toList args, [], h⟩ with
      | some (.normal, ⟨t1, ds1, h1⟩) => match h1.get b with
        | some (.loop L1) => match L1.state with
          | .ready => match evCode P Γ Δ L.me (pl L.me) call rnd n L.body ⟨t1, ds1, h1.put b (some (.loop { L1 with state := .busy }))⟩ with
            | some (.normal, ⟨_, _, h2⟩) => endRnd b none h2
            | some (.ret, ⟨_, _, h2⟩) => endRnd b (some .ret) h2
            | some (.exit id, ⟨_, _, h2⟩) => endRnd b (some (.exit id)) h2
            | _ => none
          | _ => none
        | _ => none
      | _ => none
    | false => none
  | _ => none

/-! #### leaving past marks -/
def marked : List ADef → Bool
  | d :: _ => match d.fn with
    | .yield _ => true
    | _ => false
  | [] => false

def evLeaveM (Γ : Ctx) (F : Func) (t : List Value) : List ADef → AH → Option CRes
  | [], h => match evRes Γ F t h with
    | some v => some (.ret v h)
    | none => none
  | d :: ds, h => match d.fn with
    | .yield b => match h.get b with
      | some .defd => evLeaveM Γ F t ds (h.put b none)
      | _ => none
    | _ => none

structure Env where
  call : Caller
  rnd : Rounder

def evEnv (P : Program) (Γ : Ctx) (Δ : Ctx2) (pl : Nat → Nat → Option Plan) (ov : Over) (NG n : Nat) : Nat → Env
  | 0 => ⟨fun _ _ _ => none, fun _ _ _ => none⟩
  | m + 1 => ⟨fun f args h => match ov f (evEnv P Γ Δ pl ov NG n m).call args h with
      | some r => some r
      | none => match Γ.fn f with
        | some F => match F.body with
          | some c => match evCode P Γ Δ f (pl f) (evEnv P Γ Δ pl ov NG n m).call (evEnv P Γ Δ pl ov NG n m).rnd n c ⟨zeroTmps F args, [], h⟩ with
            | some (.normal, σ) | some (.ret, σ) => match marked σ.ds with
              | false => evLeave P Γ Δ pl (evEnv P Γ Δ pl ov NG n m).call (evEnv P Γ Δ pl ov NG n m).rnd n F σ.t σ.ds none σ.h
              | true => evLeaveM Γ F σ.t σ.ds σ.h
            | some (.panic v, σ) => evLeave P Γ Δ pl (evEnv P Γ Δ pl ov NG n m).call (evEnv P Γ Δ pl ov NG n m).rnd n F σ.t σ.ds (some v) σ.h
            | _ => none
          | none => none
        | none => none,
      evRound P Γ Δ NG pl (evEnv P Γ Δ pl ov NG n m).call (evEnv P Γ Δ pl ov NG n m).rnd n⟩

def modeOf : Option Value → FrameMode
  | none => .returning
  | some V => .panicking (one V)
def optVR (π : Pi) : Option Value → Option Value → Prop
  | none, none => True
  | some v, some V => VR π v V
  | _, _ => False
theorem optVR.mono {π π' : Pi} (hle : PLe π π') {u U : Option Value} (h : optVR π u U) : optVR π' u U := by
  cases u <;> cases U <;> first | trivial | exact h.elim | exact VR.mono hle h

/-- code in a deferred function, with the callers below -/
theorem wpOpsS_of {Q : Exit → Act → World → Prop} {cs : List Frame} {o : Oper} {a : Act} {K : Act → World → Prop} {K' : Act → List Frame → World → Prop} {Q' : Exit → Act → List Frame → World → Prop} (hK : ∀ a w, K a w → K' a cs w) (hQ : ∀ e a w, Q e a w → Q' e a cs w)
    (h : o.wp P a w K Q) : (match (execOp a.eval o).run P w with
        | .ok .recover w' =>
          match recoverD cs with
          | some (v, cs') => K' (a.put o.dst v) cs' w'
          | none => K' (a.put o.dst .nilIface) cs w'
        | r => o.upon P a (fun a' w' => K' a' cs w') (fun e a' w' => Q' e a' cs w') r) := by
  unfold Oper.wp at h
  generalize (execOp a.eval o).run P w = r at *
  have key : o.upon P a (fun a' w' => K' a' cs w') (fun e a' w' => Q' e a' cs w') r := by
    cases r with
    | ok n w' =>
      cases n <;> simp only [Oper.upon] at h ⊢ <;>
        first
          | exact hK _ _ h
          | exact Calls.mono h (fun e w'' he => by
              cases e with
              | returned v => exact hK _ _ he
              | panicked c => exact hQ _ _ _ he
              | outgrown => obtain ⟨x, y, z⟩ := he; exact ⟨x, y, hQ _ _ _ z⟩)
          | exact Rows.mono h (fun _ _ he => hK _ _ he)
    | halt x w' => cases x <;> simp only [Oper.upon] at h ⊢ <;> exact hQ _ _ _ h
  cases r with
  | ok n w' => cases n <;> first | exact key | (simp only [Oper.upon] at key)
  | halt x w' => exact key

theorem evSeqS_ok (hΓ : CtxOk P Γ) (hΔ : Ctx2Ok P Γ Δ) (hc : CallerOk P w0 NG call) {ops : Array Oper} {cs : List Frame} {Q : Exit → Act → List Frame → World → Prop} : ∀ (l : List Oper) (k : Nat) {π : Pi} {w : World} {a : Act} {σ σ' : St} {out : Option Value},
    (∀ j, l[j]? = ops[k + j]?) → (∀ o ∈ l, opGl NG o = true) → Sim w0 π σ.h w → Glob NG π → ActR π σ.t σ.ds a → evSeq P Γ Δ call ops l σ = some (out, σ') →
    (∀ π' a' w', ActR π' σ'.t σ'.ds a' → Ext w0 π σ.h π' σ'.h w' → outQ π' (fun e a w => Q e a cs w) a' w' out) → wpOpsS P ops Q (List.range' k l.length) a cs w
  | [], k, π, w, a, σ, σ', out, _, _, s, gl, ar, he, hQ => by
    simp only [evSeq, Option.some.injEq, Prod.mk.injEq] at he
    obtain ⟨rfl, rfl⟩ := he
    exact hQ π a w ar (Ext.refl s)
  | o :: l, k, π, w, a, σ, σ', out, hl, hg, s, gl, ar, he, hQ => by
    have h0 : ops[k]? = some o := by simpa using (hl 0).symm
    have hl' : ∀ j, l[j]? = ops[(k + 1) + j]? := fun j => by
      have := hl (j + 1)
      simpa [Nat.add_assoc, Nat.add_comm 1 j] using this
    have hg' : ∀ o ∈ l, opGl NG o = true := fun o ho => hg o (by simp [ho])
    simp only [List.length_cons, List.range'_succ, wpOpsS, h0]
    have rd : ReadR π ops o σ.t a := ReadR.of ar.tmps
    simp only [evSeq] at he
    split at he
    case h_3 => cases he
    · next hw =>
      rw [wanted_ok rd hw]
      simp only [if_true]
      split at he
      case h_4 => cases he
      · next v h' hs =>
        refine wpOpsS_of (K := fun a w => wpOpsS P ops Q (List.range' (k + 1) l.length) a cs w) (Q := fun e a w => Q e a cs w) (fun _ _ h => h) (fun _ _ _ h => h) (evStep_ok hΓ hΔ hc s gl (hg o (by simp)) rd hs ?_)
        intro π' V w' hv hx
        exact evSeqS_ok hΓ hΔ hc l (k + 1) hl' hg' hx.sim (gl.mono hx.le) ((ar.mono hx.le).put hv o.dst) he (fun π'' a' w'' x y => hQ π'' a' w'' x (hx.trans y))
      · next v h' hs =>
        simp only [Option.some.injEq, Prod.mk.injEq] at he
        obtain ⟨rfl, rfl⟩ := he
        refine wpOpsS_of (K := fun a w => wpOpsS P ops Q (List.range' (k + 1) l.length) a cs w) (Q := fun e a w => Q e a cs w) (fun _ _ h => h) (fun _ _ _ h => h) (evStep_ok hΓ hΔ hc s gl (hg o (by simp)) rd hs ?_)
        intro π' V w' hv hx
        exact hQ π' a w' (ar.mono hx.le) hx V hv
      · next d h' hs =>
        refine wpOpsS_of (K := fun a w => wpOpsS P ops Q (List.range' (k + 1) l.length) a cs w) (Q := fun e a w => Q e a cs w) (fun _ _ h => h) (fun _ _ _ h => h) (evStep_ok hΓ hΔ hc s gl (hg o (by simp)) rd hs ?_)
        intro π' D w' hv hx
        have ar' : ActR π' σ.t (d :: σ.ds) { a with defers := D :: a.defers } := ⟨ar.tmps.mono' hx.le, hv, ar.defs.mono hx.le⟩
        exact evSeqS_ok hΓ hΔ hc l (k + 1) hl' hg' hx.sim (gl.mono hx.le) (ar'.put undefVR o.dst) he (fun π'' a' w'' x y => hQ π'' a' w'' x (hx.trans y))
    · next hw =>
      rw [wanted_ok rd hw]
      simp only [Bool.false_eq_true, if_false]
      exact evSeqS_ok hΓ hΔ hc l (k + 1) (σ := ⟨aput σ.t o.dst undef, σ.ds, σ.h⟩) hl' hg' s gl (ar.put undefVR o.dst) he hQ

/-- the frame below, once recover() has looked at it -/
def seenBy (c₀ : Frame) : Option Value → Frame
  | none => c₀
  | some V => { c₀ with mode := .panicking [{ v := V, recovered := true }] }

theorem evRec_ok (hΓ : CtxOk P Γ) (hΔ : Ctx2Ok P Γ Δ) (hc : CallerOk P w0 NG call) (hr : RoundOk P w0 NG rnd) {me : Nat} {pl : Nat → Option Plan} {n : Nat} {u U : Option Value} {c₀ : Frame} {cs : List Frame} (hm : c₀.mode = modeOf U) : ∀ (c : Code) {π : Pi} {w : World} {a : Act} {σ σ' : St} {out : Out} {Q : Exit → Act → List Frame → World → Prop},
    codeOk NG pl c = true → Sim w0 π σ.h w → Glob NG π → ActR π σ.t σ.ds a → optVR π u U → evRec P Γ Δ me pl call rnd n u c σ = some (out, σ') →
    (∀ π' a' w', ActR π' σ'.t σ'.ds a' → Ext w0 π σ.h π' σ'.h w' → out.toQ π' (fun e a w => Q e a (seenBy c₀ U :: cs) w) a' w') → c.wpS P Q a (c₀ :: cs) w
  | .seq x y, π, w, a, σ, σ', out, Q, ok, s, gl, ar, hu, he, hQ => by
    simp only [evRec] at he
    simp only [codeOk, Bool.and_eq_true] at ok
    refine wpS_seq ?_
    split at he
    · next σ1 h1 =>
      refine evRec_ok hΓ hΔ hc hr hm x ok.1 s gl ar hu h1 fun π' a' w' x1 y1 => ?_
      exact wpS_of_wp ((wpIn_wide (n := 0)).1 (wpG_wp (evCode_ok hΓ hΔ hc hr (.inl rfl) n y ok.2 (.inl rfl) y1.sim (gl.mono y1.le) x1 he fun π'' a'' w'' x2 y2 => hQ π'' a'' w'' x2 (y1.trans y2))))
    · next o σ1 hne h1 =>
      cases he
      refine evRec_ok hΓ hΔ hc hr hm x ok.1 s gl ar hu h1 fun π' a' w' x1 y1 => ?_
      have := hQ π' a' w' x1 y1
      cases out with
      | normal => exact (hne rfl).elim
      | exit id => exact this
      | ret => exact this
      | panic v => exact this
    · cases he
  | .region id ops false, π, w, a, σ, σ', out, Q, ok, s, gl, ar, hu, he, hQ => by
    simp only [evRec] at he
    simp only [codeOk, okGl] at ok
    have gl' : ∀ o ∈ ops.toList, opGl NG o = true := List.all_eq_true.1 ok
    split at he
    case h_2 => cases he
    next o rest hops =>
    split at he
    case h_2 => cases he
    next c hop =>
    split at he
    case h_2 => cases he
    next hcal =>
    split at he
    case h_2 => cases he
    next hgu hargs =>
    refine wpS_region ?_
    have hsz : ops.size = rest.length + 1 := by rw [← Array.length_toList, hops]; rfl
    have h0 : ops[0]? = some o := by rw [← Array.getElem?_toList, hops]; rfl
    have hargs' : c.args = #[] := by
      have := congrArg List.toArray hargs
      simpa using this
    have hrun : (execOp a.eval o).run P w = .ok .recover w := by
      have : execOp a.eval o = (do let d ← resolve a.eval c o.type; invoke d.target d.args : Sem Next) := by
        unfold execOp; rw [hop]
      rw [this]
      unfold resolve
      simp only [hcal, hargs']
      rfl
    rw [hsz, List.range_eq_range', List.range'_succ]
    simp only [wpOpsS, h0, Region.wanted, hgu, if_true, hrun]
    have hl : ∀ j, rest[j]? = ops[(0 + 1) + j]? := fun j => by
      rw [← Array.getElem?_toList, hops, Nat.zero_add, Nat.add_comm 1 j]; rfl
    have hg' : ∀ o ∈ rest, opGl NG o = true := fun o ho => gl' o (by rw [hops]; simp [ho])
    have fin : ∀ V, VR π (u.getD .nilIface) V → wpOpsS P ops Q (List.range' (0 + 1) rest.length) (a.put o.dst V) (seenBy c₀ U :: cs) w := by
      intro V hV
      split at he
      · next σ1 h1 =>
        cases he
        exact evSeqS_ok hΓ hΔ hc rest (0 + 1) (σ := ⟨aput σ.t o.dst (u.getD .nilIface), σ.ds, σ.h⟩) hl hg' s gl (ar.put hV o.dst) h1 (fun π' a' w' x y => hQ π' a' w' x y)
      · next v σ1 h1 =>
        cases he
        exact evSeqS_ok hΓ hΔ hc rest (0 + 1) (σ := ⟨aput σ.t o.dst (u.getD .nilIface), σ.ds, σ.h⟩) hl hg' s gl (ar.put hV o.dst) h1 (fun π' a' w' x y => hQ π' a' w' x y)
      · cases he
    cases u with
    | none =>
      cases U with
      | some V => exact hu.elim
      | none =>
        have : recoverD (c₀ :: cs) = none := by simp [recoverD, hm, modeOf]
        rw [this]
        exact fin .nilIface (VR.const 20 _ rfl)
    | some v =>
      cases U with
      | none => exact hu.elim
      | some V =>
        have : recoverD (c₀ :: cs) = some (V, seenBy c₀ (some V) :: cs) := by simp [recoverD, hm, modeOf, one, seenBy]
        rw [this]
        exact fin V hu
  | .region id ops true, π, w, a, σ, σ', out, Q, ok, s, gl, ar, hu, he, hQ => by simp [evRec] at he
  | .skip, π, w, a, σ, σ', out, Q, ok, s, gl, ar, hu, he, hQ => by simp [evRec] at he
  | .cond _ _ _, π, w, a, σ, σ', out, Q, ok, s, gl, ar, hu, he, hQ => by simp [evRec] at he
  | .block _ _, π, w, a, σ, σ', out, Q, ok, s, gl, ar, hu, he, hQ => by simp [evRec] at he
  | .loop _, π, w, a, σ, σ', out, Q, ok, s, gl, ar, hu, he, hQ => by simp [evRec] at he
  | .rangeFunc _ _ _ _, π, w, a, σ, σ', out, Q, ok, s, gl, ar, hu, he, hQ => by simp [evRec] at he
  | .exit _, π, w, a, σ, σ', out, Q, ok, s, gl, ar, hu, he, hQ => by simp [evRec] at he
  | .scope _, π, w, a, σ, σ', out, Q, ok, s, gl, ar, hu, he, hQ => by simp [evRec] at he
  | .label _, π, w, a, σ, σ', out, Q, ok, s, gl, ar, hu, he, hQ => by simp [evRec] at he
  | .goto _, π, w, a, σ, σ', out, Q, ok, s, gl, ar, hu, he, hQ => by simp [evRec] at he
  | .ret, π, w, a, σ, σ', out, Q, ok, s, gl, ar, hu, he, hQ => by simp [evRec] at he
  | .refuse _, π, w, a, σ, σ', out, Q, ok, s, gl, ar, hu, he, hQ => by simp [evRec] at he
end
end
end Go.Abs
