/- A part of the abstract machine: an evaluator of the model's code over an abstract heap, proved sound against the model's walks (Calls, wp). No condition beyond each theorem's own premises. -/
import Derived.Test.YtbimgjagacligaaGreatDoorAbsG
import Derived.RangeFuncRecord
import Derived.RangeFuncCalls
set_option linter.unusedVariables false
set_option linter.unusedSimpArgs false
namespace Go.Abs
open Go Go.RowKit
noncomputable section

abbrev Rounder := Nat → List Value → AH → Option CRes

def RoundOk (P : Program) (w0 : World) (NG : Nat) (rnd : Rounder) : Prop :=
  ∀ b args h r, rnd b args h = some r → ∀ π w (p : Spot) (A : Array Value), Sim w0 π h w → Glob NG π → π b = some p → VRL π args A.toList →
    ∃ R : Loop, w.heap[p.B]? = some (.loop R) ∧ A.size = R.params.size ∧
      RoundIn Fence.wide 0 P p.B R.fn ((R.params.zip A).foldl (fun t (d, v) => t.setIfInBounds d v) R.tmps) R.assign R.body w (fun e w' => CResR w0 π h e w' r)

/-- a place where a walk may stand: an activation, or a round of one -/
def At (F : Fence) : Prop := F = Fence.wide ∨ ∃ l, F = Fence.wide.inRound l
theorem At.fn {F : Fence} (h : At F) (f : FuncId) : F.fn f := by rcases h with rfl | ⟨l, rfl⟩ <;> trivial
theorem At.depth {F : Fence} (h : At F) : F.depth = none := by rcases h with rfl | ⟨l, rfl⟩ <;> rfl
theorem At.calls {F : Fence} (h : At F) {n : Nat} {P : Program} {f : FuncId} {A : Array Value} {w : World} {R : Ending → World → Prop} (c : Calls P f A w R) : CallsIn F n P f A w R := by
  rcases h with rfl | ⟨l, rfl⟩
  · exact callsIn_wide.2 c
  · exact CallsIn.inRound l (callsIn_wide.2 c)
theorem At.round {F : Fence} (h : At F) {n : Nat} {P : Program} {l : Nat} {f : FuncId} {T : Array Value} {x y : Code} {w : World} {R : Ending → World → Prop} (c : RoundIn Fence.wide 0 P l f T x y w R) : RoundIn F n P l f T x y w R := by
  have : RoundIn Fence.wide n P l f T x y w R := ⟨trivial, fun c' cs hr => c.2 c' cs (room_wide _)⟩
  rcases h with rfl | ⟨l, rfl⟩ <;> exact this

def isDefer : Op → Bool
  | .defer _ => true
  | _ => false
theorem isDefer_ne {op : Op} (h : isDefer op = false) : ∀ c, op ≠ .defer c := by rintro c rfl; cases h

section
variable {P : Program} {Γ : Ctx} {Δ : Ctx2} {w0 : World} {NG : Nat} {call : Caller} {rnd : Rounder} {π : Pi} {h : AH} {w : World} {ops : Array Oper} {o : Oper} {t : List Value} {a : Act} {F : Fence} {n : Nat}

theorem At.sem (hF : At F) (hd : F = Fence.wide ∨ isDefer o.op = false) (ρ : Operand → Value) : o.semAt F.round ρ = execOp ρ o := by
  rcases hd with rfl | hd
  · rfl
  · exact Oper.semAt_eq _ _ _ (isDefer_ne hd)

theorem evStepIn_ok (hΓ : CtxOk P Γ) (hΔ : Ctx2Ok P Γ Δ) (hc : CallerOk P w0 NG call) (hF : At F) (hd : F = Fence.wide ∨ isDefer o.op = false) (s : Sim w0 π h w) (gl : Glob NG π) (og : opGl NG o = true) (rd : ReadR π ops o t a) {r : SRes}
    (hr : evStep P Γ Δ call o t h = some r) {K : Act → World → Prop} {Q : Exit → Act → World → Prop} (hk : StepTo P w0 π h o a w K Q r) : o.wpIn F n P a w K Q := by
  refine ⟨fun f _ => hF.fn f, ?_⟩
  rw [hF.sem hd]
  have hdep : F.depth.isSome = true → 1 ≤ n := by rw [hF.depth]; intro e; cases e
  unfold evStep at hr
  rw [evOpS_eq] at hr
  split at hr
  case h_6 => cases hr
  all_goals
    rename_i hev
    have H := evOp_ok (P := P) hΓ hΔ s (ρ := a.eval) (rd.operands gl og) hev
    simp only [OpOk] at H
  · obtain ⟨π', V, w', e, x, y⟩ := H
    cases hr
    rw [e]
    exact hk π' V w' x y
  · obtain ⟨π', w', e, y⟩ := H
    cases hr
    rw [e]
    exact hk π' _ w' undefVR y
  · obtain ⟨π', A, w', e, x, y⟩ := H
    rw [e]
    refine ⟨hdep, ?_⟩
    split at hr
    case h_3 => cases hr
    · next v h'' hcall =>
      cases hr
      refine hF.calls (Calls.mono (hc _ _ _ _ hcall π' w' A y.sim (gl.mono y.le) x) ?_)
      rintro e w'' ⟨π'', V, rfl, p, q⟩
      exact hk π'' V w'' p (y.trans q)
    · next v h'' hcall =>
      cases hr
      refine hF.calls (Calls.mono (hc _ _ _ _ hcall π' w' A y.sim (gl.mono y.le) x) ?_)
      rintro e w'' ⟨π'', V, rfl, p, q⟩
      exact hk π'' V w'' p (y.trans q)
  · obtain ⟨π', V, w', e, x, y⟩ := H
    cases hr
    rw [e]
    exact hk π' V w' x y
  · obtain ⟨π', C, A, w', e, p, x, x', y⟩ := H
    cases hr
    rw [e]
    exact hk π' _ w' (.inl ⟨C, A, rfl, p, x, x'⟩) y

/-- a call of a yield -/
def evYield (rnd : Rounder) (o : Oper) (t : List Value) (h : AH) : Option SRes :=
  match o.op with
  | .call c => match c.callee with
    | .value f => match aeval t f with
      | some (.func (.yield b) _ _) => match aArgs t c.args.toList with
        | some args => match rnd b args h with
          | some (.ret v h') => some (.next v h')
          | some (.panic v h') => some (.panic v h')
          | none => none
        | none => none
      | _ => none
    | _ => none
  | _ => none

theorem evYield_ok (hr : RoundOk P w0 NG rnd) (hF : At F) (s : Sim w0 π h w) (gl : Glob NG π) (og : opGl NG o = true) (rd : ReadR π ops o t a) {r : SRes}
    (he : evYield rnd o t h = some r) {K : Act → World → Prop} {Q : Exit → Act → World → Prop} (hk : StepTo P w0 π h o a w K Q r) : o.wpIn F n P a w K Q := by
  refine ⟨fun f _ => hF.fn f, ?_⟩
  unfold evYield at he
  split at he
  case h_2 => cases he
  next c hop =>
  rw [hF.sem (.inr (by rw [hop]; rfl))]
  have hdep : F.depth.isSome = true → 1 ≤ n := by rw [hF.depth]; intro e; cases e
  split at he
  case h_2 => cases he
  next f hcal =>
  split at he
  case h_2 => cases he
  next b xs ys hf =>
  split at he
  case h_2 => cases he
  next args hargs =>
  have hρ := rd.operands gl og
  rw [hop] at hρ
  have hv := hρ f (by simp [Op.operands, Call.operands, hcal]) _ hf
  obtain ⟨p, hp, rfl, rfl, e⟩ := hv.yld_inv
  have ha : VRL π args (c.args.map a.eval).toList := by
    rw [Array.toList_map]
    exact aArgs_ok _ (fun x hx => hρ x (by simp [Op.operands, Call.operands]; exact .inr (by simpa using hx))) hargs
  have hex : execOp a.eval o = (do let d ← resolve a.eval c o.type; invoke d.target d.args : Sem Next) := by
    unfold execOp; rw [hop]
  have key : ∀ {q : CRes}, rnd b args h = some q → ∃ R : Loop, ((execOp a.eval o).run P w = .ok (.round p.B R.fn ((R.params.zip (c.args.map a.eval)).foldl (fun t (d, v) => t.setIfInBounds d v) R.tmps) R.assign R.body) w) ∧
      RoundIn Fence.wide 0 P p.B R.fn ((R.params.zip (c.args.map a.eval)).foldl (fun t (d, v) => t.setIfInBounds d v) R.tmps) R.assign R.body w (fun e w' => CResR w0 π h e w' q) := by
    intro q hq
    obtain ⟨R, h1, h2, h3⟩ := hr b args h q hq π w p _ s gl hp ha
    refine ⟨R, ?_, h3⟩
    rw [hex]
    unfold resolve
    simp only [hcal, e, Deferred.ofValue, Sem.run_bind, Sem.run_pure, Result.andThen_ok]
    have := run_yield (P := P) h1 h2
    simpa [invoke] using this
  split at he
  case h_3 => cases he
  · next v h' hq =>
    cases he
    obtain ⟨R, e1, e2⟩ := key hq
    rw [e1]
    refine ⟨hdep, hF.round (e2.mono ?_)⟩
    rintro e w'' ⟨π'', V, rfl, p, q⟩
    exact hk π'' V w'' p q
  · next v h' hq =>
    cases he
    obtain ⟨R, e1, e2⟩ := key hq
    rw [e1]
    refine ⟨hdep, hF.round (e2.mono ?_)⟩
    rintro e w'' ⟨π'', V, rfl, p, q⟩
    exact hk π'' V w'' p q

def evStepY (P : Program) (Γ : Ctx) (Δ : Ctx2) (call : Caller) (rnd : Rounder) (o : Oper) (t : List Value) (h : AH) : Option SRes :=
  match evStep P Γ Δ call o t h with
  | some r => some r
  | none => evYield rnd o t h

theorem evStepY_ok (hΓ : CtxOk P Γ) (hΔ : Ctx2Ok P Γ Δ) (hc : CallerOk P w0 NG call) (hr : RoundOk P w0 NG rnd) (hF : At F) (hd : F = Fence.wide ∨ isDefer o.op = false) (s : Sim w0 π h w) (gl : Glob NG π) (og : opGl NG o = true) (rd : ReadR π ops o t a) {r : SRes}
    (he : evStepY P Γ Δ call rnd o t h = some r) {K : Act → World → Prop} {Q : Exit → Act → World → Prop} (hk : StepTo P w0 π h o a w K Q r) : o.wpIn F n P a w K Q := by
  unfold evStepY at he
  split at he
  · next r' h1 =>
    cases he
    exact evStepIn_ok hΓ hΔ hc hF hd s gl og rd h1 hk
  · exact evYield_ok hr hF s gl og rd he hk

/-! #### a region in the written order -/
def evSeqY (P : Program) (Γ : Ctx) (Δ : Ctx2) (call : Caller) (rnd : Rounder) (ops : Array Oper) : List Oper → St → Option (Option Value × St)
  | [], σ => some (none, σ)
  | o :: rest, σ => match aWanted ops σ.t o with
    | some true => match evStepY P Γ Δ call rnd o σ.t σ.h with
      | some (.next v h') => evSeqY P Γ Δ call rnd ops rest ⟨aput σ.t o.dst v, σ.ds, h'⟩
      | some (.panic v h') => some (some v, ⟨σ.t, σ.ds, h'⟩)
      | some (.defer d h') => evSeqY P Γ Δ call rnd ops rest ⟨aput σ.t o.dst undef, d :: σ.ds, h'⟩
      | none => none
    | some false => evSeqY P Γ Δ call rnd ops rest ⟨aput σ.t o.dst undef, σ.ds, σ.h⟩
    | none => none

theorem evSeqY_ok (hΓ : CtxOk P Γ) (hΔ : Ctx2Ok P Γ Δ) (hc : CallerOk P w0 NG call) (hr : RoundOk P w0 NG rnd) (hF : At F) {Q : Exit → Act → World → Prop} : ∀ (l : List Oper) (k : Nat) {π : Pi} {w : World} {a : Act} {σ σ' : St} {out : Option Value},
    (∀ j, l[j]? = ops[k + j]?) → (∀ o ∈ l, opGl NG o = true) → (F = Fence.wide ∨ ∀ o ∈ l, isDefer o.op = false) → Sim w0 π σ.h w → Glob NG π → ActR π σ.t σ.ds a → evSeqY P Γ Δ call rnd ops l σ = some (out, σ') →
    (∀ π' a' w', ActR π' σ'.t σ'.ds a' → Ext w0 π σ.h π' σ'.h w' → outQ π' Q a' w' out) → wpOpsIn F n P ops Q (List.range' k l.length) a w
  | [], k, π, w, a, σ, σ', out, _, _, _, s, gl, ar, he, hQ => by
    simp only [evSeqY, Option.some.injEq, Prod.mk.injEq] at he
    obtain ⟨rfl, rfl⟩ := he
    exact hQ π a w ar (Ext.refl s)
  | o :: l, k, π, w, a, σ, σ', out, hl, hg, hnd, s, gl, ar, he, hQ => by
    have h0 : ops[k]? = some o := by simpa using (hl 0).symm
    have hl' : ∀ j, l[j]? = ops[(k + 1) + j]? := fun j => by
      have := hl (j + 1)
      simpa [Nat.add_assoc, Nat.add_comm 1 j] using this
    have hg' : ∀ o ∈ l, opGl NG o = true := fun o ho => hg o (by simp [ho])
    have hnd' : F = Fence.wide ∨ ∀ o ∈ l, isDefer o.op = false := hnd.imp id fun h o ho => h o (by simp [ho])
    have hnd0 : F = Fence.wide ∨ isDefer o.op = false := hnd.imp id fun h => h o (by simp)
    simp only [List.length_cons, List.range'_succ, wpOpsIn, h0]
    have rd : ReadR π ops o σ.t a := ReadR.of ar.tmps
    simp only [evSeqY] at he
    split at he
    case h_3 => cases he
    · next hw =>
      rw [wanted_ok rd hw]
      simp only [if_true]
      split at he
      case h_4 => cases he
      · next v h' hs =>
        refine evStepY_ok hΓ hΔ hc hr hF hnd0 s gl (hg o (by simp)) rd hs ?_
        intro π' V w' hv hx
        exact evSeqY_ok hΓ hΔ hc hr hF l (k + 1) hl' hg' hnd' hx.sim (gl.mono hx.le) ((ar.mono hx.le).put hv o.dst) he (fun π'' a' w'' x y => hQ π'' a' w'' x (hx.trans y))
      · next v h' hs =>
        simp only [Option.some.injEq, Prod.mk.injEq] at he
        obtain ⟨rfl, rfl⟩ := he
        refine evStepY_ok hΓ hΔ hc hr hF hnd0 s gl (hg o (by simp)) rd hs ?_
        intro π' V w' hv hx
        exact hQ π' a w' (ar.mono hx.le) hx V hv
      · next d h' hs =>
        refine evStepY_ok hΓ hΔ hc hr hF hnd0 s gl (hg o (by simp)) rd hs ?_
        intro π' D w' hv hx
        have ar' : ActR π' σ.t (d :: σ.ds) { a with defers := D :: a.defers } := ⟨ar.tmps.mono' hx.le, hv, ar.defs.mono hx.le⟩
        exact evSeqY_ok hΓ hΔ hc hr hF l (k + 1) hl' hg' hnd' hx.sim (gl.mono hx.le) (ar'.put undefVR o.dst) he (fun π'' a' w'' x y => hQ π'' a' w'' x (hx.trans y))
    · next hw =>
      rw [wanted_ok rd hw]
      simp only [Bool.false_eq_true, if_false]
      exact ⟨fun f _ => hF.fn f, evSeqY_ok hΓ hΔ hc hr hF l (k + 1) (σ := ⟨aput σ.t o.dst undef, σ.ds, σ.h⟩) hl' hg' hnd' s gl (ar.put undefVR o.dst) he hQ⟩
end
end
end Go.Abs
