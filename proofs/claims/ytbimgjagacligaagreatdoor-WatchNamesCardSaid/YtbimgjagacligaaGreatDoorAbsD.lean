/- A part of the abstract machine: an evaluator of the model's code over an abstract heap, proved sound against the model's walks (Calls, wp). No condition beyond each theorem's own premises. -/
import Derived.Test.YtbimgjagacligaaGreatDoorAbsC
import Derived.Control
import Derived.Defers
import Derived.Recover
import Derived.Orders
set_option linter.unusedVariables false
set_option linter.unusedSimpArgs false
namespace Go.Abs
open Go Go.RowKit
noncomputable section

structure ADef where
  fn : Fn
  cap : List Value
  args : List Value

inductive CRes where
  | ret (v : Value) (h : AH)
  | panic (v : Value) (h : AH)

abbrev Caller := FuncId → List Value → AH → Option CRes

/-- the globals' blocks stand where they stood -/
def Glob (N : Nat) (π : Pi) : Prop := ∀ g, g < N → ∃ p, π g = some p ∧ p.B = g ∧ p.base = 0
theorem Glob.mono {N : Nat} {π π' : Pi} (g : Glob N π) (h : PLe π π') : Glob N π' := fun k hk => let ⟨p, a, b⟩ := g k hk; ⟨p, h _ _ a, b⟩

def one (V : Value) : List PanicEntry := [{ v := V, recovered := false }]

def CResR (w0 : World) (π : Pi) (h : AH) (e : Ending) (w' : World) : CRes → Prop
  | .ret v h' => ∃ π' V, e = .returned V ∧ VR π' v V ∧ Ext w0 π h π' h' w'
  | .panic v h' => ∃ π' V, e = .panicked (one V) ∧ VR π' v V ∧ Ext w0 π h π' h' w'

def CallerOk (P : Program) (w0 : World) (NG : Nat) (call : Caller) : Prop :=
  ∀ f args h r, call f args h = some r → ∀ π w (A : Array Value), Sim w0 π h w → Glob NG π → VRL π args A.toList → Calls P f A w (fun e w' => CResR w0 π h e w' r)

def DefR (π : Pi) (d : ADef) (D : Deferred) : Prop := (∃ C A, D = { target := .fn d.fn C, args := A } ∧ plainFn d.fn = true ∧ VRL π d.cap C.toList ∧ VRL π d.args A.toList) ∨
  ∃ b p, d.fn = .yield b ∧ π b = some p ∧ D = { target := .collected p.B, args := #[] }
def DefsR (π : Pi) : List ADef → List Deferred → Prop
  | [], [] => True
  | d :: ds, D :: Ds => DefR π d D ∧ DefsR π ds Ds
  | _, _ => False
theorem VRL.mono' {π π' : Pi} (hle : PLe π π') {l L : List Value} (h : VRL π l L) : VRL π' l L := ⟨h.1, fun i a b x y => (h.2 i a b x y).mono hle⟩
theorem DefR.mono {π π' : Pi} (hle : PLe π π') {d : ADef} {D : Deferred} (h : DefR π d D) : DefR π' d D :=
  h.elim (fun ⟨C, A, e, p, a, b⟩ => .inl ⟨C, A, e, p, a.mono' hle, b.mono' hle⟩) (fun ⟨b, p, e, x, y⟩ => .inr ⟨b, p, e, hle _ _ x, y⟩)
theorem DefsR.mono {π π' : Pi} (hle : PLe π π') : ∀ {ds : List ADef} {Ds : List Deferred}, DefsR π ds Ds → DefsR π' ds Ds
  | [], [], _ => trivial
  | _ :: _, _ :: _, h => ⟨h.1.mono hle, DefsR.mono hle h.2⟩
  | [], _ :: _, h => h.elim
  | _ :: _, [], h => h.elim

structure ActR (π : Pi) (t : List Value) (ds : List ADef) (a : Act) : Prop where
  tmps : VRL π t a.tmps.toList
  defs : DefsR π ds a.defers
theorem ActR.mono {π π' : Pi} (hle : PLe π π') {t : List Value} {ds : List ADef} {a : Act} (h : ActR π t ds a) : ActR π' t ds a := ⟨h.tmps.mono' hle, h.defs.mono hle⟩

def aput (t : List Value) (dst : Option Tmp) (v : Value) : List Value :=
  match dst with
  | some d => lset t d v
  | none => t

theorem VRL.set {π : Pi} {l L : List Value} (h : VRL π l L) {v V : Value} (hv : VR π v V) (d : Nat) : VRL π (l.set d v) (L.set d V) := by
  refine ⟨by simp [h.1], fun i a b x y => ?_⟩
  rw [List.getElem?_set] at x y
  by_cases e : d = i
  · subst e
    have hl := h.1
    by_cases hd : d < l.length
    · rw [if_pos rfl, if_pos hd] at x
      rw [if_pos rfl, if_pos (by omega)] at y
      cases x; cases y; exact hv
    · rw [if_pos rfl, if_neg hd] at x
      cases x
  · rw [if_neg e] at x y
    exact h.2 i a b x y
theorem put_tmps (a : Act) (dst : Option Tmp) (V : Value) : (a.put dst V).tmps.toList = aput a.tmps.toList dst V := by
  cases dst with
  | none => rfl
  | some d => simp [Act.put, aput, lset_eq]
@[simp] theorem put_defers (a : Act) (dst : Option Tmp) (V : Value) : (a.put dst V).defers = a.defers := by cases dst <;> rfl
theorem aput_VRL {π : Pi} {l L : List Value} (h : VRL π l L) {v V : Value} (hv : VR π v V) (dst : Option Tmp) : VRL π (aput l dst v) (aput L dst V) := by
  cases dst with
  | none => exact h
  | some d => simp only [aput, lset_eq]; exact h.set hv d
theorem ActR.put {π : Pi} {t : List Value} {ds : List ADef} {a : Act} (h : ActR π t ds a) {v V : Value} (hv : VR π v V) (dst : Option Tmp) : ActR π (aput t dst v) ds (a.put dst V) :=
  ⟨by rw [put_tmps]; exact aput_VRL h.tmps hv dst, by simpa using h.defs⟩
theorem undefVR {π : Pi} : VR π undef undef := VR.const 20 _ rfl

/-! #### an operation, with what it calls -/
inductive SRes where
  | next (v : Value) (h : AH)
  | panic (v : Value) (h : AH)
  | defer (d : ADef) (h : AH)

section
variable (P : Program) (Γ : Ctx) (Δ : Ctx2)

def evStep (call : Caller) (o : Oper) (t : List Value) (h : AH) : Option SRes :=
  match evOpS P Γ Δ o t h with
  | some (.val v h') => some (.next v h')
  | some (.skip h') => some (.next undef h')
  | some (.enter f args h') => match call f args h' with
    | some (.ret v h'') => some (.next v h'')
    | some (.panic v h'') => some (.panic v h'')
    | none => none
  | some (.panic v h') => some (.panic v h')
  | some (.defer fn cap args h') => some (.defer ⟨fn, cap, args⟩ h')
  | none => none
end

def opGl (NG : Nat) (o : Oper) : Bool := o.op.operands.toList.all fun | .global g => Nat.blt g NG | _ => true

/-- the slots that an operation reads -/
def ReadR (π : Pi) (ops : Array Oper) (o : Oper) (t : List Value) (a : Act) : Prop := ∀ s ∈ o.looksAt ops, ∀ v, t[s]? = some v → ∃ V, a.tmps[s]? = some V ∧ VR π v V
theorem ReadR.of {π : Pi} {ops : Array Oper} {o : Oper} {t : List Value} {a : Act} (h : VRL π t a.tmps.toList) : ReadR π ops o t a := fun s _ v e => by
  obtain ⟨V, x, y⟩ := h.get e
  exact ⟨V, by simpa using x, y⟩

section
variable {P : Program} {Γ : Ctx} {Δ : Ctx2} {w0 : World} {NG : Nat} {call : Caller} {π : Pi} {h : AH} {w : World} {ops : Array Oper} {o : Oper} {t : List Value} {a : Act}

theorem ReadR.operands (rd : ReadR π ops o t a) (gl : Glob NG π) (og : opGl NG o = true) : ∀ x ∈ o.op.operands.toList, ∀ v, aeval t x = some v → VR π v (a.eval x) := by
  intro x hx v hv
  cases x with
  | tmp s =>
    simp only [aeval, lget_eq] at hv
    obtain ⟨V, e, r⟩ := rd s (by
      unfold Oper.looksAt
      rw [List.mem_append]
      left
      rw [List.mem_filterMap]
      exact ⟨.tmp s, hx, rfl⟩) v hv
    simp only [Act.eval]
    rw [Array.getD_eq_getD_getElem?, e]
    exact r
  | const c =>
    simp only [aeval, lget_eq] at hv
    split at hv
    · next hc => cases hv; exact VR.const 20 _ hc
    · cases hv
  | global g =>
    simp only [aeval, Option.some.injEq] at hv
    subst hv
    have hg : g < NG := by
      have := List.all_eq_true.1 og _ hx
      simpa using this
    obtain ⟨p, e1, e2, e3⟩ := gl g hg
    have := VR.ptr (π := π) e1 (o := 0)
    rw [e2, e3] at this
    simpa [Act.eval] using this
  | func f =>
    simp only [aeval, Option.some.injEq] at hv
    subst hv
    simp only [Act.eval]
    exact VR.const 20 _ rfl

def aWanted (ops : Array Oper) (t : List Value) (o : Oper) : Option Bool :=
  match o.guard with
  | none => some true
  | some (j, want) => match ops[j]? with
    | some oj => match oj.dst with
      | some d => match t[d]? with
        | some (.bool b) => some (b == want)
        | some (.tuple _) => some false
        | _ => none
      | none => none
    | none => none

theorem wanted_ok {b : Bool} (rd : ReadR π ops o t a) (hw : aWanted ops t o = some b) : Region.wanted o (yielded ops a.tmps) = b := by
  unfold aWanted at hw
  unfold Region.wanted
  split at hw
  · next hg => rw [hg]; cases hw; rfl
  · next j want hg =>
    rw [hg]
    simp only
    split at hw
    case h_2 => cases hw
    next oj hj =>
    split at hw
    case h_2 => cases hw
    next d hd =>
    have look : d ∈ o.looksAt ops := by
      unfold Oper.looksAt
      rw [List.mem_append]
      right
      simp [hg, hj, hd]
    split at hw
    · next x hx =>
      cases hw
      obtain ⟨V, e, r⟩ := rd d look _ hx
      obtain rfl := r.lit_inv rfl
      unfold yielded
      simp [hj, hd, e]
    · next vs hx =>
      cases hw
      obtain ⟨V, e, r⟩ := rd d look _ hx
      obtain ⟨VS, rfl⟩ : ∃ VS, V = .tuple VS := by
        cases r <;> exact ⟨_, rfl⟩
      unfold yielded
      simp [hj, hd, e]
    · cases hw

/-- what an operation's step leaves to show -/
def StepTo (P : Program) (w0 : World) (π : Pi) (h : AH) (o : Oper) (a : Act) (w : World) (K : Act → World → Prop) (Q : Exit → Act → World → Prop) : SRes → Prop
  | .next v h' => ∀ π' V w', VR π' v V → Ext w0 π h π' h' w' → K (a.put o.dst V) w'
  | .panic v h' => ∀ π' V w', VR π' v V → Ext w0 π h π' h' w' → Q (.panic (one V)) a w'
  | .defer d h' => ∀ π' D w', DefR π' d D → Ext w0 π h π' h' w' → K ({ a with defers := D :: a.defers }.put o.dst undef) w'

theorem evStep_ok (hΓ : CtxOk P Γ) (hΔ : Ctx2Ok P Γ Δ) (hc : CallerOk P w0 NG call) (s : Sim w0 π h w) (gl : Glob NG π) (og : opGl NG o = true) (rd : ReadR π ops o t a) {r : SRes}
    (hr : evStep P Γ Δ call o t h = some r) {K : Act → World → Prop} {Q : Exit → Act → World → Prop} (hk : StepTo P w0 π h o a w K Q r) : o.wp P a w K Q := by
  unfold evStep at hr
  rw [evOpS_eq] at hr
  unfold Oper.wp
  split at hr
  case h_6 => cases hr
  all_goals
    rename_i hev
    have H := evOp_ok (P := P) hΓ hΔ s (ρ := a.eval) (rd.operands gl og) hev
    simp only [OpOk] at H
  · obtain ⟨π', V, w', e, x, y⟩ := H
    cases hr
    rw [e]
    exact hk π' V w' x y
  · obtain ⟨π', w', e, y⟩ := H
    cases hr
    rw [e]
    exact hk π' _ w' undefVR y
  · obtain ⟨π', A, w', e, x, y⟩ := H
    rw [e]
    split at hr
    case h_3 => cases hr
    · next v h'' hcall =>
      cases hr
      refine Calls.mono (hc _ _ _ _ hcall π' w' A y.sim (gl.mono y.le) x) ?_
      rintro e w'' ⟨π'', V, rfl, p, q⟩
      exact hk π'' V w'' p (y.trans q)
    · next v h'' hcall =>
      cases hr
      refine Calls.mono (hc _ _ _ _ hcall π' w' A y.sim (gl.mono y.le) x) ?_
      rintro e w'' ⟨π'', V, rfl, p, q⟩
      exact hk π'' V w'' p (y.trans q)
  · obtain ⟨π', V, w', e, x, y⟩ := H
    cases hr
    rw [e]
    exact hk π' V w' x y
  · obtain ⟨π', C, A, w', e, p, x, x', y⟩ := H
    cases hr
    rw [e]
    exact hk π' _ w' (.inl ⟨C, A, rfl, p, x, x'⟩) y

/-! #### a region in the written order -/
structure St where
  t : List Value
  ds : List ADef
  h : AH

def evSeq (P : Program) (Γ : Ctx) (Δ : Ctx2) (call : Caller) (ops : Array Oper) : List Oper → St → Option (Option Value × St)
  | [], σ => some (none, σ)
  | o :: rest, σ => match aWanted ops σ.t o with
    | some true => match evStep P Γ Δ call o σ.t σ.h with
      | some (.next v h') => evSeq P Γ Δ call ops rest ⟨aput σ.t o.dst v, σ.ds, h'⟩
      | some (.panic v h') => some (some v, ⟨σ.t, σ.ds, h'⟩)
      | some (.defer d h') => evSeq P Γ Δ call ops rest ⟨aput σ.t o.dst undef, d :: σ.ds, h'⟩
      | none => none
    | some false => evSeq P Γ Δ call ops rest ⟨aput σ.t o.dst undef, σ.ds, σ.h⟩
    | none => none

def outQ (π : Pi) (Q : Exit → Act → World → Prop) (a : Act) (w : World) : Option Value → Prop
  | none => Q .normal a w
  | some v => ∀ V, VR π v V → Q (.panic (one V)) a w

theorem evSeq_ok (hΓ : CtxOk P Γ) (hΔ : Ctx2Ok P Γ Δ) (hc : CallerOk P w0 NG call) {Q : Exit → Act → World → Prop} : ∀ (l : List Oper) (k : Nat) {π : Pi} {w : World} {a : Act} {σ σ' : St} {out : Option Value},
    (∀ j, l[j]? = ops[k + j]?) → (∀ o ∈ l, opGl NG o = true) → Sim w0 π σ.h w → Glob NG π → ActR π σ.t σ.ds a → evSeq P Γ Δ call ops l σ = some (out, σ') →
    (∀ π' a' w', ActR π' σ'.t σ'.ds a' → Ext w0 π σ.h π' σ'.h w' → outQ π' Q a' w' out) → wpOps P ops Q (List.range' k l.length) a w
  | [], k, π, w, a, σ, σ', out, _, _, s, gl, ar, he, hQ => by
    simp only [evSeq, Option.some.injEq, Prod.mk.injEq] at he
    obtain ⟨rfl, rfl⟩ := he
    exact hQ π a w ar (Ext.refl s)
  | o :: l, k, π, w, a, σ, σ', out, hl, hg, s, gl, ar, he, hQ => by
    have h0 : ops[k]? = some o := by simpa using (hl 0).symm
    have hl' : ∀ j, l[j]? = ops[(k + 1) + j]? := fun j => by
      have := hl (j + 1)
      simpa [Nat.add_assoc, Nat.add_comm 1 j] using this
    have hg' : ∀ o ∈ l, opGl NG o = true := fun o ho => hg o (by simp [ho])
    simp only [List.length_cons, List.range'_succ, wpOps, h0]
    have rd : ReadR π ops o σ.t a := ReadR.of ar.tmps
    simp only [evSeq] at he
    split at he
    case h_3 => cases he
    · next hw =>
      rw [wanted_ok rd hw]
      simp only [if_true]
      left
      split at he
      case h_4 => cases he
      · next v h' hs =>
        refine evStep_ok hΓ hΔ hc s gl (hg o (by simp)) rd hs ?_
        intro π' V w' hv hx
        exact evSeq_ok hΓ hΔ hc l (k + 1) hl' hg' hx.sim (gl.mono hx.le) ((ar.mono hx.le).put hv o.dst) he (fun π'' a' w'' x y => hQ π'' a' w'' x (hx.trans y))
      · next v h' hs =>
        simp only [Option.some.injEq, Prod.mk.injEq] at he
        obtain ⟨rfl, rfl⟩ := he
        refine evStep_ok hΓ hΔ hc s gl (hg o (by simp)) rd hs ?_
        intro π' V w' hv hx
        exact hQ π' a w' (ar.mono hx.le) hx V hv
      · next d h' hs =>
        refine evStep_ok hΓ hΔ hc s gl (hg o (by simp)) rd hs ?_
        intro π' D w' hv hx
        have ar' : ActR π' σ.t (d :: σ.ds) { a with defers := D :: a.defers } := ⟨ar.tmps.mono' hx.le, hv, ar.defs.mono hx.le⟩
        exact evSeq_ok hΓ hΔ hc l (k + 1) hl' hg' hx.sim (gl.mono hx.le) (ar'.put undefVR o.dst) he (fun π'' a' w'' x y => hQ π'' a' w'' x (hx.trans y))
    · next hw =>
      rw [wanted_ok rd hw]
      simp only [Bool.false_eq_true, if_false]
      exact evSeq_ok hΓ hΔ hc l (k + 1) (σ := ⟨aput σ.t o.dst undef, σ.ds, σ.h⟩) hl' hg' s gl (ar.put undefVR o.dst) he hQ
end
end
end Go.Abs
