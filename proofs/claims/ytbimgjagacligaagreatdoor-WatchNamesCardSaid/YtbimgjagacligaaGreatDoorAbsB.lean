/- A part of the abstract machine: an evaluator of the model's code over an abstract heap, proved sound against the model's walks (Calls, wp). No condition beyond each theorem's own premises. -/
import Derived.Test.YtbimgjagacligaaGreatDoorAbsA
import GoSem.Dispatch
set_option linter.unusedVariables false
set_option linter.unusedSimpArgs false
namespace Go.Abs
open Go Go.RowKit
noncomputable section

/-- how a method's receiver is handed on -/
inductive Recv where
  | same | deref (elem : TypeId)

/-- functions of the model's own, without a Go body -/
inductive Ext' where
  | indexByteString | countString | cmpString

/-- what is known of methods and of functions without a body -/
structure Ctx2 where
  meth : TypeId → String → Option (FuncId × Recv)
  ext : FuncId → Option Ext'

def extSem : Ext' → Array Value → Sem Value
  | .indexByteString => Extern.BytealgIndexByte.indexByte
  | .countString => Extern.BytealgCount.count
  | .cmpString => Extern.BytealgCompare.compare

structure Ctx2Ok (P : Program) (Γ : Ctx) (Δ : Ctx2) : Prop where
  fnName : ∀ f F, Γ.fn f = some F → (F.name == "runtime.NumGoroutine") = false
  meth : ∀ t name f r, Δ.meth t name = some (f, r) → ∃ info m pr, P.info? t = some info ∧ info.methods.find? (·.name == name) = some m ∧ m.path = #[] ∧ m.func = some (f, pr) ∧
    (match r with
     | .same => (∃ e, pr = true ∧ P.underlying t = some (.pointer e)) ∨ (pr = false ∧ ∃ d, P.underlying t = some d ∧ ∀ e, d ≠ .pointer e)
     | .deref e => pr = false ∧ P.underlying t = some (.pointer e))
  ext : ∀ f k, Δ.ext f = some k → ∃ F, P.funcs[f]? = some F ∧ (F.name == "runtime.NumGoroutine") = false ∧ F.body = none ∧ Extern.findNext F = none ∧ Extern.find F = some (extSem k)

section
variable {P : Program} {Γ : Ctx} {Δ : Ctx2} {w0 : World} {π : Pi} {h : AH} {w : World}

def aArgs (tmps : List Value) : List Operand → Option (List Value)
  | [] => some []
  | x :: r => match aeval tmps x with
    | some v => match aArgs tmps r with
      | some l => some (v :: l)
      | none => none
    | none => none
theorem aArgs_ok {tmps : List Value} {ρ : Operand → Value} : ∀ (l : List Operand) {vs : List Value}, (∀ x ∈ l, ∀ v, aeval tmps x = some v → VR π v (ρ x)) → aArgs tmps l = some vs → VRL π vs (l.map ρ)
  | [], vs, _, h => by simp [aArgs] at h; subst h; exact VRL.nil _
  | x :: r, vs, hρ, h => by
    simp only [aArgs] at h
    split at h
    · next v hv =>
      split at h
      · next l hl =>
        cases h
        exact VRL.cons (hρ x (by simp) v hv) (aArgs_ok r (fun y hy => hρ y (by simp [hy])) hl)
      · cases h
    · cases h

/-! #### calls of the language's own functions -/
def aMaxs (mx : Bool) (k : IntKind) : Int → List Value → Option Int
  | x, [] => some x
  | x, .int _ y :: l => aMaxs mx k (if mx then (if y > x then y else x) else (if y < x then y else x)) l
  | _, _ => none
theorem aMaxs_ok (mx : Bool) (k : IntKind) : ∀ (l : List Value) (L : List Value) (x r : Int), aMaxs mx k x l = some r → VRL π l L → (L.foldlM (if mx then Builtin.max2 else Builtin.min2) (.int k x)).run P w = .ok (.int k r) w
  | [], L, x, r, h, hL => by
    have : L = [] := List.length_eq_zero_iff.1 hL.1.symm
    subst this
    simp [aMaxs] at h; subst h
    simp
  | v :: l, L, x, r, h, hL => by
    cases L with
    | nil => have := hL.1; simp at this
    | cons V L =>
      cases v <;> try (simp [aMaxs] at h; done)
      rename_i j y
      have hv := hL.2 0 _ _ rfl rfl
      obtain rfl := hv.lit_inv rfl
      have hL' : VRL π l L := ⟨by have := hL.1; simpa using this, fun i a b x y => hL.2 (i + 1) a b (by simpa using x) (by simpa using y)⟩
      simp only [aMaxs] at h
      have := aMaxs_ok mx k l L _ r h hL'
      cases mx
      · simp only [Bool.false_eq_true, if_false, List.foldlM_cons] at this ⊢
        simp only [Sem.run_bind, Builtin.min2, Sem.run_pure, Result.andThen_ok]
        exact this
      · simp only [if_true, List.foldlM_cons] at this ⊢
        simp only [Sem.run_bind, Builtin.max2, Sem.run_pure, Result.andThen_ok]
        exact this

def aBuiltin (P : Program) (Γ : Ctx) (b : Builtin) (ts : List TypeId) (args : List Value) (h : AH) : Option (Value × AH) :=
  match b, ts, args with
  | .append, [st, xt], [v, x] => aAppend Γ st xt v x h
  | .copy, [dt, _], [d, x] => aCopy Γ dt d x h
  | .len, t :: _, [v] => (aLenOp Γ t v h).map fun r => (r, h)
  | .delete, t :: _, [m, k] => (aDelete P Γ t m k h).map fun h' => (.tuple #[], h')
  | .clear, t :: _, [v] => (aClear Γ t v h).map fun h' => (.tuple #[], h')
  | .max, _, .int k x :: l => (aMaxs true k x l).map fun r => (.int k r, h)
  | .min, _, .int k x :: l => (aMaxs false k x l).map fun r => (.int k r, h)
  | _, _, _ => none

theorem VRL.two {a b : Value} {L : List Value} (h : VRL π [a, b] L) : ∃ A B, L = [A, B] ∧ VR π a A ∧ VR π b B := by
  match L, h with
  | [A, B], h => exact ⟨A, B, rfl, h.2 0 _ _ rfl rfl, h.2 1 _ _ rfl rfl⟩
  | [], h => have := h.1; simp at this
  | [_], h => have := h.1; simp at this
  | _ :: _ :: _ :: _, h => have := h.1; simp at this
theorem VRL.one {a : Value} {L : List Value} (h : VRL π [a] L) : ∃ A, L = [A] ∧ VR π a A := by
  match L, h with
  | [A], h => exact ⟨A, rfl, h.2 0 _ _ rfl rfl⟩
  | [], h => have := h.1; simp at this
  | _ :: _ :: _, h => have := h.1; simp at this
theorem VRL.head {a : Value} {l L : List Value} (h : VRL π (a :: l) L) : ∃ A L', L = A :: L' ∧ VR π a A ∧ VRL π l L' := by
  match L, h with
  | A :: L', h => exact ⟨A, L', rfl, h.2 0 _ _ rfl rfl, by have := h.1; simpa using this, fun i a b x y => h.2 (i + 1) a b (by simpa using x) (by simpa using y)⟩
  | [], h => have := h.1; simp at this

theorem builtin_ok (hΓ : CtxOk P Γ) (s : Sim w0 π h w) {b : Builtin} {ts : Array TypeId} {ty : TypeId} {cs : Array Bool} {args : List Value} {ARGS : Array Value} {r : Value} {h' : AH}
    (hr : aBuiltin P Γ b ts.toList args h = some (r, h')) (ha : VRL π args ARGS.toList) : OpOk w0 π h ((builtin b ts ty cs ARGS).run P w) (.val r h') := by
  obtain ⟨ts⟩ := ts
  obtain ⟨A⟩ := ARGS
  simp only at hr ha
  have fin : ∀ (S : Sem Value), (∃ π' R w', S.run P w = .ok R w' ∧ VR π' r R ∧ Ext w0 π h π' h' w') → OpOk w0 π h ((do pure (Next.value (← S)) : Sem Next).run P w) (.val r h') := by
    rintro S ⟨π', R, w', h1, h2, h3⟩
    exact ⟨π', R, w', by simp [h1], h2, h3⟩
  unfold aBuiltin at hr
  split at hr
  · obtain ⟨V, X, rfl, hv, hx⟩ := ha.two
    exact fin _ (append_ok hΓ s hr hv hx)
  · obtain ⟨D, X, rfl, hd, hx⟩ := ha.two
    exact fin _ (copy_ok hΓ s hr hd hx)
  · rename_i t tl v
    simp only [Option.map_eq_some_iff] at hr
    obtain ⟨r', h1, h2⟩ := hr
    simp only [Prod.mk.injEq] at h2
    obtain ⟨rfl, rfl⟩ := h2
    obtain ⟨V, rfl, hv⟩ := ha.one
    obtain ⟨e1, e2⟩ := len_ok (P := P) (ty := ty) hΓ s (ts := ⟨t :: tl⟩) (by simp) h1 hv
    exact fin _ ⟨π, r', w, e1, .lit e2, Ext.refl s⟩
  · rename_i t tl m k
    simp only [Option.map_eq_some_iff] at hr
    obtain ⟨r', h1, h2⟩ := hr
    simp only [Prod.mk.injEq] at h2
    obtain ⟨rfl, rfl⟩ := h2
    obtain ⟨M, K, rfl, hm, hk⟩ := ha.two
    obtain ⟨w', e1, e2⟩ := delete_ok (ty := ty) hΓ s (ts := ⟨t :: tl⟩) (by simp) h1 hm hk
    exact fin _ ⟨π, _, w', e1, VR.const 20 _ rfl, e2⟩
  · rename_i t tl v
    simp only [Option.map_eq_some_iff] at hr
    obtain ⟨r', h1, h2⟩ := hr
    simp only [Prod.mk.injEq] at h2
    obtain ⟨rfl, rfl⟩ := h2
    obtain ⟨V, rfl, hv⟩ := ha.one
    obtain ⟨w', e1, e2⟩ := clear_ok (ty := ty) hΓ s (ts := ⟨t :: tl⟩) (by simp) h1 hv
    exact fin _ ⟨π, _, w', e1, VR.const 20 _ rfl, e2⟩
  · simp only [Option.map_eq_some_iff] at hr
    obtain ⟨r', h1, h2⟩ := hr
    simp only [Prod.mk.injEq] at h2
    obtain ⟨rfl, rfl⟩ := h2
    obtain ⟨V, L, rfl, hv, hl⟩ := ha.head
    obtain rfl := hv.lit_inv rfl
    have := aMaxs_ok (P := P) (w := w) true _ _ _ _ _ h1 hl
    exact fin _ ⟨π, _, w, by simpa [Builtin.max_] using this, .lit rfl, Ext.refl s⟩
  · simp only [Option.map_eq_some_iff] at hr
    obtain ⟨r', h1, h2⟩ := hr
    simp only [Prod.mk.injEq] at h2
    obtain ⟨rfl, rfl⟩ := h2
    obtain ⟨V, L, rfl, hv, hl⟩ := ha.head
    obtain rfl := hv.lit_inv rfl
    have := aMaxs_ok (P := P) (w := w) false _ _ _ _ _ h1 hl
    exact fin _ ⟨π, _, w, by simpa [Builtin.min_] using this, .lit rfl, Ext.refl s⟩
  · cases hr

/-! #### calls of functions -/
def aExt (k : Ext') (args : List Value) : Option Value :=
  match k, args with
  | .indexByteString, [.string b, .int .u8 c] =>
    match (List.range b.size).find? fun i => b[i]! == UInt8.ofNat c.toNat with
    | some i => some (.int .i64 i)
    | none => some (.int .i64 (-1))
  | .countString, [.string b, .int .u8 c] => some (.int .i64 (b.foldl (fun n x => if x == UInt8.ofNat c.toNat then n + 1 else n) (0 : Nat)))
  | .cmpString, [.string a, .string b] => some (.int .i64 (Extern.BytealgCompare.cmp a b))
  | _, _ => none

def aCallFunc (Γ : Ctx) (Δ : Ctx2) (f : FuncId) (args : List Value) (h : AH) : Option ARes :=
  match Δ.ext f with
  | some k => (aExt k args).map fun v => .val v h
  | none => match Γ.fn f with
    | some F => if F.body.isSome then some (.enter f args h) else none
    | none => none

def aInvoke (Γ : Ctx) (Δ : Ctx2) (fn : Fn) (cap args : List Value) (h : AH) : Option ARes :=
  match fn with
  | .func f => aCallFunc Γ Δ f (args ++ cap) h
  | .method name =>
    match args with
    | .iface t v :: rest =>
      match Δ.meth t name with
      | some (f, .same) => aCallFunc Γ Δ f (v :: rest) h
      | some (f, .deref e) => match aLoad Γ e v h with
        | some v' => aCallFunc Γ Δ f (v' :: rest) h
        | none => none
      | none => none
    | _ => none
  | _ => none

theorem callFunc_ok (hΓ : CtxOk P Γ) (hΔ : Ctx2Ok P Γ Δ) (s : Sim w0 π h w) {f : FuncId} {args : List Value} {ARGS : Array Value} {r : ARes} (hr : aCallFunc Γ Δ f args h = some r) (ha : VRL π args ARGS.toList) :
    OpOk w0 π h ((callFunc f ARGS).run P w) r := by
  obtain ⟨A⟩ := ARGS
  simp only at ha
  unfold aCallFunc at hr
  split at hr
  · next k hk =>
    obtain ⟨F, h1, h2, h3, h4, h5⟩ := hΔ.ext _ _ hk
    have run : ∀ V, (extSem k ⟨A⟩).run P w = .ok V w → (callFunc f ⟨A⟩).run P w = .ok (.value V) w := by
      intro V hV
      unfold callFunc
      simp only [Sem.run_bind, run_program, Result.andThen_ok, h1]
      rw [if_neg (by rw [h2]; simp), if_pos (by rw [h3]; rfl)]
      simp only [Sem.run_bind, run_mark, Result.andThen_ok, h4, h5, hV, Sem.run_pure]
    simp only [Option.map_eq_some_iff] at hr
    obtain ⟨v, hv, rfl⟩ := hr
    unfold aExt at hv
    split at hv
    · next b c =>
      obtain ⟨X, Y, rfl, hx, hy⟩ := ha.two
      obtain rfl := hx.lit_inv rfl
      obtain rfl := hy.lit_inv rfl
      refine ⟨π, v, w, run v ?_, .lit ?_, Ext.refl s⟩
      · have e : extSem .indexByteString ⟨[.string b, .int .u8 c]⟩ = (match (List.range b.size).find? fun i => b[i]! == UInt8.ofNat c.toNat with
            | some i => pure (goInt i)
            | none => pure (goInt (-1))) := rfl
        rw [e]
        split at hv <;> cases hv <;> rfl
      · split at hv <;> cases hv <;> rfl
    · next b c =>
      obtain ⟨X, Y, rfl, hx, hy⟩ := ha.two
      obtain rfl := hx.lit_inv rfl
      obtain rfl := hy.lit_inv rfl
      cases hv
      exact ⟨π, _, w, run _ rfl, .lit rfl, Ext.refl s⟩
    · next a b =>
      obtain ⟨X, Y, rfl, hx, hy⟩ := ha.two
      obtain rfl := hx.lit_inv rfl
      obtain rfl := hy.lit_inv rfl
      cases hv
      exact ⟨π, _, w, run _ rfl, .lit rfl, Ext.refl s⟩
    · cases hv
  · split at hr
    · next F hF =>
      split at hr
      · next hb =>
        cases hr
        have h1 := hΓ.fn _ _ hF
        have h2 := hΔ.fnName _ _ hF
        refine ⟨π, ⟨A⟩, w, ?_, ha, Ext.refl s⟩
        unfold callFunc
        simp only [Sem.run_bind, run_program, Result.andThen_ok, h1]
        rw [if_neg (by rw [h2]; simp), if_neg (by cases hbb : F.body <;> simp_all)]
        simp
      · cases hr
    · cases hr

theorem invoke_ok (hΓ : CtxOk P Γ) (hΔ : Ctx2Ok P Γ Δ) (s : Sim w0 π h w) {fn : Fn} {cap args : List Value} {CAP ARGS : Array Value} {r : ARes} (hr : aInvoke Γ Δ fn cap args h = some r) (hc : VRL π cap CAP.toList) (ha : VRL π args ARGS.toList) :
    OpOk w0 π h ((invoke (.fn fn CAP) ARGS).run P w) r := by
  unfold aInvoke at hr
  split at hr
  · next f => exact callFunc_ok hΓ hΔ s hr (by simpa using ha.append hc)
  · next name =>
    split at hr
    case h_2 => cases hr
    next t v rest =>
    obtain ⟨A⟩ := ARGS
    simp only at ha
    obtain ⟨I, L, rfl, hi, hl⟩ := ha.head
    obtain ⟨v', rfl, hv⟩ := hi.iface_inv
    have eqn : (invoke (.fn (.method name) CAP) ⟨.iface t v' :: L⟩) = (do
        let (f, receiver) ← method ((← program).types.size + Made.depth) t v' name
        callFunc f (#[receiver] ++ (⟨.iface t v' :: L⟩ : Array Value).extract 1 (L.length + 1))) := by
      simp [invoke, callMethod]
    have hext : (⟨.iface t v' :: L⟩ : Array Value).extract 1 (L.length + 1) = ⟨L⟩ := by
      apply Array.ext'
      simp
    rw [eqn, hext]
    split at hr
    · next f hm =>
      obtain ⟨info, m, pr, h1, h2, h3, h4, h5⟩ := hΔ.meth _ _ _ _ hm
      have hmeth : (method (P.types.size + Made.depth) t v' name).run P w = .ok (f, v') w := by
        have : P.types.size + Made.depth = (P.types.size + 99) + 1 := rfl
        rw [this]
        unfold method
        simp only [Sem.run_bind, typeInfo, run_program, Result.andThen_ok, h1, Sem.run_pure, h2, h3]
        rcases h5 with ⟨e, rfl, hu⟩ | ⟨rfl, d, hu, hne⟩
        · simp [follow, h4, receiverAt, run_underlying hu, Place.get]
        · cases d <;> simp [follow, h4, receiverAt, run_underlying hu, Place.get]
          exact absurd rfl (hne _)
      simp only [Sem.run_bind, run_program, Result.andThen_ok, hmeth]
      exact callFunc_ok hΓ hΔ s hr (by simpa using VRL.cons hv hl)
    · next f e hm =>
      split at hr
      case h_2 => cases hr
      next v2 hv2 =>
      obtain ⟨info, m, pr, h1, h2, h3, h4, rfl, hu⟩ := hΔ.meth _ _ _ _ hm
      obtain ⟨R, hR1, hR2⟩ := load_ok (P := P) hΓ s hv2 hv
      have hptr : ∃ a, v' = .pointer (some a) := by
        unfold aLoad at hv2
        split at hv2
        · obtain ⟨p, _, _, rfl⟩ := hv.ptr_inv; exact ⟨_, rfl⟩
        · cases hv2
      obtain ⟨a, rfl⟩ := hptr
      simp only [Instr.loadAt, Instr.sureAddr, Sem.run_bind, Sem.run_pure, Result.andThen_ok] at hR1
      have hmeth : (method (P.types.size + Made.depth) t (.pointer (some a)) name).run P w = .ok (f, R) w := by
        have : P.types.size + Made.depth = (P.types.size + 99) + 1 := rfl
        rw [this]
        unfold method
        simp only [Sem.run_bind, typeInfo, run_program, Result.andThen_ok, h1, Sem.run_pure, h2, h3]
        have hchk : ∀ (q : TypeId) (x y : String), Builtin.ssaWrapNilChk_ #[q] q #[.pointer (some a), strVal x, strVal y] = pure (.pointer (some a)) := fun _ _ _ => rfl
        simp [follow, h4, receiverAt, run_underlying hu, Place.get, hchk, asAddr, hR1]
      simp only [Sem.run_bind, run_program, Result.andThen_ok, hmeth]
      exact callFunc_ok hΓ hΔ s hr (by simpa using VRL.cons hR2 hl)
    · cases hr
  · cases hr

end
end
end Go.Abs
