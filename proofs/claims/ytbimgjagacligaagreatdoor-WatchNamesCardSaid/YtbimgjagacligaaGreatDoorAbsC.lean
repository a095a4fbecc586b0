/- A part of the abstract machine: an evaluator of the model's code over an abstract heap, proved sound against the model's walks (Calls, wp). No condition beyond each theorem's own premises. -/
import Derived.Test.YtbimgjagacligaaGreatDoorAbsB
set_option linter.unusedVariables false
set_option linter.unusedSimpArgs false
namespace Go.Abs
open Go Go.RowKit
noncomputable section

section
variable {P : Program} {Γ : Ctx} {Δ : Ctx2} {w0 : World} {π : Pi} {h : AH} {w : World}

def aCall (P : Program) (Γ : Ctx) (Δ : Ctx2) (c : Call) (tmps : List Value) (h : AH) : Option ARes :=
  match aArgs tmps c.args.toList with
  | some args =>
    match c.callee with
    | .builtin b => match aBuiltin P Γ b c.argTypes.toList args h with
      | some (r, h') => some (.val r h')
      | none => none
    | .value f => match aeval tmps f with
      | some (.func fn first cap) => aInvoke Γ Δ fn cap.toList (first.toList ++ args) h
      | _ => none
    | .invoke r name => match aeval tmps r with
      | some v => aInvoke Γ Δ (.method name) [] (v :: args) h
      | none => none
  | none => none

def aDefer (c : Call) (tmps : List Value) (h : AH) : Option ARes :=
  match aArgs tmps c.args.toList with
  | some args =>
    match c.callee with
    | .value f => match aeval tmps f with
      | some (.func fn first cap) => if plainFn fn then some (.defer fn cap.toList (first.toList ++ args) h) else none
      | _ => none
    | _ => none
  | none => none

def aUn (op : UnOp) (v : Value) : Option Value :=
  match op, v with
  | .not, .bool b => some (.bool !b)
  | .neg, .int k n => some (.int k (k.wrap (0 - n)))
  | .xor, .int k n => some (.int k (k.wrap ((BitVec.ofInt k.bits (if k.signed then -1 else k.max) ^^^ BitVec.ofInt k.bits n).toNat : Int)))
  | _, _ => none

def aAssert (Γ : Ctx) (v : Value) (asserted : TypeId) (ok : Bool) : Option Value :=
  match Γ.ty asserted with
  | some i => match i.k with
    | .iface _ => none
    | _ => match v with
      | .iface t x => if t = asserted then some (if ok then .tuple #[x, .bool true] else x) else if ok then some (.tuple #[i.zero, .bool false]) else none
      | .nilIface => if ok then some (.tuple #[i.zero, .bool false]) else none
      | _ => none
  | none => none

def aOpt (tmps : List Value) : Option Operand → Option (Option Value)
  | none => some none
  | some x => (aeval tmps x).map some

def isC : Operand → Bool
  | .const _ => true
  | _ => false
/-- interfaces beside nil -/
def aNilI (Γ : Ctx) (op : BinOp) (t : TypeId) (cst : Bool) (x y : Value) : Option Value :=
  match Γ.ty t with
  | some i => match i.k with
    | .iface _ => match op, x, y with
      | .eql, .nilIface, .nilIface => if cst then some (.bool true) else none
      | .eql, .nilIface, .iface _ _ => some (.bool false)
      | .eql, .iface _ _, .nilIface => some (.bool false)
      | .neq, .nilIface, .nilIface => if cst then some (.bool false) else none
      | .neq, .nilIface, .iface _ _ => some (.bool true)
      | .neq, .iface _ _, .nilIface => some (.bool true)
      | _, _, _ => none
    | _ => none
  | none => none
theorem nilI_ok (hΓ : CtxOk P Γ) {op : BinOp} {t : TypeId} {ox oy : Operand} {x y X Y r : Value} (hr : aNilI Γ op t (isC ox || isC oy) x y = some r) (hx : VR π x X) (hy : VR π y Y) (w : World) :
    (do eqGuard op t ox oy X Y; binOp op t X Y : Sem Value).run P w = .ok r w ∧ VR π r r := by
  unfold aNilI at hr
  split at hr
  case h_2 => cases hr
  next i hi =>
  split at hr
  case h_2 => cases hr
  next b hk =>
  obtain ⟨ms, hu, hms⟩ := (hΓ.ty _ _ hi).iface hk
  have E : ∀ A B : Value, Op.equal t A B = Op.equalIn (9999 + 1) t A B := fun A B => rfl
  have cst : ∀ op, (isC ox || isC oy) = true → (eqGuard op t ox oy .nilIface .nilIface).run P w = .ok () w := by
    intro op h
    rw [Bool.or_eq_true] at h
    cases op <;> first | (simp [eqGuard]; done) | skip
    all_goals
      simp only [eqGuard]
      rcases h with h | h
      · cases ox <;> simp [isC] at h ⊢
      · cases oy <;> simp [isC] at h ⊢
  split at hr
  · split at hr
    · next hc =>
      cases hr
      obtain rfl := hx.lit_inv rfl
      obtain rfl := hy.lit_inv rfl
      refine ⟨?_, .lit rfl⟩
      simp only [Sem.run_bind, cst _ hc, Result.andThen_ok]
      simp only [binOp, E]
      unfold Op.equalIn
      simp [run_underlying hu]
    · cases hr
  · cases hr
    obtain rfl := hx.lit_inv rfl
    obtain ⟨v', rfl, _⟩ := hy.iface_inv
    refine ⟨?_, .lit rfl⟩
    simp only [Sem.run_bind, eqGuard, binOp, E]
    unfold Op.equalIn
    simp [run_underlying hu]
  · cases hr
    obtain rfl := hy.lit_inv rfl
    obtain ⟨v', rfl, _⟩ := hx.iface_inv
    refine ⟨?_, .lit rfl⟩
    simp only [Sem.run_bind, eqGuard, binOp, E]
    unfold Op.equalIn
    simp [run_underlying hu]
  · split at hr
    · next hc =>
      cases hr
      obtain rfl := hx.lit_inv rfl
      obtain rfl := hy.lit_inv rfl
      refine ⟨?_, .lit rfl⟩
      simp only [Sem.run_bind, cst _ hc, Result.andThen_ok]
      simp only [binOp, E]
      unfold Op.equalIn
      simp [run_underlying hu]
    · cases hr
  · cases hr
    obtain rfl := hx.lit_inv rfl
    obtain ⟨v', rfl, _⟩ := hy.iface_inv
    refine ⟨?_, .lit rfl⟩
    simp only [Sem.run_bind, eqGuard, binOp, E]
    unfold Op.equalIn
    simp [run_underlying hu]
  · cases hr
    obtain rfl := hy.lit_inv rfl
    obtain ⟨v', rfl, _⟩ := hx.iface_inv
    refine ⟨?_, .lit rfl⟩
    simp only [Sem.run_bind, eqGuard, binOp, E]
    unfold Op.equalIn
    simp [run_underlying hu]
  · cases hr

def evOp (P : Program) (Γ : Ctx) (Δ : Ctx2) (o : Oper) (tmps : List Value) (h : AH) : Option ARes :=
  match o.op with
  | .move x | .assign x => match aeval tmps x with
    | some v => some (.val v h)
    | none => none
  | .pick c a b => match aeval tmps c, aeval tmps a, aeval tmps b with
    | some (.bool t), some x, some y => some (.val (if t then x else y) h)
    | _, _, _ => none
  | .alloc e => match Γ.ty e with
    | some i => aVar Γ e i.zero h
    | none => none
  | .box e x => match aeval tmps x with
    | some v => aVar Γ e v h
    | none => none
  | .build t ps => match aparts tmps ps.toList with
    | some ps => match aBuild Γ t ps with
      | some v => some (.val v h)
      | none => none
    | none => none
  | .buildSlice t n ps => match aparts tmps ps.toList with
    | some ps => aBuildSlice Γ t n ps h
    | none => none
  | .insert t m k v | .mapUpdate t m k v => match aeval tmps m, aeval tmps k, aeval tmps v with
    | some m, some k, some v => match aMapUpdate P Γ t m k v h with
      | some h' => some (.skip h')
      | none => none
    | _, _, _ => none
  | .load t a => match aeval tmps a with
    | some v => match aLoad Γ t v h with
      | some r => some (.val r h)
      | none => none
    | none => none
  | .store t a v => match aeval tmps a, aeval tmps v with
    | some a, some v => match aStore Γ t a v h with
      | some h' => some (.skip h')
      | none => none
    | _, _ => none
  | .nilCheck x => match aeval tmps x with
    | some (.pointer (some a)) => some (.val (.pointer (some a)) h)
    | some (.iface t v) => some (.val (.iface t v) h)
    | some (.func (.func f) xs ys) => some (.val (.func (.func f) xs ys) h)
    | _ => none
  | .binOp op t x y _ => match aeval tmps x, aeval tmps y with
    | some a, some b => match aBin P Γ op t a b with
      | some r => some (.val r h)
      | none => match aNilI Γ op t (isC x || isC y) a b with
        | some r => some (.val r h)
        | none => none
    | _, _ => none
  | .unOp op _ x => match aeval tmps x with
    | some v => match aUn op v with
      | some r => some (.val r h)
      | none => none
    | none => none
  | .convert s d x => match aeval tmps x with
    | some v => match aConvert Γ s d v h with
      | some (r, h') => some (.val r h')
      | none => none
    | none => none
  | .sliceToArrayPointer t x => match Γ.ty t, aeval tmps x with
    | some i, some (.slice (some a) len cap) => match i.k with
      | .array n _ => if n = 0 then none else if len < n then none else if cap < len then none else some (.val (.pointer (some ⟨a.block, a.off, none⟩)) h)
      | _ => none
    | _, _ => none
  | .makeInterface t x => match Γ.ty t, aeval tmps x with
    | some i, some v => match i.k with
      | .iface _ => none
      | _ => some (.val (.iface t v) h)
    | _, _ => none
  | .makeFunc fn xs ys => match aArgs tmps xs.toList, aArgs tmps ys.toList with
    | some xs, some ys => if plainFn fn then some (.val (.func fn xs.toArray ys.toArray) h) else none
    | _, _ => none
  | .makeMap t none => some (.val (.map (some h.next)) (h.new (.map [] 0)))
  | .makeSlice t l c => match aeval tmps l, aeval tmps c with
    | some l, some c => match aMakeSlice Γ t l c h with
      | some (r, h') => some (.val r h')
      | none => none
    | _, _ => none
  | .slice t x lo hi mx => match aeval tmps x, aOpt tmps lo, aOpt tmps hi, aOpt tmps mx with
    | some v, some lo, some hi, some mx => match aSlice Γ t v lo hi mx h with
      | some r => some (.val r h)
      | none => none
    | _, _, _, _ => none
  | .fieldAddr t x f => match aeval tmps x with
    | some v => match aFieldAddr Γ t v f with
      | some r => some (.val r h)
      | none => none
    | none => none
  | .field t x f => match aeval tmps x with
    | some v => match aField Γ t v f with
      | some r => some (.val r h)
      | none => none
    | none => none
  | .indexAddr t x i => match aeval tmps x, aeval tmps i with
    | some v, some i => match aIndexAddr Γ t v i with
      | some r => some (.val r h)
      | none => none
    | _, _ => none
  | .index t x i => match aeval tmps x, aeval tmps i with
    | some v, some i => match aIndex Γ t v i with
      | some r => some (.val r h)
      | none => none
    | _, _ => none
  | .lookup t m k ok => match aeval tmps m, aeval tmps k with
    | some m, some k => match aLookup P Γ t m k ok h with
      | some r => some (.val r h)
      | none => none
    | _, _ => none
  | .range t x => match aeval tmps x with
    | some v => match aRange Γ t v h with
      | some (r, h') => some (.val r h')
      | none => none
    | none => none
  | .next it b => match aeval tmps it with
    | some v => match aNext v b h with
      | some (r, h') => some (.val r h')
      | none => none
    | none => none
  | .entry it => match aeval tmps it with
    | some v => match aEntry v h with
      | some r => some (.val r h)
      | none => none
    | none => none
  | .typeAssert x _ asserted ok => match aeval tmps x with
    | some v => match aAssert Γ v asserted ok with
      | some r => some (.val r h)
      | none => none
    | none => none
  | .extract t i => match aeval tmps t with
    | some (.tuple vs) => match vs.toList[i]? with
      | some v => some (.val v h)
      | none => none
    | _ => none
  | .call c => aCall P Γ Δ c tmps h
  | .defer c => aDefer c tmps h
  | .panic x => match aeval tmps x with
    | some (.iface t v) => some (.panic (.iface t v) h)
    | _ => none
  | _ => none

theorem aUn_ok {op : UnOp} {v r : Value} (hr : aUn op v = some r) (w : World) : (Op.unary op v).run P w = .ok r w ∧ isLit v = true ∧ isLit r = true := by
  unfold aUn at hr
  split at hr <;> cases hr <;> exact ⟨rfl, rfl, rfl⟩

theorem optR_of {tmps : List Value} {ρ : Operand → Value} {x : Option Operand} {v : Option Value} (hρ : ∀ y, x = some y → ∀ u, aeval tmps y = some u → VR π u (ρ y)) (h : aOpt tmps x = some v) : optR π v (x.map ρ) := by
  cases x with
  | none => simp [aOpt] at h; subst h; trivial
  | some y =>
    simp only [aOpt, Option.map_eq_some_iff] at h
    obtain ⟨u, h1, rfl⟩ := h
    exact hρ y rfl u h1

theorem call_ok (hΓ : CtxOk P Γ) (hΔ : Ctx2Ok P Γ Δ) (s : Sim w0 π h w) {c : Call} {ty : TypeId} {tmps : List Value} {ρ : Operand → Value} {r : ARes} (hρ : ∀ x ∈ c.operands.toList, ∀ v, aeval tmps x = some v → VR π v (ρ x))
    (hr : aCall P Γ Δ c tmps h = some r) : OpOk w0 π h ((do let d ← resolve ρ c ty; invoke d.target d.args : Sem Next).run P w) r := by
  unfold aCall at hr
  split at hr
  case h_2 => cases hr
  next args hargs =>
  have ha : VRL π args (c.args.map ρ).toList := by
    rw [Array.toList_map]
    exact aArgs_ok _ (fun x hx => hρ x (by simp [Call.operands]; exact .inr (by simpa using hx))) hargs
  split at hr
  · next b hcal =>
    split at hr
    case h_2 => cases hr
    next v h' hb =>
    cases hr
    have := builtin_ok (P := P) (ty := ty) (cs := c.args.map fun | .const _ => true | _ => false) hΓ s hb ha
    unfold resolve
    simp only [hcal, Sem.run_bind, Sem.run_pure, Result.andThen_ok, invoke]
    exact this
  · next f hcal =>
    split at hr
    case h_2 => cases hr
    next fn first cap hf =>
    have hv := hρ f (by simp [Call.operands, hcal]) _ hf
    have hpl0 : plainFn fn = true := by
      cases fn <;> first | rfl | (simp [aInvoke] at hr)
    obtain ⟨first', cap', e, hpl, hfi, hca⟩ := hv.func_inv hpl0
    unfold resolve
    simp only [hcal, e, Deferred.ofValue, Sem.run_bind, Sem.run_pure, Result.andThen_ok]
    exact invoke_ok hΓ hΔ s hr hca (by simpa using hfi.append ha)
  · next rc name hcal =>
    split at hr
    case h_2 => cases hr
    next v hf =>
    have hv := hρ rc (by simp [Call.operands, hcal]) _ hf
    unfold resolve
    simp only [hcal, Sem.run_bind, Sem.run_pure, Result.andThen_ok]
    exact invoke_ok hΓ hΔ s hr (VRL.nil _) (by simpa using VRL.cons hv ha)

theorem evOp_ok (hΓ : CtxOk P Γ) (hΔ : Ctx2Ok P Γ Δ) (s : Sim w0 π h w) {o : Oper} {tmps : List Value} {ρ : Operand → Value} {r : ARes} (hρ : ∀ x ∈ o.op.operands.toList, ∀ v, aeval tmps x = some v → VR π v (ρ x))
    (hr : evOp P Γ Δ o tmps h = some r) : OpOk w0 π h ((execOp ρ o).run P w) r := by
  obtain ⟨dst, op, type, pos, after, guard⟩ := o
  have val : ∀ (S : Sem Value) (v : Value), (∃ V, S.run P w = .ok V w ∧ VR π v V) → OpOk w0 π h ((do pure (Next.value (← S)) : Sem Next).run P w) (.val v h) := by
    rintro S v ⟨V, h1, h2⟩
    exact OpOk.val' s h1 h2
  have valH : ∀ (S : Sem Value) (v : Value) (h' : AH), (∃ π' V w', S.run P w = .ok V w' ∧ VR π' v V ∧ Ext w0 π h π' h' w') → OpOk w0 π h ((do pure (Next.value (← S)) : Sem Next).run P w) (.val v h') := by
    rintro S v h' ⟨π', V, w', h1, h2, h3⟩
    exact ⟨π', V, w', by simp [h1], h2, h3⟩
  have unit : ∀ (S : Sem Unit) (h' : AH), (∃ w', S.run P w = .ok () w' ∧ Ext w0 π h π h' w') → OpOk w0 π h ((do S; pure Next.skip : Sem Next).run P w) (.skip h') := by
    rintro S h' ⟨w', h1, h2⟩
    exact ⟨π, w', by simp [h1], h2⟩
  cases op <;> simp only [evOp] at hr <;> (try (cases hr; done)) <;> simp only [Op.operands] at hρ <;> simp only [execOp]
  case move x =>
    split at hr <;> cases hr
    next v hx => exact ⟨π, _, w, rfl, hρ x (by simp) v hx, Ext.refl s⟩
  case assign x =>
    split at hr <;> cases hr
    next v hx => exact ⟨π, _, w, rfl, hρ x (by simp) v hx, Ext.refl s⟩
  case pick c a b =>
    split at hr <;> cases hr
    next t x y hc ha hb =>
    have e := (hρ c (by simp) _ hc).lit_inv rfl
    refine ⟨π, if t then ρ a else ρ b, w, by simp [e, asBool], ?_, Ext.refl s⟩
    cases t
    · exact hρ b (by simp) _ hb
    · exact hρ a (by simp) _ ha
  case alloc e =>
    split at hr
    · next i hi =>
      have ok := hΓ.ty _ _ hi
      have := var_ok (P := P) s hr (zeroVR ok) (S := zeroValue e) (ok.run_zero w)
      simpa [Instr.alloc] using this
    · cases hr
  case box e x =>
    split at hr
    · next v hx =>
      have := var_ok (P := P) s hr (hρ x (by simp) v hx) (S := pure (ρ x)) rfl
      simpa [Instr.box] using this
    · cases hr
  case build t ps =>
    split at hr
    case h_2 => cases hr
    next qs hqs =>
    split at hr <;> cases hr
    next v hv =>
    have hp := aparts_ok (π := π) (ρ := ρ) ps.toList (fun p hp => hρ p.2 (by simp; exact ⟨p.1, by simpa using hp⟩)) hqs
    exact val _ _ (build_run hΓ hv (by simpa using hp))
  case buildSlice t n ps =>
    split at hr
    case h_2 => cases hr
    next qs hqs =>
    have hp := aparts_ok (π := π) (ρ := ρ) ps.toList (fun p hp => hρ p.2 (by simp; exact ⟨p.1, by simpa using hp⟩)) hqs
    exact buildSlice_ok hΓ s hr (by simpa using hp)
  case insert t m k v =>
    split at hr
    case h_2 => cases hr
    next m' k' v' hm hk hv =>
    split at hr <;> cases hr
    next h' hh => exact unit _ _ (mapUpdate_ok hΓ s hh (hρ m (by simp) _ hm) (hρ k (by simp) _ hk) (hρ v (by simp) _ hv))
  case load t a =>
    split at hr
    case h_2 => cases hr
    next v hv =>
    split at hr <;> cases hr
    next r hh => exact val _ _ (load_ok hΓ s hh (hρ a (by simp) _ hv))
  case store t a v =>
    split at hr
    case h_2 => cases hr
    next a' v' ha hv =>
    split at hr <;> cases hr
    next h' hh => exact unit _ _ (store_ok hΓ s hh (hρ a (by simp) _ ha) (hρ v (by simp) _ hv))
  case nilCheck x =>
    split at hr <;> cases hr
    · next a hx =>
      have hv := hρ x (by simp) _ hx
      obtain ⟨p, _, _, e⟩ := hv.ptr_inv
      refine ⟨π, ρ x, w, by rw [e]; rfl, hv, Ext.refl s⟩
    · next t v hx =>
      have hv := hρ x (by simp) _ hx
      obtain ⟨v', e, _⟩ := hv.iface_inv
      refine ⟨π, ρ x, w, by rw [e]; rfl, hv, Ext.refl s⟩
    · next f xs ys hx =>
      have hv := hρ x (by simp) _ hx
      obtain ⟨a, b, e, _⟩ := hv.func_inv rfl
      refine ⟨π, ρ x, w, by rw [e]; rfl, hv, Ext.refl s⟩
  case binOp op t x y yt =>
    split at hr
    case h_2 => cases hr
    next a b ha hb =>
    split at hr
    · next r hh =>
      cases hr
      obtain ⟨h1, h2⟩ := bin_ok (ox := x) (oy := y) hΓ hh (hρ x (by simp) _ ha) (hρ y (by simp) _ hb) w
      exact val _ _ ⟨_, h1, h2⟩
    · split at hr <;> cases hr
      next r hh =>
      obtain ⟨h1, h2⟩ := nilI_ok (P := P) hΓ hh (hρ x (by simp) _ ha) (hρ y (by simp) _ hb) w
      exact val _ _ ⟨_, h1, h2⟩
  case unOp op t x =>
    split at hr
    case h_2 => cases hr
    next v hv =>
    split at hr <;> cases hr
    next r hh =>
    obtain ⟨h1, h2, h3⟩ := aUn_ok (P := P) hh w
    have e := (hρ x (by simp) _ hv).lit_inv h2
    exact val _ _ ⟨_, by rw [e]; exact h1, .lit h3⟩
  case convert sr d x =>
    split at hr
    case h_2 => cases hr
    next v hv =>
    split at hr <;> cases hr
    next r h' hh => exact valH _ _ _ (convert_ok hΓ s hh (hρ x (by simp) _ hv))
  case sliceToArrayPointer t x =>
    split at hr
    case h_2 => cases hr
    next i a len cap hi hx =>
    have hv := hρ x (by simp) _ hx
    obtain ⟨p, o', c', hsp, hp, e, g1, g2, g3, g4, g5⟩ := hv.slice_inv
    split at hr
    case h_2 => cases hr
    next n el hk =>
    have hu := (hΓ.ty _ _ hi).array hk
    split at hr
    · cases hr
    split at hr
    · cases hr
    next h0 hln =>
    split at hr <;> cases hr
    have ho : o' = p.base + a.off := g1.resolve_left (by omega)
    subst ho
    exact val _ _ ⟨.pointer (some ⟨p.B, p.base + a.off, none⟩), by rw [e]; simp [Instr.arrayAt, run_underlying hu, hln], .ptr hp⟩
  case makeInterface t x =>
    split at hr
    case h_2 => cases hr
    next i v hi hv =>
    split at hr <;> cases hr
    next hno =>
    obtain ⟨d, h1, h2, h3⟩ := (hΓ.ty _ _ hi).und w
    refine val _ _ ⟨.iface t (ρ x), ?_, .iface (hρ x (by simp) _ hv)⟩
    cases d <;> simp [Instr.makeInterface, h1]
    rename_i ms
    simp [kOf] at h3
    exact hno _ h3.symm
  case makeFunc fn xs ys =>
    split at hr
    case h_2 => cases hr
    next as bs ha hb =>
    split at hr <;> cases hr
    next hpl =>
    have h1 := aArgs_ok (π := π) (ρ := ρ) xs.toList (fun x hx => hρ x (by simp; exact .inl (by simpa using hx))) ha
    have h2 := aArgs_ok (π := π) (ρ := ρ) ys.toList (fun x hx => hρ x (by simp; exact .inr (by simpa using hx))) hb
    refine val _ _ ⟨.func fn (xs.map ρ) (ys.map ρ), rfl, ?_⟩
    exact .func hpl (by simpa using h1.1) (by simpa using h2.1) (fun i a b x y => h1.2 i a b (by simpa using x) (by simpa [Array.getElem?_map] using y)) (fun i a b x y => h2.2 i a b (by simpa using x) (by simpa [Array.getElem?_map] using y))
  case makeMap t rv =>
    cases rv with
    | some _ => cases hr
    | none =>
      cases hr
      exact valH _ _ _ (makeMap_ok s)
  case makeSlice t l c =>
    split at hr
    case h_2 => cases hr
    next l' c' hl hc =>
    split at hr <;> cases hr
    next r h' hh => exact valH _ _ _ (makeSlice_ok hΓ s hh (hρ l (by simp) _ hl) (hρ c (by simp) _ hc))
  case slice t x lo hi mx =>
    split at hr
    case h_2 => cases hr
    next v lo' hi' mx' hv h1 h2 h3 =>
    split at hr <;> cases hr
    next r hh =>
    exact val _ _ (slice_ok hΓ s hh (hρ x (by simp) _ hv) (optR_of (fun y e u hu => hρ y (by subst e; simp) u hu) h1) (optR_of (fun y e u hu => hρ y (by subst e; simp) u hu) h2) (optR_of (fun y e u hu => hρ y (by subst e; simp) u hu) h3))
  case fieldAddr t x f =>
    split at hr
    case h_2 => cases hr
    next v hv =>
    split at hr <;> cases hr
    next r hh => exact val _ _ (fieldAddr_ok hΓ hh (hρ x (by simp) _ hv))
  case field t x f =>
    split at hr
    case h_2 => cases hr
    next v hv =>
    split at hr <;> cases hr
    next r hh => exact val _ _ (field_ok hΓ hh (hρ x (by simp) _ hv))
  case indexAddr t x i =>
    split at hr
    case h_2 => cases hr
    next v j hv hj =>
    split at hr <;> cases hr
    next r hh => exact val _ _ (indexAddr_ok hΓ hh (hρ x (by simp) _ hv) (hρ i (by simp) _ hj))
  case index t x i =>
    split at hr
    case h_2 => cases hr
    next v j hv hj =>
    split at hr <;> cases hr
    next r hh => exact val _ _ (index_ok hΓ hh (hρ x (by simp) _ hv) (hρ i (by simp) _ hj))
  case lookup t m k ok =>
    split at hr
    case h_2 => cases hr
    next m' k' hm hk =>
    split at hr <;> cases hr
    next r hh => exact val _ _ (lookup_ok hΓ s hh (hρ m (by simp) _ hm) (hρ k (by simp) _ hk))
  case mapUpdate t m k v =>
    split at hr
    case h_2 => cases hr
    next m' k' v' hm hk hv =>
    split at hr <;> cases hr
    next h' hh => exact unit _ _ (mapUpdate_ok hΓ s hh (hρ m (by simp) _ hm) (hρ k (by simp) _ hk) (hρ v (by simp) _ hv))
  case range t x =>
    split at hr
    case h_2 => cases hr
    next v hv =>
    split at hr <;> cases hr
    next r h' hh => exact valH _ _ _ (range_ok hΓ s hh (hρ x (by simp) _ hv))
  case next it b =>
    split at hr
    case h_2 => cases hr
    next v hv =>
    split at hr <;> cases hr
    next r h' hh =>
    obtain ⟨R, w', h1, h2, h3⟩ := next_ok (P := P) s type hh (hρ it (by simp) _ hv)
    exact valH _ _ _ ⟨π, R, w', h1, h2, h3⟩
  case entry it =>
    split at hr
    case h_2 => cases hr
    next v hv =>
    split at hr <;> cases hr
    next r hh => exact val _ _ (entry_ok s hh (hρ it (by simp) _ hv))
  case typeAssert x xt asserted ok =>
    split at hr
    case h_2 => cases hr
    next v hv =>
    split at hr <;> cases hr
    next r hh =>
    have hx := hρ x (by simp) _ hv
    unfold aAssert at hh
    split at hh
    case h_2 => cases hh
    next i hi =>
    have oki := hΓ.ty _ _ hi
    obtain ⟨d, h1, _, h3⟩ := oki.und w
    split at hh
    · cases hh
    next hno =>
    have hd : ∀ ms, d ≠ .interface ms := by
      intro ms e
      subst e
      exact hno _ h3.symm
    split at hh
    · next t y =>
      obtain ⟨y', e, hy⟩ := hx.iface_inv
      split at hh
      · next ht =>
        cases hh
        refine val _ _ ⟨if ok then .tuple #[y', .bool true] else y', ?_, ?_⟩
        · rw [e]; cases d <;> first | (exact absurd rfl (hd _)) | (cases ok <;> simp [Instr.typeAssert, h1, ht])
        · cases ok
          · exact hy
          · exact pairVR hy true
      · next ht =>
        split at hh <;> cases hh
        next hok =>
        subst hok
        refine val _ _ ⟨.tuple #[i.zero, .bool false], ?_, pairVR (zeroVR oki) false⟩
        rw [e]; cases d <;> first | (exact absurd rfl (hd _)) | simp [Instr.typeAssert, h1, ht, oki.run_zero]
    · split at hh <;> cases hh
      next hok =>
      subst hok
      have e := hx.lit_inv rfl
      refine val _ _ ⟨.tuple #[i.zero, .bool false], ?_, pairVR (zeroVR oki) false⟩
      rw [e]; cases d <;> first | (exact absurd rfl (hd _)) | simp [Instr.typeAssert, h1, oki.run_zero]
    · cases hh
  case extract t i =>
    split at hr
    case h_2 => cases hr
    next vs hv =>
    split at hr <;> cases hr
    next v hh =>
    obtain ⟨ys, e, hy⟩ := (hρ t (by simp) _ hv).tuple_inv
    obtain ⟨V, h1, h2⟩ := hy.get hh
    have h1' : ys[i]? = some V := by simpa using h1
    exact val _ _ ⟨V, by rw [e]; simp [Instr.extract, h1'], h2⟩
  case call c => exact call_ok hΓ hΔ s hρ hr
  case defer c =>
    unfold aDefer at hr
    split at hr
    case h_2 => cases hr
    next args hargs =>
    have ha : VRL π args (c.args.map ρ).toList := by
      rw [Array.toList_map]
      exact aArgs_ok _ (fun x hx => hρ x (by simp [Call.operands]; exact .inr (by simpa using hx))) hargs
    split at hr
    case h_2 => cases hr
    next f hcal =>
    split at hr
    case h_2 => cases hr
    next fn first cap hf =>
    split at hr <;> cases hr
    next hpl =>
    have hv := hρ f (by simp [Call.operands, hcal]) _ hf
    obtain ⟨first', cap', e, _, hfi, hca⟩ := hv.func_inv hpl
    refine ⟨π, cap', first' ++ c.args.map ρ, w, ?_, hpl, hca, by simpa using hfi.append ha, Ext.refl s⟩
    unfold resolve
    simp [hcal, e, Deferred.ofValue]
  case panic x =>
    split at hr <;> cases hr
    next t v hv =>
    have hx := hρ x (by simp) _ hv
    obtain ⟨v', e, hy⟩ := hx.iface_inv
    refine ⟨π, .iface t v', w, by rw [e]; simp [Instr.panic], .iface hy, Ext.refl s⟩


/-! #### the same, in small pieces: the kernel copies less -/
def eo_move (P : Program) (Γ : Ctx) (tmps : List Value) (h : AH) (x : Operand) : Option ARes :=
 match aeval tmps x with
    | some v => some (.val v h)
    | none => none

def eo_pick (P : Program) (Γ : Ctx) (tmps : List Value) (h : AH) (c a b : Operand) : Option ARes :=
 match aeval tmps c, aeval tmps a, aeval tmps b with
    | some (.bool t), some x, some y => some (.val (if t then x else y) h)
    | _, _, _ => none

def eo_alloc (P : Program) (Γ : Ctx) (tmps : List Value) (h : AH) (e : TypeId) : Option ARes :=
 match Γ.ty e with
    | some i => aVar Γ e i.zero h
    | none => none

def eo_box (P : Program) (Γ : Ctx) (tmps : List Value) (h : AH) (e : TypeId) (x : Operand) : Option ARes :=
 match aeval tmps x with
    | some v => aVar Γ e v h
    | none => none

def eo_build (P : Program) (Γ : Ctx) (tmps : List Value) (h : AH) (t : TypeId) (ps : Array (Nat × Operand)) : Option ARes :=
 match aparts tmps ps.toList with
    | some ps => match aBuild Γ t ps with
      | some v => some (.val v h)
      | none => none
    | none => none

def eo_buildSlice (P : Program) (Γ : Ctx) (tmps : List Value) (h : AH) (t : TypeId) (n : Nat) (ps : Array (Nat × Operand)) : Option ARes :=
 match aparts tmps ps.toList with
    | some ps => aBuildSlice Γ t n ps h
    | none => none

def eo_insert (P : Program) (Γ : Ctx) (tmps : List Value) (h : AH) (t : TypeId) (m k v : Operand) : Option ARes :=
 match aeval tmps m, aeval tmps k, aeval tmps v with
    | some m, some k, some v => match aMapUpdate P Γ t m k v h with
      | some h' => some (.skip h')
      | none => none
    | _, _, _ => none

def eo_load (P : Program) (Γ : Ctx) (tmps : List Value) (h : AH) (t : TypeId) (a : Operand) : Option ARes :=
 match aeval tmps a with
    | some v => match aLoad Γ t v h with
      | some r => some (.val r h)
      | none => none
    | none => none

def eo_store (P : Program) (Γ : Ctx) (tmps : List Value) (h : AH) (t : TypeId) (a v : Operand) : Option ARes :=
 match aeval tmps a, aeval tmps v with
    | some a, some v => match aStore Γ t a v h with
      | some h' => some (.skip h')
      | none => none
    | _, _ => none

def eo_nilCheck (P : Program) (Γ : Ctx) (tmps : List Value) (h : AH) (x : Operand) : Option ARes :=
 match aeval tmps x with
    | some (.pointer (some a)) => some (.val (.pointer (some a)) h)
    | some (.iface t v) => some (.val (.iface t v) h)
    | some (.func (.func f) xs ys) => some (.val (.func (.func f) xs ys) h)
    | _ => none

def eo_binOp (P : Program) (Γ : Ctx) (tmps : List Value) (h : AH) (op : BinOp) (t : TypeId) (x y : Operand) : Option ARes :=
 match aeval tmps x, aeval tmps y with
    | some a, some b => match aBin P Γ op t a b with
      | some r => some (.val r h)
      | none => match aNilI Γ op t (isC x || isC y) a b with
        | some r => some (.val r h)
        | none => none
    | _, _ => none

def eo_unOp (P : Program) (Γ : Ctx) (tmps : List Value) (h : AH) (op : UnOp) (x : Operand) : Option ARes :=
 match aeval tmps x with
    | some v => match aUn op v with
      | some r => some (.val r h)
      | none => none
    | none => none

def eo_convert (P : Program) (Γ : Ctx) (tmps : List Value) (h : AH) (s d : TypeId) (x : Operand) : Option ARes :=
 match aeval tmps x with
    | some v => match aConvert Γ s d v h with
      | some (r, h') => some (.val r h')
      | none => none
    | none => none

def eo_sliceToArrayPointer (P : Program) (Γ : Ctx) (tmps : List Value) (h : AH) (t : TypeId) (x : Operand) : Option ARes :=
 match Γ.ty t, aeval tmps x with
    | some i, some (.slice (some a) len cap) => match i.k with
      | .array n _ => if n = 0 then none else if len < n then none else if cap < len then none else some (.val (.pointer (some ⟨a.block, a.off, none⟩)) h)
      | _ => none
    | _, _ => none

def eo_makeInterface (P : Program) (Γ : Ctx) (tmps : List Value) (h : AH) (t : TypeId) (x : Operand) : Option ARes :=
 match Γ.ty t, aeval tmps x with
    | some i, some v => match i.k with
      | .iface _ => none
      | _ => some (.val (.iface t v) h)
    | _, _ => none

def eo_makeFunc (P : Program) (Γ : Ctx) (tmps : List Value) (h : AH) (fn : Fn) (xs ys : Array Operand) : Option ARes :=
 match aArgs tmps xs.toList, aArgs tmps ys.toList with
    | some xs, some ys => if plainFn fn then some (.val (.func fn xs.toArray ys.toArray) h) else none
    | _, _ => none

def eo_makeSlice (P : Program) (Γ : Ctx) (tmps : List Value) (h : AH) (t : TypeId) (l c : Operand) : Option ARes :=
 match aeval tmps l, aeval tmps c with
    | some l, some c => match aMakeSlice Γ t l c h with
      | some (r, h') => some (.val r h')
      | none => none
    | _, _ => none

def eo_slice (P : Program) (Γ : Ctx) (tmps : List Value) (h : AH) (t : TypeId) (x : Operand) (lo hi mx : Option Operand) : Option ARes :=
 match aeval tmps x, aOpt tmps lo, aOpt tmps hi, aOpt tmps mx with
    | some v, some lo, some hi, some mx => match aSlice Γ t v lo hi mx h with
      | some r => some (.val r h)
      | none => none
    | _, _, _, _ => none

def eo_fieldAddr (P : Program) (Γ : Ctx) (tmps : List Value) (h : AH) (t : TypeId) (x : Operand) (f : Nat) : Option ARes :=
 match aeval tmps x with
    | some v => match aFieldAddr Γ t v f with
      | some r => some (.val r h)
      | none => none
    | none => none

def eo_field (P : Program) (Γ : Ctx) (tmps : List Value) (h : AH) (t : TypeId) (x : Operand) (f : Nat) : Option ARes :=
 match aeval tmps x with
    | some v => match aField Γ t v f with
      | some r => some (.val r h)
      | none => none
    | none => none

def eo_indexAddr (P : Program) (Γ : Ctx) (tmps : List Value) (h : AH) (t : TypeId) (x i : Operand) : Option ARes :=
 match aeval tmps x, aeval tmps i with
    | some v, some i => match aIndexAddr Γ t v i with
      | some r => some (.val r h)
      | none => none
    | _, _ => none

def eo_index (P : Program) (Γ : Ctx) (tmps : List Value) (h : AH) (t : TypeId) (x i : Operand) : Option ARes :=
 match aeval tmps x, aeval tmps i with
    | some v, some i => match aIndex Γ t v i with
      | some r => some (.val r h)
      | none => none
    | _, _ => none

def eo_lookup (P : Program) (Γ : Ctx) (tmps : List Value) (h : AH) (t : TypeId) (m k : Operand) (ok : Bool) : Option ARes :=
 match aeval tmps m, aeval tmps k with
    | some m, some k => match aLookup P Γ t m k ok h with
      | some r => some (.val r h)
      | none => none
    | _, _ => none

def eo_range (P : Program) (Γ : Ctx) (tmps : List Value) (h : AH) (t : TypeId) (x : Operand) : Option ARes :=
 match aeval tmps x with
    | some v => match aRange Γ t v h with
      | some (r, h') => some (.val r h')
      | none => none
    | none => none

def eo_next (P : Program) (Γ : Ctx) (tmps : List Value) (h : AH) (it : Operand) (b : Bool) : Option ARes :=
 match aeval tmps it with
    | some v => match aNext v b h with
      | some (r, h') => some (.val r h')
      | none => none
    | none => none

def eo_entry (P : Program) (Γ : Ctx) (tmps : List Value) (h : AH) (it : Operand) : Option ARes :=
 match aeval tmps it with
    | some v => match aEntry v h with
      | some r => some (.val r h)
      | none => none
    | none => none

def eo_typeAssert (P : Program) (Γ : Ctx) (tmps : List Value) (h : AH) (x : Operand) (asserted : TypeId) (ok : Bool) : Option ARes :=
 match aeval tmps x with
    | some v => match aAssert Γ v asserted ok with
      | some r => some (.val r h)
      | none => none
    | none => none

def eo_extract (P : Program) (Γ : Ctx) (tmps : List Value) (h : AH) (t : Operand) (i : Nat) : Option ARes :=
 match aeval tmps t with
    | some (.tuple vs) => match vs.toList[i]? with
      | some v => some (.val v h)
      | none => none
    | _ => none

def eo_panic (P : Program) (Γ : Ctx) (tmps : List Value) (h : AH) (x : Operand) : Option ARes :=
 match aeval tmps x with
    | some (.iface t v) => some (.panic (.iface t v) h)
    | _ => none

def evOpS (P : Program) (Γ : Ctx) (Δ : Ctx2) (o : Oper) (tmps : List Value) (h : AH) : Option ARes :=
  match o.op with
  | .move x | .assign x => eo_move P Γ tmps h x
  | .pick c a b => eo_pick P Γ tmps h c a b
  | .alloc e => eo_alloc P Γ tmps h e
  | .box e x => eo_box P Γ tmps h e x
  | .build t ps => eo_build P Γ tmps h t ps
  | .buildSlice t n ps => eo_buildSlice P Γ tmps h t n ps
  | .insert t m k v | .mapUpdate t m k v => eo_insert P Γ tmps h t m k v
  | .load t a => eo_load P Γ tmps h t a
  | .store t a v => eo_store P Γ tmps h t a v
  | .nilCheck x => eo_nilCheck P Γ tmps h x
  | .binOp op t x y _ => eo_binOp P Γ tmps h op t x y
  | .unOp op _ x => eo_unOp P Γ tmps h op x
  | .convert s d x => eo_convert P Γ tmps h s d x
  | .sliceToArrayPointer t x => eo_sliceToArrayPointer P Γ tmps h t x
  | .makeInterface t x => eo_makeInterface P Γ tmps h t x
  | .makeFunc fn xs ys => eo_makeFunc P Γ tmps h fn xs ys
  | .makeMap t none => some (.val (.map (some h.next)) (h.new (.map [] 0)))
  | .makeSlice t l c => eo_makeSlice P Γ tmps h t l c
  | .slice t x lo hi mx => eo_slice P Γ tmps h t x lo hi mx
  | .fieldAddr t x f => eo_fieldAddr P Γ tmps h t x f
  | .field t x f => eo_field P Γ tmps h t x f
  | .indexAddr t x i => eo_indexAddr P Γ tmps h t x i
  | .index t x i => eo_index P Γ tmps h t x i
  | .lookup t m k ok => eo_lookup P Γ tmps h t m k ok
  | .range t x => eo_range P Γ tmps h t x
  | .next it b => eo_next P Γ tmps h it b
  | .entry it => eo_entry P Γ tmps h it
  | .typeAssert x _ asserted ok => eo_typeAssert P Γ tmps h x asserted ok
  | .extract t i => eo_extract P Γ tmps h t i
  | .call c => aCall P Γ Δ c tmps h
  | .defer c => aDefer c tmps h
  | .panic x => eo_panic P Γ tmps h x
  | _ => none

theorem evOpS_eq (o : Oper) (tmps : List Value) (h : AH) : evOpS P Γ Δ o tmps h = evOp P Γ Δ o tmps h := by
  obtain ⟨dst, op, type, pos, after, guard⟩ := o
  cases op <;> first | rfl | (rename_i t r; cases r <;> rfl)
end
end
end Go.Abs
