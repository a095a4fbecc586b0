/- A part of the abstract machine: an evaluator of the model's code over an abstract heap, proved sound against the model's walks (Calls, wp). No condition beyond each theorem's own premises. -/
import Derived.Test.YtbimgjagacligaaGreatDoorAbs2
import Derived.DeepKeys3
namespace Go.Abs
open Go Go.RowKit
noncomputable section

/-! ### types, in short -/
inductive K where
  | bool | int (k : IntKind) | string | ptr (e : TypeId) | slice (e : TypeId) | array (n : Nat) (e : TypeId) | struct (fs : List (Nat × TypeId)) | map (k e : TypeId) | func | iface (any : Bool) | other
  deriving DecidableEq

def kOf : TypeDesc → K
  | .bool => .bool | .int k => .int k | .string => .string | .pointer e => .ptr e | .slice e => .slice e | .array n e => .array n e
  | .struct fs => .struct (fs.toList.map fun f => (f.offset, f.type)) | .map k e => .map k e | .func _ _ _ => .func | .interface ms => .iface ms.isEmpty | _ => .other

def K.agg : K → Bool
  | .array _ _ | .struct _ => true
  | _ => false

structure Ty where
  k : K
  size : Nat
  bytes : Nat
  zero : Value
  /-- all its cells are whole numbers, bools, strings -/
  flat : Bool

structure TyOk (P : Program) (t : TypeId) (i : Ty) : Prop where
  k : ∃ d, P.underlying t = some d ∧ kOf d = i.k
  info : ∃ info, P.info? t = some info ∧ info.size = i.size ∧ info.bytes = i.bytes ∧ info.zero = some i.zero
  zok : constOk 20 i.zero = true
  zsize : i.zero.cells.size = i.size
  zone : ∀ v ∈ i.zero.cells.toList, oneCell v = true
  zagg : i.k.agg = false → oneCell i.zero = true
  zagg' : i.k.agg = true → ∃ cs, i.zero = .agg cs
  flat : i.flat = true → P.eqGuardType P.depth t = false ∧ P.keyTypeAt 100 t = true ∧ P.tiled 100 t = true

structure Ctx where
  ty : Nat → Option Ty
  fn : Nat → Option Func

structure CtxOk (P : Program) (Γ : Ctx) : Prop where
  ty : ∀ t i, Γ.ty t = some i → TyOk P t i
  fn : ∀ f F, Γ.fn f = some F → P.funcs[f]? = some F
  mixed : P.follows .mixedOrders = true

section types
variable {P : Program} {t : TypeId} {i : Ty}
theorem TyOk.slice (h : TyOk P t i) {e : TypeId} (hk : i.k = .slice e) : P.underlying t = some (.slice e) := by
  obtain ⟨d, h1, h2⟩ := h.k
  rw [hk] at h2; cases d <;> simp [kOf] at h2; subst h2; exact h1
theorem TyOk.array (h : TyOk P t i) {n : Nat} {e : TypeId} (hk : i.k = .array n e) : P.underlying t = some (.array n e) := by
  obtain ⟨d, h1, h2⟩ := h.k
  rw [hk] at h2; cases d <;> simp [kOf] at h2; obtain ⟨rfl, rfl⟩ := h2; exact h1
theorem TyOk.map (h : TyOk P t i) {k e : TypeId} (hk : i.k = .map k e) : P.underlying t = some (.map k e) := by
  obtain ⟨d, h1, h2⟩ := h.k
  rw [hk] at h2; cases d <;> simp [kOf] at h2; obtain ⟨rfl, rfl⟩ := h2; exact h1
theorem TyOk.int (h : TyOk P t i) {k : IntKind} (hk : i.k = .int k) : P.underlying t = some (.int k) := by
  obtain ⟨d, h1, h2⟩ := h.k
  rw [hk] at h2; cases d <;> simp [kOf] at h2; subst h2; exact h1
theorem TyOk.string (h : TyOk P t i) (hk : i.k = .string) : P.underlying t = some .string := by
  obtain ⟨d, h1, h2⟩ := h.k
  rw [hk] at h2; cases d <;> simp [kOf] at h2; exact h1
theorem TyOk.bool (h : TyOk P t i) (hk : i.k = .bool) : P.underlying t = some .bool := by
  obtain ⟨d, h1, h2⟩ := h.k
  rw [hk] at h2; cases d <;> simp [kOf] at h2; exact h1
theorem TyOk.ptr (h : TyOk P t i) {e : TypeId} (hk : i.k = .ptr e) : P.underlying t = some (.pointer e) := by
  obtain ⟨d, h1, h2⟩ := h.k
  rw [hk] at h2; cases d <;> simp [kOf] at h2; subst h2; exact h1
theorem TyOk.func (h : TyOk P t i) (hk : i.k = .func) : ∃ a b c, P.underlying t = some (.func a b c) := by
  obtain ⟨d, h1, h2⟩ := h.k
  rw [hk] at h2; cases d <;> simp [kOf] at h2; exact ⟨_, _, _, h1⟩
theorem TyOk.iface (h : TyOk P t i) {b : Bool} (hk : i.k = .iface b) : ∃ ms, P.underlying t = some (.interface ms) ∧ ms.isEmpty = b := by
  obtain ⟨d, h1, h2⟩ := h.k
  rw [hk] at h2; cases d <;> simp [kOf] at h2; exact ⟨_, h1, h2⟩
theorem TyOk.struct (h : TyOk P t i) {fs : List (Nat × TypeId)} (hk : i.k = .struct fs) : ∃ gs : Array Field, P.underlying t = some (.struct gs) ∧ fs = gs.toList.map fun f => (f.offset, f.type) := by
  obtain ⟨d, h1, h2⟩ := h.k
  rw [hk] at h2; cases d <;> simp [kOf] at h2; exact ⟨_, h1, by simpa using h2.symm⟩
theorem TyOk.und (h : TyOk P t i) (w : World) : ∃ d, (underlying t).run P w = .ok d w ∧ P.underlying t = some d ∧ kOf d = i.k := by
  obtain ⟨d, h1, h2⟩ := h.k
  exact ⟨d, run_underlying h1 w, h1, h2⟩
theorem TyOk.run_size (h : TyOk P t i) (w : World) : (sizeOf t).run P w = .ok i.size w := by
  obtain ⟨f, h1, h2, _⟩ := h.info
  simp [sizeOf, typeInfo, h1, h2]
theorem TyOk.run_zero (h : TyOk P t i) (w : World) : (zeroValue t).run P w = .ok i.zero w := by
  obtain ⟨f, h1, _, _, h2⟩ := h.info
  simp [zeroValue, typeInfo, h1, h2]
theorem TyOk.run_info (h : TyOk P t i) (w : World) : ∃ f, (typeInfo t).run P w = .ok f w ∧ f.size = i.size ∧ f.bytes = i.bytes := by
  obtain ⟨f, h1, h2, h3, _⟩ := h.info
  exact ⟨f, by simp [typeInfo, h1], h2, h3⟩
theorem TyOk.run_isAgg (h : TyOk P t i) (w : World) : (isAgg t).run P w = .ok i.k.agg w := by
  obtain ⟨d, h1, h2⟩ := h.k
  rw [← h2]
  cases d <;> simp [isAgg, run_underlying h1, kOf, K.agg]
end types

/-! ### operands -/
def aeval (tmps : List Value) : Operand → Option Value
  | .tmp t => lget tmps t
  | .const v => if constOk 20 v then some v else none
  | .global g => some (.pointer (some ⟨g, 0, none⟩))
  | .func f => some (.func (.func f) #[] #[])

/-- what comes of an operation -/
inductive ARes where
  | val (v : Value) (h : AH)
  | skip (h : AH)
  | enter (f : FuncId) (args : List Value) (h : AH)
  | panic (v : Value) (h : AH)
  | defer (fn : Fn) (cap args : List Value) (h : AH)

def OpOk (w0 : World) (π : Pi) (h : AH) (r : Result Next) : ARes → Prop
  | .val v h' => ∃ π' V w', r = .ok (.value V) w' ∧ VR π' v V ∧ Ext w0 π h π' h' w'
  | .skip h' => ∃ π' w', r = .ok .skip w' ∧ Ext w0 π h π' h' w'
  | .enter f args h' => ∃ π' A w', r = .ok (.enter f A) w' ∧ VRL π' args A.toList ∧ Ext w0 π h π' h' w'
  | .panic v h' => ∃ π' V w', r = .halt (.panic V) w' ∧ VR π' v V ∧ Ext w0 π h π' h' w'
  | .defer fn cap args h' => ∃ π' C A w', r = .ok (.defer { target := .fn fn C, args := A }) w' ∧ plainFn fn = true ∧ VRL π' cap C.toList ∧ VRL π' args A.toList ∧ Ext w0 π h π' h' w'

set_option linter.unusedVariables false
section
variable {P : Program} {Γ : Ctx} {w0 : World} {π : Pi} {h : AH} {w : World}

theorem OpOk.val' (s : Sim w0 π h w) {v V : Value} {e : Sem Value} (hr : e.run P w = .ok V w) (hv : VR π v V) :
    OpOk w0 π h ((do pure (Next.value (← e)) : Sem Next).run P w) (.val v h) :=
  ⟨π, V, w, by simp [hr], hv, Ext.refl s⟩

/-! #### whole numbers, strings, bools -/
def aInt (op : BinOp) (k : IntKind) (x y : Int) : Option Value :=
  match op with
  | .add => some (.int k (k.wrap (x + y)))
  | .sub => some (.int k (k.wrap (x - y)))
  | .mul => some (.int k (k.wrap (x * y)))
  | .quo => if y = 0 then none else some (.int k (k.wrap (x.tdiv y)))
  | .rem => if y = 0 then none else some (.int k (x.tmod y))
  | .and => some (.int k (k.wrap ((BitVec.ofInt k.bits x &&& BitVec.ofInt k.bits y).toNat : Int)))
  | .or => some (.int k (k.wrap ((BitVec.ofInt k.bits x ||| BitVec.ofInt k.bits y).toNat : Int)))
  | .xor => some (.int k (k.wrap ((BitVec.ofInt k.bits x ^^^ BitVec.ofInt k.bits y).toNat : Int)))
  | .andNot => some (.int k (k.wrap ((BitVec.ofInt k.bits x &&& ~~~ BitVec.ofInt k.bits y).toNat : Int)))
  | .eql => some (.bool (x == y))
  | .neq => some (.bool (x != y))
  | .lss => some (.bool (x < y))
  | .leq => some (.bool (x ≤ y))
  | .gtr => some (.bool (x > y))
  | .geq => some (.bool (x ≥ y))
  | _ => none
def aShift (op : BinOp) (k : IntKind) (x y : Int) : Option Value :=
  if y < 0 then none else
  match op with
  | .shl => some (.int k (k.wrap (x * 2 ^ (min y.toNat k.bits))))
  | .shr => some (.int k (x.fdiv (2 ^ (min y.toNat k.bits))))
  | _ => none
def aStr (op : BinOp) (x y : ByteArray) : Option Value :=
  match op with
  | .add => if x.size + y.size ≤ 9223372036854775807 then some (.string (x ++ y)) else none
  | .eql => some (.bool (x.toList == y.toList))
  | .neq => some (.bool (!(x.toList == y.toList)))
  | .lss => some (.bool (Op.bytesLess x.toList y.toList))
  | .leq => some (.bool (Op.bytesLess x.toList y.toList || x.toList == y.toList))
  | .gtr => some (.bool (!(Op.bytesLess x.toList y.toList || x.toList == y.toList)))
  | .geq => some (.bool (!(Op.bytesLess x.toList y.toList)))
  | _ => none

theorem run_aInt {op : BinOp} {k : IntKind} {x y : Int} {v : Value} (h : aInt op k x y = some v) (hs : op ≠ .shl) (hs' : op ≠ .shr) (t : TypeId) : (binOp op t (.int k x) (.int k y)).run P w = .ok v w := by
  cases op <;> simp [aInt] at h <;> first
    | (subst h; simp [binOp, Op.intArith, Op.intBits, Op.intCmp]; done)
    | (obtain ⟨h1, rfl⟩ := h; simp [binOp, Op.intDiv, h1]; done)
    | (exact absurd rfl hs)
    | (exact absurd rfl hs')
theorem run_aShift {op : BinOp} {k yk : IntKind} {x y : Int} {v : Value} (h : aShift op k x y = some v) (t : TypeId) : (binOp op t (.int k x) (.int yk y)).run P w = .ok v w := by
  unfold aShift at h
  split at h
  · cases h
  · next hy =>
    cases op <;> simp at h <;> subst h <;> simp [binOp, Op.shift, hy]
theorem run_aStr {op : BinOp} {x y : ByteArray} {v : Value} (h : aStr op x y = some v) (t : TypeId) : (binOp op t (.string x) (.string y)).run P w = .ok v w := by
  have hm : IntKind.i64.max = 9223372036854775807 := by decide
  cases op <;> simp [aStr] at h <;> first
    | (obtain ⟨h1, rfl⟩ := h; simp [binOp, Op.stringOp, hm]; omega)
    | (subst h; simp [binOp, Op.stringOp]; done)

theorem aInt_lit {op : BinOp} {k : IntKind} {x y : Int} {v : Value} (h : aInt op k x y = some v) : isLit v = true := by
  cases op <;> simp [aInt] at h <;> first | (subst h; rfl) | (obtain ⟨_, rfl⟩ := h; rfl)
theorem aShift_lit {op : BinOp} {k : IntKind} {x y : Int} {v : Value} (h : aShift op k x y = some v) : isLit v = true := by
  unfold aShift at h
  split at h
  · cases h
  · cases op <;> simp at h <;> subst h <;> rfl
theorem aStr_lit {op : BinOp} {x y : ByteArray} {v : Value} (h : aStr op x y = some v) : isLit v = true := by
  cases op <;> simp [aStr] at h <;> first | (subst h; rfl) | (obtain ⟨_, rfl⟩ := h; rfl)

/-- is it nil?, of pointers, slices, maps, functions, interfaces -/
def isNil : K → Value → Option Bool
  | .ptr _, .pointer a => some a.isNone
  | .slice _, .slice a _ _ => some a.isNone
  | .map _ _, .map a => some a.isNone
  | .func, .nilFunc => some true
  | .func, .func _ _ _ => some false
  | .iface _, .nilIface => some true
  | .iface _, .iface _ _ => some false
  | _, _ => none

def nilOf : K → Value → Bool
  | .ptr _, .pointer none => true
  | .slice _, .slice none _ _ => true
  | .map _ _, .map none => true
  | .func, .nilFunc => true
  | .iface true, .nilIface => true
  | _, _ => false

/-- equality, where it is plain -/
def aEq (i : Ty) (x y : Value) : Option Bool :=
  match i.k, x, y with
  | .bool, .bool a, .bool b => some (a == b)
  | k, x, y => if nilOf k x then isNil k y else if nilOf k y then isNil k x else none

theorem eqGuard_none (op : BinOp) (t : TypeId) (x y : Operand) {a b : Value} (h1 : ∀ ms, a ≠ .agg ms) (h2 : a = .nilIface → b = .nilIface → ∃ i ms, P.underlying t = some (.interface ms) ∧ ms.isEmpty = true ∧ i = true) :
    (eqGuard op t x y a b).run P w = .ok () w := by
  have h5 : a = .nilIface → b = .nilIface → (Op.eqGuardIn Op.maxDepth t a b).run P w = .ok false w := by
    intro ha hb
    obtain ⟨_, ms, h3, h4, _⟩ := h2 ha hb
    subst ha; subst hb
    show (Op.eqGuardIn (9999 + 1) t .nilIface .nilIface).run P w = .ok false w
    unfold Op.eqGuardIn
    simp [run_underlying h3, h4]
  cases op <;> first
    | (simp [eqGuard]; done)
    | (simp only [eqGuard, Bool.not_true, Bool.false_eq_true, if_false]
       split
       · split
         · simp
         · simp [h5 rfl rfl]
       · exact absurd rfl (h1 _)
       · simp)

end
end
end Go.Abs
