/- A part of the abstract machine: an evaluator of the model's code over an abstract heap, proved sound against the model's walks (Calls, wp). No condition beyond each theorem's own premises. -/
import Derived.Calls
import Derived.Orders
import Derived.Defers
import Derived.Recover
import Derived.Below
namespace Go.Abs
open Go
noncomputable section

/-! ### lists, read and written by the bare recursors: the kernel goes through them faster -/
noncomputable def lget (l : List Value) : Nat → Option Value := List.rec (motive := fun _ => Nat → Option Value) (fun _ => none) (fun x _ ih n => Nat.rec (motive := fun _ => Option Value) (some x) (fun m _ => ih m) n) l
noncomputable def lset (l : List Value) : Nat → Value → List Value := List.rec (motive := fun _ => Nat → Value → List Value) (fun _ _ => []) (fun x xs ih n v => Nat.rec (motive := fun _ => List Value) (v :: xs) (fun m _ => x :: ih m v) n) l
theorem lget_eq : ∀ (l : List Value) (n : Nat), lget l n = l[n]?
  | [], _ => rfl
  | _ :: _, 0 => rfl
  | _ :: l, n + 1 => by
    have := lget_eq l n
    show lget l n = _
    rw [this]; rfl
theorem lset_eq : ∀ (l : List Value) (n : Nat) (v : Value), lset l n v = l.set n v
  | [], _, _ => rfl
  | _ :: _, 0, _ => rfl
  | x :: l, n + 1, v => by
    have := lset_eq l n v
    show x :: lset l n v = _
    rw [this]; rfl


/-! ### a table by numbers, that the kernel can go through -/
inductive T (α : Type) where
  | leaf
  | node (l : T α) (v : Option α) (r : T α)

variable {α : Type}

def T.get : T α → Nat → Option α
  | .leaf, _ => none
  | .node l v r, n =>
    match n with
    | 0 => v
    | m + 1 => match m % 2 with
      | 0 => l.get (m / 2)
      | _ => r.get (m / 2)

def T.setF : Nat → T α → Nat → Option α → T α
  | 0, t, _, _ => t
  | f + 1, t, n, x =>
    match t with
    | .leaf => match n with
      | 0 => .node .leaf x .leaf
      | m + 1 => match m % 2 with
        | 0 => .node (T.setF f .leaf (m / 2) x) none .leaf
        | _ => .node .leaf none (T.setF f .leaf (m / 2) x)
    | .node l v r => match n with
      | 0 => .node l x r
      | m + 1 => match m % 2 with
        | 0 => .node (T.setF f l (m / 2) x) v r
        | _ => .node l v (T.setF f r (m / 2) x)

def T.set (t : T α) (n : Nat) (x : Option α) : T α := T.setF (n + 1) t n x

theorem T.get_setF_same (x : Option α) : ∀ (f : Nat) (t : T α) (n : Nat), n < f → (T.setF f t n x).get n = x := by
  intro f
  induction f with
  | zero => intro t n h; omega
  | succ f ih =>
    intro t n h
    cases t with
    | leaf =>
      cases n with
      | zero => simp [T.setF, T.get]
      | succ m =>
        have h2 : m / 2 < f := by omega
        rcases Nat.mod_two_eq_zero_or_one m with e | e <;> simp [T.setF, T.get, e, ih _ _ h2]
    | node l v r =>
      cases n with
      | zero => simp [T.setF, T.get]
      | succ m =>
        have h2 : m / 2 < f := by omega
        rcases Nat.mod_two_eq_zero_or_one m with e | e <;> simp [T.setF, T.get, e, ih _ _ h2]

theorem T.get_setF_ne (x : Option α) : ∀ (f : Nat) (t : T α) (n k : Nat), n ≠ k → (T.setF f t n x).get k = t.get k := by
  intro f
  induction f with
  | zero => intro t n k _; rfl
  | succ f ih =>
    intro t n k h
    cases t with
    | leaf =>
      cases n with
      | zero =>
        cases k with
        | zero => omega
        | succ q => rcases Nat.mod_two_eq_zero_or_one q with e | e <;> simp [T.setF, T.get, e]
      | succ m =>
        cases k with
        | zero => rcases Nat.mod_two_eq_zero_or_one m with e | e <;> simp [T.setF, T.get, e]
        | succ q =>
          rcases Nat.mod_two_eq_zero_or_one m with e | e <;> rcases Nat.mod_two_eq_zero_or_one q with e' | e' <;> simp [T.setF, T.get, e, e']
          · rw [ih _ _ _ (by omega)]; rfl
          · rw [ih _ _ _ (by omega)]; rfl
    | node l v r =>
      cases n with
      | zero =>
        cases k with
        | zero => omega
        | succ q => rcases Nat.mod_two_eq_zero_or_one q with e | e <;> simp [T.setF, T.get, e]
      | succ m =>
        cases k with
        | zero => rcases Nat.mod_two_eq_zero_or_one m with e | e <;> simp [T.setF, T.get, e]
        | succ q =>
          rcases Nat.mod_two_eq_zero_or_one m with e | e <;> rcases Nat.mod_two_eq_zero_or_one q with e' | e' <;> simp [T.setF, T.get, e, e']
          · exact ih _ _ _ (by omega)
          · exact ih _ _ _ (by omega)

theorem T.get_set_same (t : T α) (n : Nat) (x : Option α) : (t.set n x).get n = x := T.get_setF_same x _ t n (by omega)
theorem T.get_set_ne (t : T α) {n k : Nat} (x : Option α) (h : n ≠ k) : (t.set n x).get k = t.get k := T.get_setF_ne x _ t n k h
theorem T.get_set (t : T α) (n k : Nat) (x : Option α) : (t.set n x).get k = if n = k then x else t.get k := by
  split
  · next h => subst h; exact T.get_set_same t n x
  · next h => exact T.get_set_ne t x h

/-! ### where an abstract block lies -/
structure Spot where
  B : Nat
  base : Nat
  sz : Nat
  esz : Nat

abbrev Pi := Nat → Option Spot

def PLe (π π' : Pi) : Prop := ∀ b p, π b = some p → π' b = some p
theorem PLe.refl (π : Pi) : PLe π π := fun _ _ h => h
theorem PLe.trans {π π' π'' : Pi} (h : PLe π π') (k : PLe π' π'') : PLe π π'' := fun b p e => k b p (h b p e)

def Pi.add (π : Pi) (b : Nat) (p : Spot) : Pi := fun k => if k = b then some p else π k
theorem Pi.add_same (π : Pi) (b : Nat) (p : Spot) : (π.add b p) b = some p := by simp [Pi.add]
theorem Pi.add_ne (π : Pi) {b k : Nat} (p : Spot) (h : k ≠ b) : (π.add b p) k = π k := by simp [Pi.add, h]
theorem PLe.add {π : Pi} {b : Nat} (p : Spot) (h : π b = none) : PLe π (π.add b p) := by
  intro k q hk
  by_cases e : k = b
  · subst e; rw [h] at hk; cases hk
  · rw [Pi.add_ne _ _ e]; exact hk

def isLit : Value → Bool
  | .bool _ | .int _ _ | .float _ _ | .complex _ _ _ | .string _ | .pointer none | .slice none _ _ | .map none | .chan none | .nilFunc | .nilIface => true
  | _ => false

def plainFn : Fn → Bool
  | .yield _ => false
  | _ => true

inductive VR (π : Pi) : Value → Value → Prop
  | lit {v : Value} : isLit v = true → VR π v v
  | ptr {b o : Nat} {p : Spot} : π b = some p → VR π (.pointer (some ⟨b, o, none⟩)) (.pointer (some ⟨p.B, p.base + o, none⟩))
  | slice {b o o' n c c' : Nat} {p : Spot} : π b = some p → (c = 0 ∨ o' = p.base + o) → c ≤ c' → (c' = c ∨ o' + c' * p.esz ≤ p.sz) → n ≤ c → p.base ≤ o' →
      VR π (.slice (some ⟨b, o, none⟩) n c) (.slice (some ⟨p.B, o', none⟩) n c')
  | map {b : Nat} {p : Spot} : π b = some p → VR π (.map (some b)) (.map (some p.B))
  | func {fn : Fn} {xs ys xs' ys' : Array Value} : plainFn fn = true → xs.size = xs'.size → ys.size = ys'.size →
      (∀ (i : Nat) (x x' : Value), xs[i]? = some x → xs'[i]? = some x' → VR π x x') → (∀ (i : Nat) (y y' : Value), ys[i]? = some y → ys'[i]? = some y' → VR π y y') →
      VR π (.func fn xs ys) (.func fn xs' ys')
  | yld {b : Nat} {p : Spot} : π b = some p → VR π (.func (.yield b) #[] #[]) (.func (.yield p.B) #[] #[])
  | iface {t : TypeId} {v v' : Value} : VR π v v' → VR π (.iface t v) (.iface t v')
  | agg {xs xs' : Array Value} : xs.size = xs'.size → (∀ (i : Nat) (x x' : Value), xs[i]? = some x → xs'[i]? = some x' → VR π x x') → VR π (.agg xs) (.agg xs')
  | tuple {xs xs' : Array Value} : xs.size = xs'.size → (∀ (i : Nat) (x x' : Value), xs[i]? = some x → xs'[i]? = some x' → VR π x x') → VR π (.tuple xs) (.tuple xs')

theorem VR.mono {π π' : Pi} (hle : PLe π π') {v v' : Value} (h : VR π v v') : VR π' v v' := by
  induction h with
  | lit h => exact .lit h
  | ptr h => exact .ptr (hle _ _ h)
  | slice h h1 h2 h3 h4 h5 => exact .slice (hle _ _ h) h1 h2 h3 h4 h5
  | map h => exact .map (hle _ _ h)
  | func h h1 h2 _ _ ih1 ih2 => exact .func h h1 h2 ih1 ih2
  | yld h => exact .yld (hle _ _ h)
  | iface _ ih => exact .iface ih
  | agg h _ ih => exact .agg h ih
  | tuple h _ ih => exact .tuple h ih

/-- lists of values, one by one -/
def VRL (π : Pi) (l l' : List Value) : Prop := l.length = l'.length ∧ ∀ (i : Nat) (x x' : Value), l[i]? = some x → l'[i]? = some x' → VR π x x'

theorem VRL.mono {π π' : Pi} (hle : PLe π π') {l l' : List Value} (h : VRL π l l') : VRL π' l l' := ⟨h.1, fun i x x' a b => (h.2 i x x' a b).mono hle⟩
theorem VRL.nil (π : Pi) : VRL π [] [] := ⟨rfl, fun i x x' a => by simp at a⟩
theorem VRL.cons {π : Pi} {x x' : Value} {l l' : List Value} (h : VR π x x') (k : VRL π l l') : VRL π (x :: l) (x' :: l') := by
  refine ⟨by simp [k.1], fun i y y' a b => ?_⟩
  cases i with
  | zero => simp at a b; subst a; subst b; exact h
  | succ i => simp at a b; exact k.2 i y y' a b
theorem VRL.get {π : Pi} {l l' : List Value} (h : VRL π l l') {i : Nat} {x : Value} (e : l[i]? = some x) : ∃ x', l'[i]? = some x' ∧ VR π x x' := by
  have hi : i < l.length := (List.getElem?_eq_some_iff.1 e).1
  have hi' : i < l'.length := h.1 ▸ hi
  exact ⟨l'[i], List.getElem?_eq_getElem hi', h.2 i _ _ e (List.getElem?_eq_getElem hi')⟩
theorem VRL.append {π : Pi} {a a' b b' : List Value} (h : VRL π a a') (k : VRL π b b') : VRL π (a ++ b) (a' ++ b') := by
  refine ⟨by simp [h.1, k.1], fun i x x' e e' => ?_⟩
  by_cases hi : i < a.length
  · rw [List.getElem?_append_left hi] at e
    rw [List.getElem?_append_left (h.1 ▸ hi)] at e'
    exact h.2 i x x' e e'
  · rw [List.getElem?_append_right (by omega)] at e
    rw [List.getElem?_append_right (by have := h.1; omega), ← h.1] at e'
    exact k.2 _ x x' e e'
theorem VRL.take {π : Pi} {a a' : List Value} (h : VRL π a a') (n : Nat) : VRL π (a.take n) (a'.take n) := by
  refine ⟨by simp [h.1], fun i x x' e e' => ?_⟩
  simp only [List.getElem?_take] at e e'
  split at e
  · simp_all; exact h.2 i x x' e e'
  · cases e
theorem VRL.drop {π : Pi} {a a' : List Value} (h : VRL π a a') (n : Nat) : VRL π (a.drop n) (a'.drop n) := by
  refine ⟨by simp [h.1], fun i x x' e e' => ?_⟩
  simp only [List.getElem?_drop] at e e'
  exact h.2 _ x x' e e'

theorem VR.agg_inv {π : Pi} {xs : Array Value} {V : Value} (h : VR π (.agg xs) V) : ∃ ys, V = .agg ys ∧ VRL π xs.toList ys.toList := by
  cases h with
  | lit h => cases h
  | agg h1 h2 => exact ⟨_, rfl, by simpa using h1, fun i x x' a b => h2 i x x' (by simpa using a) (by simpa using b)⟩
theorem VR.tuple_inv {π : Pi} {xs : Array Value} {V : Value} (h : VR π (.tuple xs) V) : ∃ ys, V = .tuple ys ∧ VRL π xs.toList ys.toList := by
  cases h with
  | lit h => cases h
  | tuple h1 h2 => exact ⟨_, rfl, by simpa using h1, fun i x x' a b => h2 i x x' (by simpa using a) (by simpa using b)⟩
theorem VR.agg' {π : Pi} {xs ys : List Value} (h : VRL π xs ys) : VR π (.agg xs.toArray) (.agg ys.toArray) :=
  .agg (by simpa using h.1) fun i x x' a b => h.2 i x x' (by simpa using a) (by simpa using b)
theorem VR.tuple' {π : Pi} {xs ys : List Value} (h : VRL π xs ys) : VR π (.tuple xs.toArray) (.tuple ys.toArray) :=
  .tuple (by simpa using h.1) fun i x x' a b => h.2 i x x' (by simpa using a) (by simpa using b)
theorem VR.iface_inv {π : Pi} {t : TypeId} {v V : Value} (h : VR π (.iface t v) V) : ∃ v', V = .iface t v' ∧ VR π v v' := by
  cases h with
  | lit h => cases h
  | iface h => exact ⟨_, rfl, h⟩
theorem VR.ptr_inv {π : Pi} {a : Addr} {V : Value} (h : VR π (.pointer (some a)) V) : ∃ p, a.spot = none ∧ π a.block = some p ∧ V = .pointer (some ⟨p.B, p.base + a.off, none⟩) := by
  cases h with
  | lit h => cases h
  | ptr h => exact ⟨_, rfl, h, rfl⟩
theorem VR.map_inv {π : Pi} {b : Nat} {V : Value} (h : VR π (.map (some b)) V) : ∃ p, π b = some p ∧ V = .map (some p.B) := by
  cases h with
  | lit h => cases h
  | map h => exact ⟨_, h, rfl⟩
theorem VR.slice_inv {π : Pi} {a : Addr} {n c : Nat} {V : Value} (h : VR π (.slice (some a) n c) V) : ∃ p o' c', a.spot = none ∧ π a.block = some p ∧ V = .slice (some ⟨p.B, o', none⟩) n c' ∧
    (c = 0 ∨ o' = p.base + a.off) ∧ c ≤ c' ∧ (c' = c ∨ o' + c' * p.esz ≤ p.sz) ∧ n ≤ c ∧ p.base ≤ o' := by
  cases h with
  | lit h => cases h
  | slice h h1 h2 h3 h4 h5 => exact ⟨_, _, _, rfl, h, rfl, h1, h2, h3, h4, h5⟩
theorem VR.func_inv {π : Pi} {fn : Fn} {xs ys : Array Value} {V : Value} (hp : plainFn fn = true) (h : VR π (.func fn xs ys) V) : ∃ xs' ys', V = .func fn xs' ys' ∧ plainFn fn = true ∧ VRL π xs.toList xs'.toList ∧ VRL π ys.toList ys'.toList := by
  cases h with
  | lit h => cases h
  | yld h => cases hp
  | func h h1 h2 h3 h4 => exact ⟨_, _, rfl, h, ⟨by simpa using h1, fun i x x' a b => h3 i x x' (by simpa using a) (by simpa using b)⟩, ⟨by simpa using h2, fun i x x' a b => h4 i x x' (by simpa using a) (by simpa using b)⟩⟩
theorem VR.func_some {π : Pi} {fn : Fn} {xs ys : Array Value} {V : Value} (h : VR π (.func fn xs ys) V) : ∃ fn' xs' ys', V = .func fn' xs' ys' := by
  cases h with
  | lit h => cases h
  | yld h => exact ⟨_, _, _, rfl⟩
  | func => exact ⟨_, _, _, rfl⟩
theorem VR.yld_inv {π : Pi} {b : Nat} {xs ys : Array Value} {V : Value} (h : VR π (.func (.yield b) xs ys) V) : ∃ p, π b = some p ∧ xs = #[] ∧ ys = #[] ∧ V = .func (.yield p.B) #[] #[] := by
  cases h with
  | lit h => cases h
  | yld h => exact ⟨_, h, rfl, rfl, rfl⟩
  | func h => cases h
theorem VR.lit_inv {π : Pi} {v V : Value} (hl : isLit v = true) (h : VR π v V) : V = v := by
  cases h <;> first | rfl | cases hl

def oneCell : Value → Bool
  | .agg _ | .tuple _ => false
  | _ => true
theorem VR.oneCell {π : Pi} {v V : Value} (h : VR π v V) : oneCell V = oneCell v := by cases h <;> rfl
theorem VR.cells {π : Pi} {v V : Value} (h : VR π v V) : VRL π v.cells.toList V.cells.toList := by
  cases h with
  | agg h1 h2 => exact ⟨by simpa [Value.cells] using h1, fun i x x' a b => h2 i x x' (by simpa [Value.cells] using a) (by simpa [Value.cells] using b)⟩
  | lit h =>
    cases v <;> first | (cases h; done) | exact VRL.cons (.lit h) (VRL.nil _)
  | ptr h => exact VRL.cons (.ptr h) (VRL.nil _)
  | slice h h1 h2 h3 h4 h5 => exact VRL.cons (.slice h h1 h2 h3 h4 h5) (VRL.nil _)
  | map h => exact VRL.cons (.map h) (VRL.nil _)
  | func h h1 h2 h3 h4 => exact VRL.cons (.func h h1 h2 h3 h4) (VRL.nil _)
  | yld h => exact VRL.cons (.yld h) (VRL.nil _)
  | iface h => exact VRL.cons (.iface h) (VRL.nil _)
  | tuple h h1 => exact VRL.cons (.tuple h h1) (VRL.nil _)

/-- a constant that leads nowhere -/
def constOk : Nat → Value → Bool
  | 0, v => isLit v
  | n + 1, .agg cs => cs.toList.all (constOk n)
  | n + 1, .tuple cs => cs.toList.all (constOk n)
  | n + 1, .iface _ v => constOk n v
  | _, .func fn xs ys => plainFn fn && xs.toList.isEmpty && ys.toList.isEmpty
  | _, v => isLit v
theorem VR.const {π : Pi} : ∀ (n : Nat) (v : Value), constOk n v = true → VR π v v := by
  intro n
  induction n with
  | zero => intro v h; exact .lit (by simpa [constOk] using h)
  | succ n ih =>
    intro v h
    have each : ∀ (cs : Array Value), cs.toList.all (constOk n) = true → ∀ (i : Nat) (x x' : Value), cs[i]? = some x → cs[i]? = some x' → VR π x x' := by
      intro cs hc i x x' a b
      rw [a] at b; cases b
      have : x ∈ cs.toList := by
        rw [← Array.getElem?_toList] at a
        exact List.mem_of_getElem? a
      exact ih x (List.all_eq_true.1 hc x this)
    cases v with
    | agg cs => exact .agg rfl (each cs (by simpa [constOk] using h))
    | tuple cs => exact .tuple rfl (each cs (by simpa [constOk] using h))
    | iface t v => exact .iface (ih v (by simpa [constOk] using h))
    | func fn xs ys =>
      simp [constOk] at h
      obtain ⟨⟨h1, rfl⟩, rfl⟩ := h
      exact .func h1 rfl rfl (fun i x x' a => by simp at a) (fun i x x' a => by simp at a)
    | bool b => exact .lit rfl
    | int k n => exact .lit rfl
    | float k n => exact .lit rfl
    | complex k a b => exact .lit rfl
    | string s => exact .lit rfl
    | pointer a => cases a with | none => exact .lit rfl | some a => simp [constOk, isLit] at h
    | slice a n c => cases a with | none => exact .lit rfl | some a => simp [constOk, isLit] at h
    | map a => cases a with | none => exact .lit rfl | some a => simp [constOk, isLit] at h
    | chan a => cases a with | none => exact .lit rfl | some a => simp [constOk, isLit] at h
    | nilFunc => exact .lit rfl
    | nilIface => exact .lit rfl

end
end Go.Abs
