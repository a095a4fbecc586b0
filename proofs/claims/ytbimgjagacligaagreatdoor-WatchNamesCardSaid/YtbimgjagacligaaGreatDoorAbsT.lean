/- A part of the abstract machine: an evaluator of the model's code over an abstract heap, proved sound against the model's walks (Calls, wp). No condition beyond each theorem's own premises. -/
import Derived.Test.YtbimgjagacligaaGreatDoorAbsK
set_option linter.unusedVariables false
set_option linter.unusedSimpArgs false
namespace Go.Abs
open Go Go.RowKit
noncomputable section

/-! #### equal tables -/
section
variable {α : Type}
def tNone (p : Nat → Bool) : T α → Bool
  | .leaf => true
  | .node l v r => (match v with
    | some _ => p 0
    | none => true) && tNone (fun k => p (2 * k + 1)) l && tNone (fun k => p (2 * k + 2)) r
/-- the second holds what the first holds; what it holds beyond lies where p says so -/
def tSub (f : α → α → Bool) (p : Nat → Bool) : T α → T α → Bool
  | .leaf, t => tNone p t
  | .node l v r, .leaf => (match v with
    | some _ => false
    | none => true) && tSub f (fun k => p (2 * k + 1)) l .leaf && tSub f (fun k => p (2 * k + 2)) r .leaf
  | .node l v r, .node l' v' r' => (match v, v' with
    | some x, some y => f x y
    | some _, none => false
    | none, some _ => p 0
    | none, none => true) && tSub f (fun k => p (2 * k + 1)) l l' && tSub f (fun k => p (2 * k + 2)) r r'

theorem T.get_zero (l : T α) (v : Option α) (r : T α) : (T.node l v r).get 0 = v := rfl
theorem T.get_left (l : T α) (v : Option α) (r : T α) (k : Nat) : (T.node l v r).get (2 * k + 1) = l.get k := by
  show (match (2 * k) % 2 with | 0 => l.get ((2 * k) / 2) | _ => r.get ((2 * k) / 2)) = _
  have h1 : (2 * k) % 2 = 0 := by omega
  have h2 : (2 * k) / 2 = k := by omega
  rw [h1, h2]; rfl
theorem T.get_right (l : T α) (v : Option α) (r : T α) (k : Nat) : (T.node l v r).get (2 * k + 2) = r.get k := by
  show (match (2 * k + 1) % 2 with | 0 => l.get ((2 * k + 1) / 2) | _ => r.get ((2 * k + 1) / 2)) = _
  have h1 : (2 * k + 1) % 2 = 1 := by omega
  have h2 : (2 * k + 1) / 2 = k := by omega
  rw [h1, h2]; rfl
theorem T.get_leaf (k : Nat) : (T.leaf : T α).get k = none := by cases k <;> rfl
theorem nat3 (k : Nat) : k = 0 ∨ (∃ m, k = 2 * m + 1) ∨ ∃ m, k = 2 * m + 2 := by
  rcases k with _ | k
  · exact .inl rfl
  · rcases Nat.mod_two_eq_zero_or_one k with e | e
    · exact .inr (.inl ⟨k / 2, by omega⟩)
    · exact .inr (.inr ⟨k / 2, by omega⟩)

theorem tNone_ok : ∀ (t : T α) (p : Nat → Bool), tNone p t = true → ∀ k x, t.get k = some x → p k = true
  | .leaf, p, _, k, x, h => by rw [T.get_leaf] at h; cases h
  | .node l v r, p, hn, k, x, h => by
    simp only [tNone, Bool.and_eq_true] at hn
    rcases nat3 k with rfl | ⟨m, rfl⟩ | ⟨m, rfl⟩
    · rw [T.get_zero] at h; subst h; exact hn.1.1
    · rw [T.get_left] at h; exact tNone_ok l _ hn.1.2 m x h
    · rw [T.get_right] at h; exact tNone_ok r _ hn.2 m x h

theorem tSub_ok {f : α → α → Bool} (hf : ∀ x y, f x y = true → x = y) : ∀ (t u : T α) (p : Nat → Bool), tSub f p t u = true → ∀ k, t.get k = u.get k ∨ (t.get k = none ∧ p k = true)
  | .leaf, u, p, hs, k => by
    simp only [tSub] at hs
    rw [T.get_leaf]
    cases hu : u.get k with
    | none => exact .inl rfl
    | some x => exact .inr ⟨rfl, tNone_ok u p hs k x hu⟩
  | .node l v r, .leaf, p, hs, k => by
    simp only [tSub, Bool.and_eq_true] at hs
    rw [T.get_leaf]
    have hv : v = none := by cases v with
      | none => rfl
      | some _ => have := hs.1.1; cases this
    rcases nat3 k with rfl | ⟨m, rfl⟩ | ⟨m, rfl⟩
    · rw [T.get_zero, hv]; exact .inl rfl
    · rw [T.get_left]; have := tSub_ok hf l .leaf _ hs.1.2 m; rw [T.get_leaf] at this; exact this
    · rw [T.get_right]; have := tSub_ok hf r .leaf _ hs.2 m; rw [T.get_leaf] at this; exact this
  | .node l v r, .node l' v' r', p, hs, k => by
    simp only [tSub, Bool.and_eq_true] at hs
    rcases nat3 k with rfl | ⟨m, rfl⟩ | ⟨m, rfl⟩
    · rw [T.get_zero, T.get_zero]
      have h1 := hs.1.1
      cases v <;> cases v' <;> simp at h1
      · exact .inl rfl
      · exact .inr ⟨rfl, h1⟩
      · exact .inl (by rw [hf _ _ h1])
    · rw [T.get_left, T.get_left]; exact tSub_ok hf l l' _ hs.1.2 m
    · rw [T.get_right, T.get_right]; exact tSub_ok hf r r' _ hs.2 m
end

def entsSame : List MapEntry → List MapEntry → Bool
  | [], [] => true
  | a :: r, b :: s => vSame 30 a.key b.key && vSame 30 a.val b.val && Nat.beq a.born b.born && entsSame r s
  | _, _ => false
theorem entsSame_eq : ∀ (a b : List MapEntry), entsSame a b = true → a = b
  | [], [], _ => rfl
  | a :: r, b :: s, h => by
    simp only [entsSame, Bool.and_eq_true] at h
    obtain ⟨⟨⟨h1, h2⟩, h3⟩, h4⟩ := h
    have e1 := vSame_eq _ _ _ h1
    have e2 := vSame_eq _ _ _ h2
    have e3 := Nat.eq_of_beq_eq_true h3
    obtain ⟨k, v, n⟩ := a
    obtain ⟨k', v', n'⟩ := b
    simp only at e1 e2 e3
    rw [e1, e2, e3, entsSame_eq r s h4]
  | [], _ :: _, h => by simp [entsSame] at h
  | _ :: _, [], h => by simp [entsSame] at h

def natsSame : List Nat → List Nat → Bool
  | [], [] => true
  | a :: r, b :: s => Nat.beq a b && natsSame r s
  | _, _ => false
theorem natsSame_eq : ∀ (a b : List Nat), natsSame a b = true → a = b
  | [], [], _ => rfl
  | a :: r, b :: s, h => by
    simp only [natsSame, Bool.and_eq_true] at h
    rw [Nat.eq_of_beq_eq_true h.1, natsSame_eq r s h.2]
  | [], _ :: _, h => by simp [natsSame] at h
  | _ :: _, [], h => by simp [natsSame] at h

def aoSame : AO → AO → Bool
  | .cells a e r, .cells a' e' r' => all2 (vSame 30) a a' && Nat.beq e e' && (r == r')
  | .map es c, .map es' c' => entsSame es es' && Nat.beq c c'
  | .mapIter (some m) s l t, .mapIter (some m') s' l' t' => Nat.beq m m' && Nat.beq s s' && natsSame l l' && Nat.beq t t'
  | .mapIter none s l t, .mapIter none s' l' t' => Nat.beq s s' && natsSame l l' && Nat.beq t t'
  | .defd, .defd => true
  | .strIter a p, .strIter b q => a == b && Nat.beq p q
  | _, _ => false
theorem aoSame_eq (a b : AO) (h : aoSame a b = true) : a = b := by
  unfold aoSame at h
  split at h
  · simp only [Bool.and_eq_true, beq_iff_eq] at h
    rw [all2_eq (vSame_eq 30) _ _ h.1.1, Nat.eq_of_beq_eq_true h.1.2, h.2]
  · simp only [Bool.and_eq_true] at h
    rw [entsSame_eq _ _ h.1, Nat.eq_of_beq_eq_true h.2]
  · simp only [Bool.and_eq_true] at h
    rw [Nat.eq_of_beq_eq_true h.1.1.1, Nat.eq_of_beq_eq_true h.1.1.2, natsSame_eq _ _ h.1.2, Nat.eq_of_beq_eq_true h.2]
  · simp only [Bool.and_eq_true] at h
    rw [Nat.eq_of_beq_eq_true h.1.1, natsSame_eq _ _ h.1.2, Nat.eq_of_beq_eq_true h.2]
  · rfl
  · simp only [Bool.and_eq_true] at h
    rw [(MapKept.bytes_beq _ _).1 h.1, Nat.eq_of_beq_eq_true h.2]
  · cases h

/-- a heap beside another -/
def heapSame (h k : AH) : Bool := Nat.beq h.next k.next && tSub aoSame (fun _ => false) h.tbl k.tbl
/-- a heap with some blocks from n on struck -/
def heapCut (n : Nat) (h k : AH) : Bool := Nat.beq h.next k.next && tSub aoSame (fun b => Nat.ble n b) h.tbl k.tbl

theorem heapSame_ok {h k : AH} (e : heapSame h k = true) : h.next = k.next ∧ ∀ b, h.get b = k.get b := by
  simp only [heapSame, Bool.and_eq_true] at e
  refine ⟨Nat.eq_of_beq_eq_true e.1, fun b => ?_⟩
  rcases tSub_ok aoSame_eq _ _ _ e.2 b with x | ⟨_, x⟩
  · exact x
  · cases x
theorem heapCut_ok {n : Nat} {h k : AH} (e : heapCut n h k = true) : h.next = k.next ∧ ∀ b, h.get b = k.get b ∨ (h.get b = none ∧ n ≤ b) := by
  simp only [heapCut, Bool.and_eq_true] at e
  refine ⟨Nat.eq_of_beq_eq_true e.1, fun b => ?_⟩
  rcases tSub_ok aoSame_eq _ _ _ e.2 b with x | ⟨x, y⟩
  · exact .inl x
  · exact .inr ⟨x, Nat.le_of_ble_eq_true y⟩

theorem Sim.sub {w0 : World} {π : Pi} {h k : AH} {w : World} (s : Sim w0 π k w) (hn : h.next = k.next) (hs : ∀ b, h.get b = k.get b ∨ h.get b = none) : Sim w0 π h w := by
  have key : ∀ b o, h.get b = some o → k.get b = some o := by
    intro b o e
    rcases hs b with x | x
    · rw [← x]; exact e
    · rw [x] at e; cases e
  exact ⟨s.below, fun b hb => s.fresh b (by omega), fun b p o hp ho => s.blk b p o hp (key b o ho), fun b b' p p' o o' hp hp' ho ho' => s.sep b b' p p' o o' hp hp' (key _ _ ho) (key _ _ ho')⟩

/-! #### what is known by heart -/
structure Entry where
  f : Nat
  args : List Value
  h0 : AH
  v : Value
  h1 : AH

def EntryOk (P : Program) (NG : Nat) (e : Entry) : Prop :=
  ∀ w0 π w (A : Array Value), Sim w0 π e.h0 w → Glob NG π → VRL π e.args A.toList → Calls P e.f A w (fun x w' => CResR w0 π e.h0 x w' (.ret e.v e.h1))

def Entry.ask (e : Entry) (args : List Value) (h : AH) : Option CRes :=
  match Nat.beq h.next e.h0.next with
  | true => match all2 (vSame 30) args e.args && heapSame h e.h0 with
    | true => some (.ret e.v e.h1)
    | false => none
  | false => none

def askAll (f : Nat) (args : List Value) (h : AH) : List Entry → Option CRes
  | [] => none
  | e :: r => match Nat.beq f e.f with
    | true => match e.ask args h with
      | some x => some x
      | none => askAll f args h r
    | false => askAll f args h r

def withHeart (es : List Entry) (ov : Over) : Over := fun f call args h =>
  match askAll f args h es with
  | some r => some r
  | none => ov f call args h

theorem askAll_ok {P : Program} {NG : Nat} {w0 : World} {f : Nat} {args : List Value} {h : AH} {r : CRes} : ∀ (es : List Entry), (∀ e ∈ es, EntryOk P NG e) → askAll f args h es = some r →
    ∀ π w (A : Array Value), Sim w0 π h w → Glob NG π → VRL π args A.toList → Calls P f A w (fun e w' => CResR w0 π h e w' r)
  | [], _, he => by simp [askAll] at he
  | e :: es, hes, he => by
    have ih := askAll_ok (P := P) (NG := NG) (w0 := w0) (f := f) (args := args) (h := h) (r := r) es (fun e he => hes e (by simp [he]))
    simp only [askAll] at he
    split at he
    case h_2 => exact ih he
    next hf =>
    split at he
    case h_2 => exact ih he
    next x hx =>
    cases he
    intro π w A s gl ha
    unfold Entry.ask at hx
    split at hx
    case h_2 => cases hx
    split at hx
    case h_2 => cases hx
    next hs =>
    cases hx
    simp only [Bool.and_eq_true] at hs
    obtain ⟨h1, h2⟩ := heapSame_ok hs.2
    have ea := all2_eq (vSame_eq 30) _ _ hs.1
    have ef := Nat.eq_of_beq_eq_true hf
    subst ef
    have s' : Sim w0 π e.h0 w := s.sub h1.symm (fun b => .inl (h2 b).symm)
    refine Calls.mono (hes e (by simp) w0 π w A s' gl (ea ▸ ha)) ?_
    rintro x w' ⟨π', V, rfl, hv, y⟩
    exact ⟨π', V, rfl, hv, y.le, y.sim, h1 ▸ y.next, fun b hb hn => by
      obtain ⟨p, q⟩ := y.pend b (h1 ▸ hb) hn
      exact ⟨p, q.trans (h2 b).symm⟩⟩

theorem withHeart_ok {P : Program} {NG : Nat} {w0 : World} {es : List Entry} {ov : Over} (hes : ∀ e ∈ es, EntryOk P NG e) (hov : OvOk P w0 NG ov) : OvOk P w0 NG (withHeart es ov) := by
  intro f call hc args h r he π w A s gl ha
  unfold withHeart at he
  split at he
  · next r' hx => cases he; exact askAll_ok es hes hx π w A s gl ha
  · exact hov f call hc args h r he π w A s gl ha

/-! #### short words for what is laid down -/
noncomputable def rep (n : Nat) (v : Value) (l : List Value) : List Value := Nat.rec l (fun _ ih => v :: ih) n
noncomputable def rl (l : List (Nat × Value)) : List Value := List.rec [] (fun p _ ih => rep p.1 p.2 ih) l
def pB (b o : Nat) : Value := .pointer (some ⟨b, o, none⟩)
def sB (b o n c : Nat) : Value := .slice (some ⟨b, o, none⟩) n c
def mB (b : Nat) : Value := .map (some b)
def i8 (n : Nat) : Value := .int .u8 (Int.ofNat n)
def i6 (n : Nat) : Value := .int .i64 (Int.ofNat n)
def bT : Value := .bool true
def bF : Value := .bool false
def pN : Value := .pointer none
def sN : Value := .slice none 0 0
def mN : Value := .map none
def eS : Value := .string ByteArray.empty
def cC (cs : List Value) (n : Nat) : AO := .cells cs n false
def tL (x : AO) : T AO := .node .leaf (some x) .leaf
def tN (l r : T AO) : T AO := .node l none r
noncomputable def dl (h : AH) (l : List (Nat × Option AO)) (n : Nat) : AH := ⟨List.rec h.tbl (fun p _ ih => T.set ih p.1 p.2) l, n⟩
def fB (f : Nat) (xs ys : Array Value) : Value := .func (.func f) xs ys

theorem heart_nil {P : Program} {NG : Nat} : ∀ e ∈ ([] : List Entry), EntryOk P NG e := fun e h => by cases h
theorem heart_cons {P : Program} {NG : Nat} {e : Entry} {es : List Entry} (h : EntryOk P NG e) (t : ∀ x ∈ es, EntryOk P NG x) : ∀ x ∈ e :: es, EntryOk P NG x := fun x hx => by
  rcases List.mem_cons.1 hx with rfl | hx
  · exact h
  · exact t x hx

/-- has a call come out as it is known? -/
def cameOut (e : Entry) : Option CRes → Bool
  | some (.ret v h) => vSame 30 v e.v && heapCut e.h0.next e.h1 h
  | _ => false

theorem heart_ok {P : Program} {NG : Nat} {B : Tabs} (hT : TabsOk P NG B) {ov : Over} (hov : ∀ w0, OvOk P w0 NG ov) (n m : Nat) {e : Entry} (h : cameOut e (B.run P ov NG n m e.f e.args e.h0) = true) : EntryOk P NG e := by
  intro w0 π w A s gl ha
  unfold cameOut at h
  split at h
  case h_2 => cases h
  next v h1 he =>
  simp only [Bool.and_eq_true] at h
  obtain ⟨c1, c2⟩ := heapCut_ok h.2
  have ev := vSame_eq _ _ _ h.1
  refine Calls.mono (Tabs.run_ok hT (hov w0) n m _ _ _ _ he π w A s gl ha) ?_
  rintro x w' ⟨π', V, rfl, hv, y⟩
  refine ⟨π', V, rfl, ev ▸ hv, y.le, y.sim.sub c1 (fun b => (c2 b).imp id (·.1)), c1 ▸ y.next, fun b hb hn => ?_⟩
  obtain ⟨p, q⟩ := y.pend b hb hn
  refine ⟨p, ?_⟩
  rcases c2 b with x | ⟨_, x⟩
  · exact x.trans q
  · omega
end
end Go.Abs
