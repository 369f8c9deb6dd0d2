/- Values with numbered blocks, their tie to the model's values; the heap of such blocks and its tie. -/
import Derived.WalkKit
import Derived.Laws.AppendOwn
namespace Go.N
open Go Go.RowKit

inductive V where
  | sc (v : Value)
  | sl (id off sz len cap : Nat) (ex : Bool)
  | ptr (id off : Nat)
  | mp (id : Nat)
  | clo (f : FuncId) (first cap : List V)
  | yld (l : Nat)
  | ifc (t : TypeId) (v : V)
  | agg (cs : List V)
  | tup (cs : List V)
  | any
  deriving Inhabited

/-- A value without addresses, of one cell. -/
def flat : Value → Bool
  | .bool _ | .int .. | .string _ | .float .. | .complex .. | .nilFunc | .nilIface | .pointer none | .map none | .chan none | .slice none 0 0 => true
  | _ => false

/-- Where a block lies: the model's block, where in it, how many cells that has. -/
structure QE where
  b : Nat
  d : Nat
  n : Nat
abbrev Q := Nat → Option QE

mutual
def R (q : Q) : V → Value → Prop
  | .sc v, u => u = v ∧ flat v = true
  | .sl id off sz len cap ex, u => ∃ e c a, q id = some e ∧ u = .slice (some a) len c ∧ (c ≠ 0 → a = ⟨e.b, e.d + off, none⟩) ∧ len ≤ c ∧ c ≤ maxLen ∧ e.d + off + c * sz ≤ e.n ∧ cap ≤ c ∧ (ex = true → c = cap)
  | .ptr id off, u => ∃ e, q id = some e ∧ u = .pointer (some ⟨e.b, e.d + off, none⟩)
  | .mp id, u => ∃ e, q id = some e ∧ u = .map (some e.b)
  | .clo f a b, u => ∃ vs us, RL q a vs ∧ RL q b us ∧ u = .func (.func f) ⟨vs⟩ ⟨us⟩
  | .yld l, u => ∃ e, q l = some e ∧ u = .func (.yield e.b) #[] #[]
  | .ifc t x, u => ∃ v, R q x v ∧ u = .iface t v
  | .agg xs, u => ∃ vs, RL q xs vs ∧ u = .agg ⟨vs⟩ ∧ ∀ v ∈ vs, v.oneCell' = true
  | .tup xs, u => ∃ vs, RL q xs vs ∧ u = .tuple ⟨vs⟩
  | .any, _ => True
def RL (q : Q) : List V → List Value → Prop
  | [], vs => vs = []
  | x :: xs, vs => ∃ v us, R q x v ∧ RL q xs us ∧ vs = v :: us
end

def Q.le (q q' : Q) : Prop := ∀ id e, q id = some e → q' id = some e
theorem Q.le.refl (q : Q) : q.le q := fun _ _ h => h
theorem Q.le.trans {a b c : Q} (h : a.le b) (k : b.le c) : a.le c := fun id e he => k id e (h id e he)

mutual
theorem R.mono {q q' : Q} (hq : q.le q') : (x : V) → (v : Value) → R q x v → R q' x v
  | .sc _, _, h => h
  | .sl .., _, ⟨e, c, a, h1, h2⟩ => ⟨e, c, a, hq _ _ h1, h2⟩
  | .ptr .., _, ⟨e, h1, h2⟩ => ⟨e, hq _ _ h1, h2⟩
  | .mp _, _, ⟨e, h1, h2⟩ => ⟨e, hq _ _ h1, h2⟩
  | .clo _f a b, _, ⟨vs, us, h1, h2, h3⟩ => ⟨vs, us, RL.mono hq a vs h1, RL.mono hq b us h2, h3⟩
  | .yld _, _, ⟨e, h1, h2⟩ => ⟨e, hq _ _ h1, h2⟩
  | .ifc _t x, _, ⟨v, h1, h2⟩ => ⟨v, R.mono hq x v h1, h2⟩
  | .agg xs, _, ⟨vs, h1, h2⟩ => ⟨vs, RL.mono hq xs vs h1, h2⟩
  | .tup xs, _, ⟨vs, h1, h2⟩ => ⟨vs, RL.mono hq xs vs h1, h2⟩
  | .any, _, _ => trivial
theorem RL.mono {q q' : Q} (hq : q.le q') : (xs : List V) → (vs : List Value) → RL q xs vs → RL q' xs vs
  | [], _, h => h
  | x :: xs, _, ⟨v, us, h1, h2, h3⟩ => ⟨v, us, R.mono hq x v h1, RL.mono hq xs us h2, h3⟩
end

section
variable {q : Q}
theorem RL.length : ∀ {xs : List V} {vs : List Value}, RL q xs vs → xs.length = vs.length
  | [], vs, h => by simp only [RL] at h; subst h; rfl
  | y :: ys, vs, ⟨v, us, h1, h2, e0⟩ => by subst e0; simp [RL.length h2]
theorem RL.get : ∀ {xs : List V} {vs : List Value}, RL q xs vs → ∀ (i : Nat) (x : V), xs[i]? = some x → ∃ v, vs[i]? = some v ∧ R q x v
  | [], vs, h, i, x, e => by simp at e
  | y :: ys, vs, ⟨v, us, h1, h2, e0⟩, i, x, e => by
    subst e0
    cases i with
    | zero => simp only [List.getElem?_cons_zero, Option.some.injEq] at e; subst e; exact ⟨v, rfl, h1⟩
    | succ i => simpa using RL.get h2 i x (by simpa using e)
theorem RL.set : ∀ {xs : List V} {vs : List Value}, RL q xs vs → ∀ (i : Nat) {x : V} {v : Value}, R q x v → RL q (xs.set i x) (vs.set i v)
  | [], vs, h, i, x, v, k => by simp only [RL] at h; subst h; simp [RL]
  | y :: ys, vs, ⟨u, us, h1, h2, e0⟩, i, x, v, k => by
    subst e0
    cases i with
    | zero => exact ⟨v, us, k, h2, rfl⟩
    | succ i => exact ⟨u, us.set i v, h1, RL.set h2 i k, rfl⟩
theorem RL.of : ∀ {xs : List V} {vs : List Value}, xs.length = vs.length → (∀ (i : Nat) (x : V) (v : Value), xs[i]? = some x → vs[i]? = some v → R q x v) → RL q xs vs
  | [], [], _, _ => rfl
  | [], _ :: _, h, _ => by simp at h
  | _ :: _, [], h, _ => by simp at h
  | x :: xs, v :: vs, h, k => ⟨v, vs, k 0 x v rfl rfl, RL.of (by simpa using h) (fun i y u hy hu => k (i + 1) y u (by simpa using hy) (by simpa using hu)), rfl⟩
theorem RL.append : ∀ {xs ys : List V} {vs us : List Value}, RL q xs vs → RL q ys us → RL q (xs ++ ys) (vs ++ us)
  | [], ys, vs, us, h, k => by simp only [RL] at h; subst h; simpa using k
  | x :: xs, ys, vs, us, ⟨v, ws, h1, h2, e0⟩, k => by subst e0; exact ⟨v, ws ++ us, h1, RL.append h2 k, rfl⟩
theorem RL.take : ∀ {xs : List V} {vs : List Value}, RL q xs vs → ∀ (n : Nat), RL q (xs.take n) (vs.take n)
  | [], vs, h, n => by simp only [RL] at h; subst h; simp [RL]
  | x :: xs, vs, ⟨v, ws, h1, h2, e0⟩, n => by
    subst e0
    cases n with
    | zero => simp [RL]
    | succ n => exact ⟨v, ws.take n, h1, RL.take h2 n, rfl⟩
theorem RL.drop : ∀ {xs : List V} {vs : List Value}, RL q xs vs → ∀ (n : Nat), RL q (xs.drop n) (vs.drop n)
  | [], vs, h, n => by simp only [RL] at h; subst h; simp [RL]
  | x :: xs, vs, ⟨v, ws, h1, h2, e0⟩, n => by
    subst e0
    cases n with
    | zero => exact ⟨v, ws, h1, h2, rfl⟩
    | succ n => exact RL.drop h2 n
theorem RL.replicate_any (n : Nat) (v : Value) : RL q (List.replicate n .any) (List.replicate n v) := by
  induction n with
  | zero => rfl
  | succ n ih => exact ⟨v, _, trivial, ih, rfl⟩
end

/-- A tree of blocks. -/
inductive Tr (α : Type) where
  | lf
  | nd (l : Tr α) (o : Option α) (r : Tr α)

namespace Tr
variable {α : Type}
def get : Tr α → Nat → Option α
  | .lf => fun _ => none
  | .nd l o r => fun n => match n with
    | 0 => o
    | k + 1 => bif Nat.beq (k % 2) 0 then l.get (k / 2) else r.get (k / 2)
def left : Tr α → Tr α
  | .lf => .lf
  | .nd l _ _ => l
def right : Tr α → Tr α
  | .lf => .lf
  | .nd _ _ r => r
def top : Tr α → Option α
  | .lf => none
  | .nd _ o _ => o
def put : Nat → Tr α → Nat → Option α → Tr α
  | 0 => fun t _ _ => t
  | f + 1 => fun t n o => match n with
    | 0 => .nd t.left o t.right
    | k + 1 => bif Nat.beq (k % 2) 0 then .nd (put f t.left (k / 2) o) t.top t.right else .nd t.left t.top (put f t.right (k / 2) o)
def set (t : Tr α) (n : Nat) (o : Option α) : Tr α := put (n + 1) t n o

theorem get_zero (t : Tr α) : t.get 0 = t.top := by cases t <;> rfl
theorem get_left (t : Tr α) (k : Nat) (h : k % 2 = 0) : t.get (k + 1) = t.left.get (k / 2) := by cases t <;> simp [get, left, h]
theorem get_right (t : Tr α) (k : Nat) (h : k % 2 ≠ 0) : t.get (k + 1) = t.right.get (k / 2) := by
  cases t with
  | lf => simp [get, right]
  | nd l o r =>
    have h1 : k % 2 = 1 := by omega
    simp only [get, right, h1]; rfl
theorem get_put : ∀ (f : Nat) (t : Tr α) (n : Nat) (o : Option α), n < f → ∀ m, (put f t n o).get m = if m = n then o else t.get m
  | 0, _, _, _, h, _ => by omega
  | f + 1, t, n, o, h, m => by
    cases n with
    | zero =>
      simp only [put]
      cases m with
      | zero => simp [get]
      | succ m =>
        have hz : ¬ (m + 1 = 0) := by omega
        simp only [hz, if_false]
        by_cases hm : m % 2 = 0
        · rw [get_left _ _ hm, get_left _ _ hm]; rfl
        · rw [get_right _ _ hm, get_right _ _ hm]; rfl
    | succ k =>
      simp only [put]
      by_cases hk : k % 2 = 0
      · have hb : (k % 2).beq 0 = true := by rw [Nat.beq_eq]; exact hk
        simp only [hb, cond_true]
        cases m with
        | zero => rw [get_zero, get_zero]; simp [top]
        | succ m =>
          by_cases hm : m % 2 = 0
          · rw [get_left _ _ hm, get_left _ _ hm]
            show (put f t.left (k / 2) o).get (m / 2) = _
            rw [get_put f _ _ _ (by omega)]
            by_cases e : m = k
            · simp [e]
            · rw [if_neg (by omega), if_neg (by omega)]
          · rw [get_right _ _ hm, get_right _ _ hm, if_neg (by intro e; have he : m = k := (by omega); subst he; exact hm hk)]; rfl
      · have hb : (k % 2).beq 0 = false := by
          have h1 : k % 2 = 1 := by omega
          rw [h1]; rfl
        simp only [hb, cond_false]
        cases m with
        | zero => rw [get_zero, get_zero]; simp [top]
        | succ m =>
          by_cases hm : m % 2 = 0
          · rw [get_left _ _ hm, get_left _ _ hm, if_neg (by intro e; have he : m = k := (by omega); subst he; exact hk hm)]; rfl
          · rw [get_right _ _ hm, get_right _ _ hm]
            show (put f t.right (k / 2) o).get (m / 2) = _
            rw [get_put f _ _ _ (by omega)]
            by_cases e : m = k
            · simp [e]
            · rw [if_neg (by omega), if_neg (by omega)]
theorem get_set (t : Tr α) (n : Nat) (o : Option α) (m : Nat) : (t.set n o).get m = if m = n then o else t.get m := get_put (n + 1) t n o (Nat.lt_succ_self n) m
end Tr

/-- A block. -/
inductive Ob where
  | cells (T : TypeId) (cs : List V)
  | ro (T : TypeId) (cs : List V)
  | map (es : List (Value × V × Nat)) (clock : Nat)
  | iter (m : Option Nat) (since : Nat) (seen : List Nat) (last : Nat)
  | loop (st : LoopState) (pd : Option Code) (slots : List V) (ps : List Tmp) (assign body : Code)
  deriving Inhabited

/-- What of the blocks is to be seen. -/
inductive Fl where
  | deny (a b : Nat)
  | only (l : List Nat) (n : Nat)
def memB (n : Nat) : List Nat → Bool
  | [] => false
  | x :: l => Nat.beq x n || memB n l
theorem memB_iff {n : Nat} : ∀ {l : List Nat}, memB n l = true ↔ n ∈ l
  | [] => by simp [memB]
  | x :: l => by
    simp only [memB, Bool.or_eq_true, memB_iff, List.mem_cons, Nat.beq_eq]
    exact or_congr eq_comm Iff.rfl
def Fl.vis : Fl → Nat → Bool
  | .deny a b => fun id => Nat.blt id a || Nat.ble b id
  | .only l n => fun id => Nat.ble n id || memB id l
def Fl.top : Fl → Nat
  | .deny _ b => b
  | .only _ n => n

structure Hp where
  next : Nat
  lim : Nat
  hid : List Fl
  tr : Tr Ob

def vis : List Fl → Nat → Bool
  | [] => fun _ => true
  | f :: l => fun id => bif f.vis id then vis l id else false
def Hp.get (h : Hp) (id : Nat) : Option Ob := bif vis h.hid id then h.tr.get id else none
def Hp.set (h : Hp) (id : Nat) (o : Option Ob) : Hp := ⟨h.next, h.lim, h.hid, h.tr.set id o⟩
def Hp.new (h : Hp) (o : Ob) : Hp := ⟨h.next + 1, h.lim, h.hid, h.tr.set h.next (some o)⟩

theorem Hp.get_set {h : Hp} {id : Nat} (hv : vis h.hid id = true) (o : Option Ob) (m : Nat) : (h.set id o).get m = if m = id then o else h.get m := by
  simp only [Hp.get, Hp.set, Tr.get_set]
  by_cases e : m = id
  · simp [e, hv]
  · simp [e]
theorem Fl.vis_new {f : Fl} {n : Nat} (h : f.top ≤ n) : f.vis n = true := by
  cases f with
  | deny a b => simp only [Fl.vis, Fl.top] at h ⊢; rw [Nat.ble_eq_true_of_le h, Bool.or_true]
  | only l m => simp only [Fl.vis, Fl.top] at h ⊢; rw [Nat.ble_eq_true_of_le h, Bool.true_or]
theorem vis_new : ∀ {l : List Fl} {n m : Nat}, (∀ a ∈ l, a.top ≤ n) → n ≤ m → vis l m = true
  | [], _, _, _, _ => rfl
  | f :: l, n, m, h, hm => by
    have hb : f.top ≤ n := h f (by simp)
    simp only [vis, Fl.vis_new (f := f) (n := m) (by omega), cond_true]
    exact vis_new (fun x hx => h x (by simp [hx])) hm
theorem Hp.get_vis {h : Hp} {id : Nat} {o : Ob} (hg : h.get id = some o) : vis h.hid id = true := by
  simp only [Hp.get] at hg
  cases hv : vis h.hid id with
  | true => rfl
  | false => simp [hv] at hg

theorem Hp.get_tr {h : Hp} {id : Nat} {o : Ob} (hg : h.get id = some o) : h.tr.get id = some o := by
  have hv := Hp.get_vis hg
  simpa [Hp.get, hv] using hg

def EL (q : Q) : List (Value × V × Nat) → List MapEntry → Prop
  | [], es => es = []
  | (k, x, n) :: l, es => ∃ v fs, R q x v ∧ v.oneCell' = v.oneCell' ∧ EL q l fs ∧ es = ⟨k, v, n⟩ :: fs

/-- What a block is in the world. -/
def OT (q : Q) (o : Ob) (e : QE) (x : Option Obj) : Prop := match o with
  | .cells T cs => ∃ vs, x = some (.cells ⟨vs⟩ T (0, 0)) ∧ vs.length = e.n ∧ e.d + cs.length ≤ e.n ∧ RL q cs ((vs.drop e.d).take cs.length) ∧ ∀ u ∈ vs, u.oneCell' = true
  | .ro _ cs => ∃ vs T fz, x = some (.cells ⟨vs⟩ T fz) ∧ vs.length = e.n ∧ e.d + cs.length ≤ e.n ∧ RL q cs ((vs.drop e.d).take cs.length) ∧ ∀ u ∈ vs, u.oneCell' = true
  | .map es clock => ∃ vs, x = some (.map ⟨vs⟩ clock) ∧ EL q es vs
  | .iter none since seen last => e.d = 0 ∧ x = some (.mapIter none since ⟨seen⟩ last)
  | .iter (some m) since seen last => e.d = 0 ∧ ∃ em, q m = some em ∧ x = some (.mapIter (some em.b) since ⟨seen⟩ last)
  | .loop st pd sl ps a b => e.d = 0 ∧ ∃ fn D ts, x = some (.loop { state := st, pending := pd, fn := fn, tmps := ⟨ts⟩, params := ⟨ps⟩, assign := a, body := b, defers := D }) ∧ RL q sl ts

theorem EL.mono {q q' : Q} (hq : q.le q') : ∀ (l : List (Value × V × Nat)) (es : List MapEntry), EL q l es → EL q' l es
  | [], _, h => h
  | (_, x, _) :: l, _, ⟨v, fs, h1, h0, h2, h3⟩ => ⟨v, fs, R.mono hq x v h1, h0, EL.mono hq l fs h2, h3⟩
theorem OT.mono {q q' : Q} (hq : q.le q') {o : Ob} {e : QE} {x : Option Obj} (h : OT q o e x) : OT q' o e x := by
  cases o with
  | cells T cs => obtain ⟨vs, h1, h2, h3, h4, h5⟩ := h; exact ⟨vs, h1, h2, h3, RL.mono hq _ _ h4, h5⟩
  | ro T cs => obtain ⟨vs, T', fz, h1, h2, h3, h4, h5⟩ := h; exact ⟨vs, T', fz, h1, h2, h3, RL.mono hq _ _ h4, h5⟩
  | map es clock => obtain ⟨vs, h1, h2⟩ := h; exact ⟨vs, h1, EL.mono hq _ _ h2⟩
  | iter m since seen last => cases m with
    | none => exact h
    | some m => obtain ⟨h0, em, h1, h2⟩ := h; exact ⟨h0, em, hq _ _ h1, h2⟩
  | loop st pd sl ps a b => obtain ⟨h0, fn, D, ts, h1, h2⟩ := h; exact ⟨h0, fn, D, ts, h1, RL.mono hq _ _ h2⟩

/-- The blocks' tie. -/
structure HG (B : Nat) (q : Q) (g : Nat → Option Ob) (lim : Nat) (w : World) : Prop where
  tie : ∀ id o, g id = some o → ∃ e, q id = some e ∧ OT q o e w.heap[e.b]? ∧ (lim ≤ id → B ≤ e.b)
  inj : ∀ i j o p e f, g i = some o → g j = some p → q i = some e → q j = some f → e.b = f.b → i = j
  dom : ∀ id e, q id = some e → e.b < w.heap.size
  base : B ≤ w.heap.size
/-- The heap's tie. -/
structure HT (B : Nat) (q : Q) (h : Hp) (w : World) : Prop extends HG B q h.get h.lim w where
  hid : ∀ a ∈ h.hid, a.top ≤ h.next
  lim : h.lim ≤ h.next
  wf : ∀ id, h.next ≤ id → h.tr.get id = none
/-- Numbers that are free. -/
def Free (q : Q) (a b : Nat) : Prop := ∀ id, a ≤ id → id < b → q id = none

def NewB (q : Q) (h : Hp) (w : World) (b : Nat) : Prop := w.heap.size ≤ b ∨ ∃ i o f, h.lim ≤ i ∧ h.get i = some o ∧ q i = some f ∧ f.b = b

/-- What is not touched. -/
structure Fr (q : Q) (h : Hp) (w : World) (q' : Q) (h' : Hp) (w' : World) : Prop where
  ext : q.le q'
  win : ∀ id e, q' id = some e → q id = some e ∨ (h.next ≤ id ∧ id < h'.next)
  out : ∀ b, b < w.heap.size → (∀ id o e, h.lim ≤ id → h.get id = some o → q id = some e → e.b ≠ b) → w'.heap[b]? = w.heap[b]?
  size : w.heap.size ≤ w'.heap.size
  os : w'.os = w.os
  tape : w'.tape = w.tape
  output : w'.output = w.output
  next : h.next ≤ h'.next
  lim : h'.lim = h.lim
  hid : h'.hid = h.hid
  old : ∀ id o e, h'.get id = some o → q' id = some e → (∃ p, h.get id = some p ∧ q id = some e) ∨ (h.next ≤ id ∧ id < h'.next ∧ NewB q h w e.b)
  ro : ∀ id, id < h.lim → h'.get id = h.get id
  inv : ∀ id, vis h.hid id = false → h'.tr.get id = h.tr.get id

theorem Fr.refl (q : Q) (h : Hp) (w : World) : Fr q h w q h w :=
  ⟨Q.le.refl q, fun _ _ h => .inl h, fun _ _ _ => rfl, Nat.le_refl _, rfl, rfl, rfl, Nat.le_refl _, rfl, rfl, fun _ o _ h k => .inl ⟨o, h, k⟩, fun _ _ => rfl, fun _ _ => rfl⟩

theorem Fr.trans {q q1 q2 : Q} {h h1 h2 : Hp} {w w1 w2 : World} (a : Fr q h w q1 h1 w1) (b : Fr q1 h1 w1 q2 h2 w2) : Fr q h w q2 h2 w2 where
  ext := a.ext.trans b.ext
  win := fun id e he => by
    have := a.next
    have := b.next
    rcases b.win id e he with h | h
    · rcases a.win id e h with h | h
      · exact .inl h
      · exact .inr ⟨h.1, by omega⟩
    · exact .inr ⟨by omega, h.2⟩
  out := fun x hx hn => by
    rw [b.out x (Nat.lt_of_lt_of_le hx a.size) ?_, a.out x hx hn]
    intro id o e hl ho he
    rw [a.lim] at hl
    rcases a.old id o e ho he with ⟨p, hp, hq⟩ | ⟨_, _, h⟩
    · exact hn id p e hl hp hq
    · rcases h with h | ⟨i, o', f, h1, h2, h3, h4⟩
      · omega
      · rw [← h4]; exact hn i o' f h1 h2 h3
  size := Nat.le_trans a.size b.size
  os := b.os.trans a.os
  tape := b.tape.trans a.tape
  output := b.output.trans a.output
  next := Nat.le_trans a.next b.next
  lim := b.lim.trans a.lim
  hid := b.hid.trans a.hid
  old := fun id o e ho he => by
    have hna := a.next
    have hnb := b.next
    rcases b.old id o e ho he with ⟨p, hp, hq⟩ | ⟨k1, k2, k⟩
    · rcases a.old id p e hp hq with h | ⟨m1, m2, m⟩
      · exact .inl h
      · exact .inr ⟨m1, by omega, m⟩
    · refine .inr ⟨by omega, k2, ?_⟩
      rcases k with k | ⟨i, o', f, k1, k2, k3, k4⟩
      · exact .inl (Nat.le_trans a.size k)
      · rw [a.lim] at k1
        rcases a.old i o' f k2 k3 with ⟨p, hp, hq⟩ | ⟨_, _, m⟩
        · exact .inr ⟨i, p, f, k1, hp, hq, k4⟩
        · rw [← k4]; exact m
  ro := fun id hid => (b.ro id (by rw [a.lim]; exact hid)).trans (a.ro id hid)
  inv := fun id hv => (b.inv id (by rw [a.hid]; exact hv)).trans (a.inv id hv)

/-- The world drawn on. -/
theorem HT.drew {B : Nat} {q : Q} {h : Hp} {w : World} (hT : HT B q h w) (n : Nat) : HT B q h { w with drawn := n } := ⟨⟨hT.tie, hT.inj, hT.dom, hT.base⟩, hT.hid, hT.lim, hT.wf⟩

theorem Hp.tr_new (h : Hp) (o : Ob) (id : Nat) : (h.new o).tr.get id = if id = h.next then some o else h.tr.get id := by
  simp only [Hp.new, Tr.get_set]
theorem Hp.tr_set (h : Hp) (i : Nat) (o : Option Ob) (id : Nat) : (h.set i o).tr.get id = if id = i then o else h.tr.get id := by
  simp only [Hp.set, Tr.get_set]
theorem HT.visNew {B : Nat} {q : Q} {h : Hp} {w : World} (hT : HT B q h w) : vis h.hid h.next = true := vis_new hT.hid (Nat.le_refl _)

/-- A new block. -/
theorem HT.push {B : Nat} {q : Q} {h : Hp} {w : World} (hT : HT B q h w) (hq : q h.next = none) {o : Ob} {x : Obj} {d n : Nat} {w' : World} (hw : w'.heap = w.heap.push x) (hos : w'.os = w.os) (htp : w'.tape = w.tape) (hout : w'.output = w.output)
    (hO : OT q o ⟨w.heap.size, d, n⟩ (some x)) :
    HT B (fun i => if i = h.next then some ⟨w.heap.size, d, n⟩ else q i) (h.new o) w' ∧
    Fr q h w (fun i => if i = h.next then some ⟨w.heap.size, d, n⟩ else q i) (h.new o) w' := by
  have hle : q.le (fun i => if i = h.next then some ⟨w.heap.size, d, n⟩ else q i) := fun id e he => by
    have : id ≠ h.next := by rintro rfl; rw [hq] at he; cases he
    simp only [this, if_false]; exact he
  have hget : ∀ m, (h.new o).get m = if m = h.next then some o else h.get m := fun m => by
    have := Hp.get_set (h := h) (id := h.next) hT.visNew (some o) m
    simpa [Hp.new, Hp.get, Hp.set] using this
  have hlive : h.get h.next = none := by
    cases hg : h.get h.next with
    | none => rfl
    | some p => obtain ⟨e, he, _⟩ := hT.tie _ _ hg; rw [hq] at he; cases he
  have hold : ∀ b, b < w.heap.size → w'.heap[b]? = w.heap[b]? := fun b hb => by rw [hw]; simp [Array.getElem?_push, Nat.ne_of_lt hb]
  have hnew : w'.heap[w.heap.size]? = some x := by rw [hw]; simp
  have hsz : w'.heap.size = w.heap.size + 1 := by rw [hw]; simp
  refine ⟨⟨⟨?_, ?_, ?_, ?_⟩, ?_, ?_, fun i hi => by
      have hi : h.next + 1 ≤ i := hi
      rw [Hp.tr_new, if_neg (by omega)]; exact hT.wf i (by omega)⟩, ⟨hle, ?_, ?_, ?_, hos, htp, hout, ?_, rfl, rfl, ?_, ?_, ?_⟩⟩
  · intro id p hp
    rw [hget] at hp
    by_cases e : id = h.next
    · simp only [e, if_true, Option.some.injEq] at hp
      subst hp
      refine ⟨⟨w.heap.size, d, n⟩, by simp [e], ?_, fun _ => hT.base⟩
      show OT _ _ _ w'.heap[w.heap.size]?
      rw [hnew]
      exact OT.mono hle hO
    · simp only [e, if_false] at hp ⊢
      obtain ⟨f, h1, h2, h3⟩ := hT.tie id p hp
      refine ⟨f, h1, ?_, h3⟩
      rw [hold _ (hT.dom id f h1)]
      exact OT.mono hle h2
  · intro i j o1 o2 e f hi hj he hf hb
    rw [hget] at hi hj
    by_cases ei : i = h.next <;> by_cases ej : j = h.next
    · rw [ei, ej]
    · simp only [ei, ej, if_true, if_false, Option.some.injEq] at he hf
      have := (hT.dom j f hf)
      rw [← hb, ← he] at this
      simp at this
    · simp only [ei, ej, if_true, if_false, Option.some.injEq] at he hf
      have := (hT.dom i e he)
      rw [hb, ← hf] at this
      simp at this
    · simp only [ei, ej, if_false] at hi hj he hf
      exact hT.inj i j o1 o2 e f hi hj he hf hb
  · intro id e he
    by_cases ei : id = h.next
    · simp only [ei, if_true, Option.some.injEq] at he
      subst he
      rw [hsz]; exact Nat.lt_succ_self _
    · simp only [ei, if_false] at he
      have := hT.dom id e he
      omega
  · rw [hsz]; exact Nat.le_trans hT.base (Nat.le_succ _)
  · intro a ha
    exact Nat.le_trans (hT.hid a ha) (Nat.le_succ _)
  · exact Nat.le_trans hT.lim (Nat.le_succ _)
  · intro id e he
    by_cases ei : id = h.next
    · exact .inr ⟨by omega, by show id < h.next + 1; omega⟩
    · simp only [ei, if_false] at he; exact .inl he
  · intro b hb _; exact hold b hb
  · omega
  · exact Nat.le_succ _
  · intro id p e hp he
    rw [hget] at hp
    by_cases ei : id = h.next
    · simp only [ei, if_true, Option.some.injEq] at he
      subst he
      exact .inr ⟨by omega, by show id < h.next + 1; omega, .inl (Nat.le_refl _)⟩
    · simp only [ei, if_false] at hp he
      exact .inl ⟨p, hp, he⟩
  · intro id hid
    have := hT.lim
    rw [hget]
    simp [show id ≠ h.next by omega]
  · intro id hv
    rw [Hp.tr_new, if_neg (by rintro rfl; rw [hT.visNew] at hv; cases hv)]

/-- A block written over. -/
theorem HT.over {B : Nat} {q : Q} {h : Hp} {w : World} (hT : HT B q h w) {id : Nat} {o o' : Ob} {e : QE} (ho : h.get id = some o) (hq : q id = some e) (hl : h.lim ≤ id) {x : Obj} {w' : World}
    (hsame : w'.heap[e.b]? = some x) (hother : ∀ b, b ≠ e.b → w'.heap[b]? = w.heap[b]?) (hsz : w'.heap.size = w.heap.size) (hos : w'.os = w.os) (htp : w'.tape = w.tape) (hout : w'.output = w.output) (hO : OT q o' e (some x)) :
    HT B q (h.set id (some o')) w' ∧ Fr q h w q (h.set id (some o')) w' := by
  have hget : ∀ m, (h.set id (some o')).get m = if m = id then some o' else h.get m := fun m => Hp.get_set (Hp.get_vis ho) _ m
  have key : ∀ m p, (h.set id (some o')).get m = some p → ∃ p', h.get m = some p' := fun m p hp => by
    rw [hget] at hp
    by_cases em : m = id
    · subst em; exact ⟨o, ho⟩
    · simp only [em, if_false] at hp; exact ⟨p, hp⟩
  refine ⟨⟨⟨?_, ?_, ?_, by rw [hsz]; exact hT.base⟩, hT.hid, hT.lim, fun i hi => by
      have hlt : id < h.next := by
        rcases Nat.lt_or_ge id h.next with k | k
        · exact k
        · have := hT.wf id k; rw [Hp.get_tr ho] at this; cases this
      have hi : h.next ≤ i := hi
      rw [Hp.tr_set, if_neg (by omega)]; exact hT.wf i hi⟩, ⟨Q.le.refl q, fun _ _ h => .inl h, ?_, by omega, hos, htp, hout, Nat.le_refl _, rfl, rfl, ?_, ?_, ?_⟩⟩
  · intro i p hp
    rw [hget] at hp
    by_cases ei : i = id
    · subst ei
      simp only [if_true, Option.some.injEq] at hp
      subst hp
      obtain ⟨f, h1, h2, h3⟩ := hT.tie i o ho
      rw [hq] at h1
      cases h1
      exact ⟨e, hq, by rw [hsame]; exact hO, h3⟩
    · simp only [ei, if_false] at hp
      obtain ⟨f, h1, h2, h3⟩ := hT.tie i p hp
      refine ⟨f, h1, ?_, h3⟩
      rw [hother]
      · exact h2
      · intro hbb
        exact ei (hT.inj i id p o f e hp ho h1 hq hbb)
  · intro i j o1 o2 e1 f1 hi hj he hf hbb
    obtain ⟨p1, hp1⟩ := key i o1 hi
    obtain ⟨p2, hp2⟩ := key j o2 hj
    exact hT.inj i j p1 p2 e1 f1 hp1 hp2 he hf hbb
  · intro i f hf
    rw [hsz]; exact hT.dom i f hf
  · intro b _ hn
    exact hother b (fun hbb => hn id o e hl ho hq hbb.symm)
  · intro i p f hp hf
    obtain ⟨p', hp'⟩ := key i p hp
    exact .inl ⟨p', hp', hf⟩
  · intro i hi
    rw [hget]
    simp [show i ≠ id by omega]
  · intro i hv
    rw [Hp.tr_set, if_neg (by rintro rfl; rw [Hp.get_vis ho] at hv; cases hv)]

/-- A block forgotten. -/
theorem HT.drop {B : Nat} {q : Q} {h : Hp} {w : World} (hT : HT B q h w) {id : Nat} {o : Ob} (ho : h.get id = some o) (hl : h.lim ≤ id) :
    HT B q (h.set id none) w ∧ Fr q h w q (h.set id none) w := by
  have hget : ∀ m, (h.set id none).get m = if m = id then none else h.get m := fun m => Hp.get_set (Hp.get_vis ho) _ m
  have key : ∀ m p, (h.set id none).get m = some p → h.get m = some p := fun m p hp => by
    rw [hget] at hp
    by_cases em : m = id
    · subst em; simp at hp
    · simpa only [em, if_false] using hp
  refine ⟨⟨⟨fun i p hp => hT.tie i p (key i p hp), fun i j o1 o2 e f hi hj => hT.inj i j o1 o2 e f (key _ _ hi) (key _ _ hj), hT.dom, hT.base⟩, hT.hid, hT.lim, fun i hi => by
      have hi : h.next ≤ i := hi
      rw [Hp.tr_set]
      split
      · rfl
      · exact hT.wf i hi⟩,
    ⟨Q.le.refl q, fun _ _ h => .inl h, fun _ _ _ => rfl, Nat.le_refl _, rfl, rfl, rfl, Nat.le_refl _, rfl, rfl, fun i p e hp he => .inl ⟨p, key i p hp, he⟩, ?_, ?_⟩⟩
  · intro i hi
    rw [hget]
    simp [show i ≠ id by omega]
  · intro i hv
    rw [Hp.tr_set, if_neg (by rintro rfl; rw [Hp.get_vis ho] at hv; cases hv)]

theorem HT.fr {B : Nat} {q : Q} {h : Hp} {w : World} (_ : HT B q h w) : Fr q h w q h w := Fr.refl q h w
end Go.N
