/- The VM's state: slots, boxes; its tie to a frame and a world; the operations that only yield a value. -/
import Derived.Test.YtglnokfcjnnepaaDoorBVmCells
namespace Go.Vm
open Go Go.RowKit

inductive SV where
  | d (x : D)
  | gl (k : Nat) (T : TypeId) (rows : List (List D))
  | arr (id off n : Nat)
  | ptr (id i off : Nat)
  | rp (rows : List (List D)) (i off : Nat)
  | clo (f : FuncId) (first cap : List SV)
  | tupr (xs : List SV)
  | any
  deriving Inhabited

/-- A block of the VM's own: an array of rows, or a variable's cells. -/
inductive Blk where
  | arr (T : TypeId) (sz : Nat) (rows : List (List D))
  | box (T : TypeId) (cells : List SV)
  deriving Inhabited
def Blk.sz : Blk → Nat
  | .arr _ sz _ => sz
  | .box _ cells => cells.length

/-- Where the blocks lie, what the tags are tied to, what they hold. -/
structure Gh where
  ρ : Nat → Nat
  τ : Nat → Value
  γ : Nat → Option (TypeId × List (List D))

mutual
def SR (g : G) (σ : List Blk) (q : Gh) : SV → Value → Prop
  | .d x, v => CR g x v
  | .gl k T rows, v => v = q.τ k ∧ q.γ k = some (T, rows)
  | .arr id off n, v => ∃ b c, σ[id]? = some b ∧ n ≤ c ∧ v = .slice (some ⟨q.ρ id, off * b.sz, none⟩) n c
  | .ptr id i off, v => ∃ b, σ[id]? = some b ∧ v = .pointer (some ⟨q.ρ id, i * b.sz + off, none⟩)
  | .rp rows i off, v => ∃ b o sz, CRR g b o sz rows ∧ v = .pointer (some ⟨b, o + i * sz + off, none⟩)
  | .clo f first cap, v => ∃ vs us, SRL g σ q first vs ∧ SRL g σ q cap us ∧ v = .func (.func f) ⟨vs⟩ ⟨us⟩
  | .tupr xs, v => ∃ vs, SRL g σ q xs vs ∧ v = .tuple ⟨vs⟩
  | .any, _ => True
def SRL (g : G) (σ : List Blk) (q : Gh) : List SV → List Value → Prop
  | [], vs => vs = []
  | x :: xs, vs => ∃ v us, SR g σ q x v ∧ SRL g σ q xs us ∧ vs = v :: us
end

/-- A list that grows: what its tag is tied to owns its cells. -/
def Tag (P : Program) (B : Nat) (g : G) (σ : List Blk) (q : Gh) (T : TypeId) (rows : List (List D)) (v : Value) : Prop :=
  ∃ vs, g.w.ownsRow B T (szOf P T) v rows.length vs ∧ CRL g rows.flatten vs ∧ (∀ r ∈ rows, r.length = szOf P T) ∧ (∀ u ∈ vs, u.oneCell' = true) ∧
    ∀ b, v.ownBlock = some b → (∀ o, g.S b o ↔ o < rows.length * szOf P T) ∧ ∀ id, id < σ.length → q.ρ id ≠ b

/-- What a block of the VM's is in the world. -/
def BR (g : G) (σ : List Blk) (q : Gh) (vs : List Value) : Blk → Prop
  | .arr _ sz rows => CRL g rows.flatten vs ∧ ∀ r ∈ rows, r.length = sz
  | .box _ cells => SRL g σ q cells vs
def Blk.T : Blk → TypeId
  | .arr T _ _ => T
  | .box T _ => T

/-- Package-level variables that are known, each with its rows. -/
abbrev GTab := Nat → Option (Nat × List (List D))
/-- They hold what is said, and stay. -/
def GOk (Z : GTab) (g : G) : Prop := ∀ k sz rows, Z k = some (sz, rows) → CRR g k 0 sz rows
theorem GOk.mono {Z : GTab} {g g' : G} (hg : g.le g') (h : GOk Z g) : GOk Z g' := fun k sz rows e => CRR.mono hg (h k sz rows e)

structure Inv (P : Program) (Z : GTab) (B : Nat) (fr : List SV) (σ : List Blk) (g : G) (q : Gh) (a : Act) : Prop where
  defers : a.defers = []
  slot : SRL g σ q fr a.tmps.toList
  box : ∀ id b, σ[id]? = some b → ∃ vs, g.w.heap[q.ρ id]? = some (.cells ⟨vs⟩ b.T (0, 0)) ∧ BR g σ q vs b ∧
    (∀ u ∈ vs, u.oneCell' = true) ∧ B ≤ q.ρ id ∧ ∀ o, ¬ g.S (q.ρ id) o
  inj : ∀ i j, i < σ.length → j < σ.length → q.ρ i = q.ρ j → i = j
  tag : ∀ k T rows, q.γ k = some (T, rows) → Tag P B g σ q T rows (q.τ k)
  apart : ∀ k j, k ≠ j → q.γ k ≠ none → q.γ j ≠ none → (q.τ k).ownBlock = none ∨ (q.τ k).ownBlock ≠ (q.τ j).ownBlock
  base : B ≤ g.w.heap.size
  dom : ∀ b o, g.S b o → b < g.w.heap.size
  glob : GOk Z g

theorem SRL.get {g : G} {σ : List Blk} {q : Gh} : ∀ {xs : List SV} {vs : List Value}, SRL g σ q xs vs → ∀ (i : Nat) (x : SV), xs[i]? = some x → ∃ v, vs[i]? = some v ∧ SR g σ q x v
  | [], vs, h, i, x, e => by simp at e
  | y :: ys, vs, ⟨v, us, h1, h2, e0⟩, i, x, e => by
    subst e0
    cases i with
    | zero => simp only [List.getElem?_cons_zero, Option.some.injEq] at e; subst e; exact ⟨v, rfl, h1⟩
    | succ i => simpa using SRL.get h2 i x (by simpa using e)
theorem SRL.length {g : G} {σ : List Blk} {q : Gh} : ∀ {xs : List SV} {vs : List Value}, SRL g σ q xs vs → xs.length = vs.length
  | [], vs, h => by simp only [SRL] at h; subst h; rfl
  | y :: ys, vs, ⟨v, us, h1, h2, e0⟩ => by subst e0; simp [SRL.length h2]
theorem SRL.set {g : G} {σ : List Blk} {q : Gh} : ∀ {xs : List SV} {vs : List Value}, SRL g σ q xs vs → ∀ (i : Nat) {x : SV} {v : Value}, SR g σ q x v → SRL g σ q (xs.set i x) (vs.set i v)
  | [], vs, h, i, x, v, k => by simp only [SRL] at h; subst h; simp [SRL]
  | y :: ys, vs, ⟨u, us, h1, h2, e0⟩, i, x, v, k => by
    subst e0
    cases i with
    | zero => exact ⟨v, us, k, h2, rfl⟩
    | succ i => exact ⟨u, us.set i v, h1, SRL.set h2 i k, rfl⟩
theorem SRL.of {g : G} {σ : List Blk} {q : Gh} : ∀ {xs : List SV} {vs : List Value}, xs.length = vs.length → (∀ (i : Nat) (x : SV) (v : Value), xs[i]? = some x → vs[i]? = some v → SR g σ q x v) → SRL g σ q xs vs
  | [], [], _, _ => rfl
  | [], _ :: _, h, _ => by simp at h
  | _ :: _, [], h, _ => by simp at h
  | x :: xs, v :: vs, h, k => ⟨v, vs, k 0 x v rfl rfl, SRL.of (by simpa using h) (fun i y u hy hu => k (i + 1) y u (by simpa using hy) (by simpa using hu)), rfl⟩
theorem SRL.append {g : G} {σ : List Blk} {q : Gh} : ∀ {xs ys : List SV} {vs us : List Value}, SRL g σ q xs vs → SRL g σ q ys us → SRL g σ q (xs ++ ys) (vs ++ us)
  | [], ys, vs, us, h, k => by simp only [SRL] at h; subst h; simpa using k
  | x :: xs, ys, vs, us, ⟨v, ws, h1, h2, e0⟩, k => by subst e0; exact ⟨v, ws ++ us, h1, SRL.append h2 k, rfl⟩
theorem SRL.take {g : G} {σ : List Blk} {q : Gh} : ∀ {xs : List SV} {vs : List Value}, SRL g σ q xs vs → ∀ (n : Nat), SRL g σ q (xs.take n) (vs.take n)
  | [], vs, h, n => by simp only [SRL] at h; subst h; simp [SRL]
  | x :: xs, vs, ⟨v, ws, h1, h2, e0⟩, n => by
    subst e0
    cases n with
    | zero => simp [SRL]
    | succ n => exact ⟨v, ws.take n, h1, SRL.take h2 n, rfl⟩
theorem SRL.drop {g : G} {σ : List Blk} {q : Gh} : ∀ {xs : List SV} {vs : List Value}, SRL g σ q xs vs → ∀ (n : Nat), SRL g σ q (xs.drop n) (vs.drop n)
  | [], vs, h, n => by simp only [SRL] at h; subst h; simp [SRL]
  | x :: xs, vs, ⟨v, ws, h1, h2, e0⟩, n => by
    subst e0
    cases n with
    | zero => exact ⟨v, ws, h1, h2, rfl⟩
    | succ n => exact SRL.drop h2 n
/-- Data as slots. -/
theorem CRL.toSRL {g : G} {σ : List Blk} {q : Gh} : ∀ {xs : List D} {vs : List Value}, CRL g xs vs → SRL g σ q (xs.map .d) vs
  | _, _, .nil => rfl
  | _, _, .cons _ _ _ _ h k => ⟨_, _, h, CRL.toSRL k, rfl⟩

def opnd (Z : GTab) (fr : List SV) : Operand → Option SV
  | .tmp t => some (fr.getD t (.d (.tup [])))
  | .const v => (ofVF v).map .d
  | .func f => some (.d (.fn f [] []))
  | .global k => (Z k).map fun x => .rp x.2 0 0

theorem opnd_sound {P : Program} {Z : GTab} {B : Nat} {fr : List SV} {σ : List Blk} {g : G} {q : Gh} {a : Act} (hI : Inv P Z B fr σ g q a) {x : Operand} {s : SV}
    (h : opnd Z fr x = some s) : SR g σ q s (a.eval x) := by
  cases x with
  | tmp t =>
    simp only [opnd, Option.some.injEq] at h
    subst h
    show SR g σ q _ (a.tmps.getD t undef)
    have hl := hI.slot.length
    simp only [Array.length_toList] at hl
    by_cases ht : t < fr.length
    · have : fr[t]? = some (fr.getD t (.d (.tup []))) := by simp [List.getD, ht]
      obtain ⟨v, hv, hs⟩ := hI.slot.get t _ this
      have e : a.tmps.getD t undef = v := by
        have : a.tmps[t]? = some v := by simpa using hv
        simp [Array.getD_eq_getD_getElem?, this]
      rw [e]; exact hs
    · have h1 : fr.getD t (.d (.tup [])) = .d (.tup []) := by simp [List.getD, List.getElem?_eq_none (Nat.not_lt.1 ht)]
      have h2 : a.tmps.getD t undef = undef := by simp [Array.getD, ← hl, ht]
      rw [h1, h2]
      exact .tup _ _ .nil
  | const v =>
    simp only [opnd, Option.map_eq_some_iff] at h
    obtain ⟨y, hy, rfl⟩ := h
    exact CR.ofVF g v y hy
  | func f =>
    simp only [opnd, Option.some.injEq] at h
    subst h
    exact .fn _ _ _ _ _ .nil .nil
  | global n =>
    simp only [opnd, Option.map_eq_some_iff] at h
    obtain ⟨⟨sz, rows⟩, hz, rfl⟩ := h
    exact ⟨n, 0, sz, hI.glob n sz rows hz, by simp [Act.eval]⟩

/-- As a datum: a list that grows, as it is now. -/
def datum : SV → Option D
  | .d x => some x
  | .gl _ _ rows => some (.sl rows)
  | _ => none

theorem Tag.crr {P : Program} {B : Nat} {g : G} {σ : List Blk} {q : Gh} {T : TypeId} {rows : List (List D)} {v : Value} (h : Tag P B g σ q T rows v) : CR g (.sl rows) v := by
  obtain ⟨vs, ho, hc, hl, h1, hb⟩ := h
  obtain ⟨hlen, hv⟩ := ho
  rcases hv with ⟨rfl, hn⟩ | ⟨b, cap, cur, rfl, hB, hg, hn, hm, hsz, htake⟩
  · obtain rfl := List.eq_nil_of_length_eq_zero hn
    exact .sl0 _ _
  · refine .sl b 0 cap (szOf P T) rows hn (CRR.of (CRC.of hc ?_ ?_ h1) hl)
    · intro j u hu
      rw [Nat.zero_add, cell_of_row g.w b j cur T (0, 0) hg]
      rw [← htake, List.getElem?_take] at hu
      split at hu
      · simpa using hu
      · cases hu
    · intro j hj
      rw [Nat.zero_add]
      exact ((hb b rfl).1 j).2 (by rw [← hlen]; exact hj)

theorem datum_sound {P : Program} {Z : GTab} {B : Nat} {fr : List SV} {σ : List Blk} {g : G} {q : Gh} {a : Act} (hI : Inv P Z B fr σ g q a) {s : SV} {v : Value} {x : D}
    (hs : SR g σ q s v) (h : datum s = some x) : CR g x v := by
  cases s with
  | d y => simp only [datum, Option.some.injEq] at h; subst h; exact hs
  | gl k T rows =>
    simp only [datum, Option.some.injEq] at h
    subst h
    obtain ⟨rfl, hk⟩ := hs
    exact (hI.tag k T rows hk).crr
  | _ => cases h

/-- As a value without addresses. -/
def valOf : SV → Option Value
  | .d (.sc v) => some v
  | .d x => toV x
  | _ => none
theorem valOf_sound {g : G} {σ : List Blk} {q : Gh} {s : SV} {v u : Value} (hs : SR g σ q s v) (h : valOf s = some u) : v = u := by
  cases s with
  | d x => exact CR.toV x v u hs (by cases x <;> first | exact h | (simp only [valOf] at h; exact h))
  | _ => cases h

def putF (fr : List SV) (dst : Option Tmp) (x : SV) : List SV := match dst with
  | some d => fr.set d x
  | none => fr

theorem Inv.put {P : Program} {Z : GTab} {B : Nat} {fr : List SV} {σ : List Blk} {g : G} {q : Gh} {a : Act} (hI : Inv P Z B fr σ g q a) (dst : Option Tmp) {x : SV} {v : Value}
    (h : SR g σ q x v) : Inv P Z B (putF fr dst x) σ g q (a.put dst v) := by
  cases dst with
  | none => exact hI
  | some d =>
    refine { hI with slot := ?_ }
    simp only [Act.put, Array.toList_setIfInBounds]
    exact hI.slot.set d h
end Go.Vm
