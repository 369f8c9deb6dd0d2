/- Go's operations on Lean's data, in a form that the kernel reckons fast; what each is. -/
import Derived.Test.YtglnokfcjnnepaaDoorBVmSim
namespace Go.Vm
open Go

/-- The greatest number of a kind. -/
def topN : IntKind → Nat
  | .i8 => 127 | .i16 => 32767 | .i32 => 2147483647 | .i64 => 9223372036854775807
  | .u8 => 255 | .u16 => 65535 | .u32 => 4294967295 | .u64 => 18446744073709551615
def wr (k : IntKind) (n : Int) : Int := match n with
  | .ofNat m => bif Nat.ble m (topN k) then .ofNat m else k.wrap n
  | .negSucc m => bif k.signed && Nat.ble m (topN k) then .negSucc m else k.wrap n
theorem wr_eq (k : IntKind) (n : Int) : wr k n = k.wrap n := by
  have hin : ∀ n : Int, (if k.signed then -(topN k : Int) - 1 else 0) ≤ n → n ≤ topN k → k.wrap n = n := by
    intro n h1 h2
    cases k <;> simp [IntKind.wrap, IntKind.bits, IntKind.signed, topN] at * <;> omega
  unfold wr
  split
  · rename_i m
    cases h : Nat.ble m (topN k) with
    | false => rfl
    | true =>
      have := Nat.le_of_ble_eq_true h
      have e : (Int.ofNat m) = (m : Int) := rfl
      rw [e]
      exact (hin m (by split <;> omega) (by omega)).symm
  · rename_i m
    cases h : (k.signed && Nat.ble m (topN k)) with
    | false => rfl
    | true =>
      simp only [Bool.and_eq_true] at h
      have := Nat.le_of_ble_eq_true h.2
      exact (hin (.negSucc m) (by rw [if_pos h.1]; omega) (by omega)).symm
def addI (k : IntKind) (a b : Int) : Int := wr k (Int.add a b)
def subI (k : IntKind) (a b : Int) : Int := wr k (Int.sub a b)
def mulI (k : IntKind) (a b : Int) : Int := wr k (Int.mul a b)
def quoI (k : IntKind) (a b : Int) : Int := wr k (Int.tdiv a b)
theorem addI_eq (k : IntKind) (a b : Int) : addI k a b = k.wrap (a + b) := wr_eq k (a + b)
theorem subI_eq (k : IntKind) (a b : Int) : subI k a b = k.wrap (a - b) := wr_eq k (a - b)
theorem mulI_eq (k : IntKind) (a b : Int) : mulI k a b = k.wrap (a * b) := wr_eq k (a * b)
theorem quoI_eq (k : IntKind) (a b : Int) : quoI k a b = k.wrap (a.tdiv b) := wr_eq k (a.tdiv b)
def ltI (a b : Int) : Bool := match a, b with
  | .ofNat m, .ofNat n => Nat.blt m n
  | .negSucc m, .negSucc n => Nat.blt n m
  | .negSucc _, .ofNat _ => true
  | .ofNat _, .negSucc _ => false
theorem ltI_eq (a b : Int) : ltI a b = decide (a < b) := by
  unfold ltI
  split
  · rename_i m n
    rw [Bool.eq_iff_iff, decide_eq_true_eq]
    show Nat.blt m n = true ↔ _
    rw [Nat.blt_eq]; exact Int.ofNat_lt.symm
  · rename_i m n
    rw [Bool.eq_iff_iff, decide_eq_true_eq, Nat.blt_eq]; omega
  · simp; omega
  · simp; omega
def leI (a b : Int) : Bool := match a, b with
  | .ofNat m, .ofNat n => Nat.ble m n
  | .negSucc m, .negSucc n => Nat.ble n m
  | .negSucc _, .ofNat _ => true
  | .ofNat _, .negSucc _ => false
theorem leI_eq (a b : Int) : leI a b = decide (a ≤ b) := by
  unfold leI
  split
  · rename_i m n
    rw [Bool.eq_iff_iff, decide_eq_true_eq, Nat.ble_eq]; exact Int.ofNat_le.symm
  · rename_i m n
    rw [Bool.eq_iff_iff, decide_eq_true_eq, Nat.ble_eq]; omega
  · simp; omega
  · simp; omega
def eqI (a b : Int) : Bool := match a, b with
  | .ofNat m, .ofNat n => Nat.beq m n
  | .negSucc m, .negSucc n => Nat.beq m n
  | _, _ => false
theorem eqI_eq (a b : Int) : eqI a b = (a == b) := by
  unfold eqI
  split
  · rename_i m n
    rw [Bool.eq_iff_iff, beq_iff_eq, Nat.beq_eq]; simp; omega
  · rename_i m n
    rw [Bool.eq_iff_iff, beq_iff_eq, Nat.beq_eq]; simp
  · rename_i h1 h2
    symm
    rw [beq_eq_false_iff_ne]
    rintro rfl
    cases a with
    | ofNat m => exact h1 m m rfl rfl
    | negSucc m => exact h2 m m rfl rfl
/-- Texts compared. -/
def eqS : List UInt8 → List UInt8 → Bool
  | [], [] => true
  | a :: x, b :: y => bif Nat.beq a.toNat b.toNat then eqS x y else false
  | _, _ => false
theorem eqS_eq : ∀ a b : List UInt8, eqS a b = (a == b)
  | [], [] => rfl
  | [], _ :: _ => rfl
  | _ :: _, [] => rfl
  | a :: x, b :: y => by
    simp only [eqS, eqS_eq x y]
    have : Nat.beq a.toNat b.toNat = (a == b) := by
      rw [Bool.eq_iff_iff, Nat.beq_eq, beq_iff_eq]
      exact UInt8.toNat_inj
    rw [this]
    cases h : a == b <;> simp [h, List.cons_beq_cons]
def ltS (a b : List UInt8) : Bool := Op.bytesLess a b

/-- An element, a byte. -/
def getL {α : Type} (l : List α) (i : Int) : Option α := match i with
  | .ofNat n => l[n]?
  | .negSucc _ => none
def idxS (l : List UInt8) (i : Int) : Option Int := match i with
  | .ofNat n => match l[n]? with
    | some b => some (Int.ofNat b.toNat)
    | none => none
  | .negSucc _ => none
def lenL {α : Type} (l : List α) : Int := Int.ofNat l.length
/-- A piece of a list. -/
def cutL {α : Type} (l : List α) (lo hi : Int) : Option (List α) := match lo, hi with
  | .ofNat a, .ofNat b => bif Nat.ble a b && Nat.ble b l.length then some ((l.take b).drop a) else none
  | _, _ => none
theorem getL_some {α : Type} {l : List α} {i : Int} {x : α} (h : getL l i = some x) : 0 ≤ i ∧ l[i.toNat]? = some x := by
  unfold getL at h
  split at h
  · exact ⟨Int.natCast_nonneg _, h⟩
  · cases h
theorem getL_nat {α : Type} (l : List α) (n : Nat) : getL l (n : Int) = l[n]? := rfl
theorem idxS_some {l : List UInt8} {i x : Int} (h : idxS l i = some x) : ∃ (n : Nat) (b : UInt8), i = n ∧ l[n]? = some b ∧ x = b.toNat := by
  unfold idxS at h
  split at h
  · rename_i n
    split at h
    · rename_i b hb
      simp only [Option.some.injEq] at h
      exact ⟨n, b, rfl, hb, h.symm⟩
    · cases h
  · cases h
theorem idxS_nat {l : List UInt8} {n : Nat} {b : UInt8} (h : l[n]? = some b) : idxS l (n : Int) = some (b.toNat : Int) := by
  show (match l[n]? with | some b => some (Int.ofNat b.toNat) | none => none) = _
  rw [h]; rfl
theorem cutL_some {α : Type} {l r : List α} {lo hi : Int} (h : cutL l lo hi = some r) : ∃ a b : Nat, lo = a ∧ hi = b ∧ a ≤ b ∧ b ≤ l.length ∧ r = (l.take b).drop a := by
  unfold cutL at h
  split at h
  · rename_i a b
    cases hc : (Nat.ble a b && Nat.ble b l.length) with
    | false => rw [hc] at h; cases h
    | true =>
      rw [hc] at h
      simp only [Bool.and_eq_true] at hc
      simp only [cond_true, Option.some.injEq] at h
      exact ⟨a, b, rfl, rfl, Nat.le_of_ble_eq_true hc.1, Nat.le_of_ble_eq_true hc.2, h.symm⟩
  · cases h
theorem cutL_nat {α : Type} {l : List α} {a b : Nat} (h1 : a ≤ b) (h2 : b ≤ l.length) : cutL l (a : Int) (b : Int) = some ((l.take b).drop a) := by
  show (bif Nat.ble a b && Nat.ble b l.length then _ else _) = _
  have e1 : Nat.ble a b = true := Nat.ble_eq ▸ h1
  have e2 : Nat.ble b l.length = true := Nat.ble_eq ▸ h2
  rw [e1, e2]; rfl

/-- One after the other. -/
def obind {α β : Type} (o : Option α) (k : α → Option β) : Option β := match o with
  | some x => k x
  | none => none
theorem obind_some {α β : Type} {o : Option α} {k : α → Option β} {r : β} (h : obind o k = some r) : ∃ x, o = some x ∧ k x = some r := by
  cases o with
  | none => cases h
  | some x => exact ⟨x, rfl, h⟩
theorem cond_some {α : Type} {b : Bool} {x y : Option α} {r : α} (h : cond b x y = some r) : (b = true ∧ x = some r) ∨ (b = false ∧ y = some r) := by
  cases b with
  | true => exact .inl ⟨rfl, h⟩
  | false => exact .inr ⟨rfl, h⟩
/-- A loop's outcome: the function returns; the loop is left, by one of its ways. -/
inductive LO (R X : Type) where
  | ret (r : R)
  | out (x : X)
end Go.Vm
