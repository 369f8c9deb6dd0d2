/- Data that are the same: a test, for runs that have no symbols. -/
import Derived.Test.YtglnokfcjnnepaaDoorBVmW
namespace Go.Vm
open Go Go.RowKit

def vbeq : Value → Value → Bool
  | .int k a, .int k' b => decide (k = k') && a == b
  | .string a, .string b => a.data.toList == b.data.toList
  | .bool a, .bool b => a == b
  | .pointer none, .pointer none => true
  | .nilFunc, .nilFunc => true
  | .nilIface, .nilIface => true
  | _, _ => false
theorem vbeq_eq {a b : Value} (h : vbeq a b = true) : a = b := by
  unfold vbeq at h
  split at h
  · simp only [Bool.and_eq_true, decide_eq_true_eq, beq_iff_eq] at h
    rw [h.1, h.2]
  · rename_i a b
    obtain ⟨⟨a⟩⟩ := a
    obtain ⟨⟨b⟩⟩ := b
    simp only [beq_iff_eq] at h
    rw [h]
  · simp only [beq_iff_eq] at h
    rw [h]
  · rfl
  · rfl
  · rfl
  · cases h
mutual
def dbeq : D → D → Bool
  | .sc a, .sc b => vbeq a b
  | .agg a, .agg b => dbeqL a b
  | .tup a, .tup b => dbeqL a b
  | .sl a, .sl b => dbeqR a b
  | .nil, .nil => true
  | _, _ => false
def dbeqL : List D → List D → Bool
  | [], [] => true
  | x :: xs, y :: ys => dbeq x y && dbeqL xs ys
  | _, _ => false
def dbeqR : List (List D) → List (List D) → Bool
  | [], [] => true
  | x :: xs, y :: ys => dbeqL x y && dbeqR xs ys
  | _, _ => false
end
mutual
theorem dbeq_eq : (a b : D) → dbeq a b = true → a = b
  | .sc a, .sc b, h => by simp only [dbeq] at h; rw [vbeq_eq h]
  | .agg a, .agg b, h => by simp only [dbeq] at h; rw [dbeqL_eq a b h]
  | .tup a, .tup b, h => by simp only [dbeq] at h; rw [dbeqL_eq a b h]
  | .sl a, .sl b, h => by simp only [dbeq] at h; rw [dbeqR_eq a b h]
  | .nil, .nil, _ => rfl
  | .sc _, .agg _, h | .sc _, .tup _, h | .sc _, .sl _, h | .sc _, .nil, h | .sc _, .fn .., h | .agg _, .sc _, h | .agg _, .tup _, h | .agg _, .sl _, h | .agg _, .nil, h | .agg _, .fn .., h
  | .tup _, .sc _, h | .tup _, .agg _, h | .tup _, .sl _, h | .tup _, .nil, h | .tup _, .fn .., h | .sl _, .sc _, h | .sl _, .agg _, h | .sl _, .tup _, h | .sl _, .nil, h | .sl _, .fn .., h
  | .nil, .sc _, h | .nil, .agg _, h | .nil, .tup _, h | .nil, .sl _, h | .nil, .fn .., h | .fn .., .sc _, h | .fn .., .agg _, h | .fn .., .tup _, h | .fn .., .sl _, h | .fn .., .nil, h | .fn .., .fn .., h => by simp [dbeq] at h
theorem dbeqL_eq : (a b : List D) → dbeqL a b = true → a = b
  | [], [], _ => rfl
  | x :: xs, y :: ys, h => by
    simp only [dbeqL, Bool.and_eq_true] at h
    rw [dbeq_eq x y h.1, dbeqL_eq xs ys h.2]
  | [], _ :: _, h | _ :: _, [], h => by simp [dbeqL] at h
theorem dbeqR_eq : (a b : List (List D)) → dbeqR a b = true → a = b
  | [], [], _ => rfl
  | x :: xs, y :: ys, h => by
    simp only [dbeqR, Bool.and_eq_true] at h
    rw [dbeqL_eq x y h.1, dbeqR_eq xs ys h.2]
  | [], _ :: _, h | _ :: _, [], h => by simp [dbeqR] at h
end
def yields (r : Option D) (d : D) : Bool := match r with
  | some x => dbeq x d
  | none => false
theorem yields_eq {r : Option D} {d : D} (h : yields r d = true) : r = some d := by
  unfold yields at h
  split at h
  · rw [dbeq_eq _ _ h]
  · cases h
end Go.Vm
