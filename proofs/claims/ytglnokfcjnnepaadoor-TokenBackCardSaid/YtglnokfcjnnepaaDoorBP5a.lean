/- Chapter 5: the printed functions' plain laws: numbers, runs of bytes. -/
import Derived.Test.YtglnokfcjnnepaaDoorBG5
namespace Go.Gen
open Go Go.Vm Go.Proofs
set_option maxRecDepth 100000

theorem lt_nat (a b : Nat) : ltI (a : Int) (b : Int) = decide (a < b) := by rw [ltI_eq]; simp
theorem le_nat (a b : Nat) : leI (a : Int) (b : Int) = decide (a ≤ b) := by rw [leI_eq]; simp
theorem eq_nat (a b : Nat) : eqI (a : Int) (b : Int) = decide (a = b) := by
  rw [eqI_eq, Bool.eq_iff_iff, beq_iff_eq, decide_eq_true_eq]; omega
theorem wr_id {n : Int} (h1 : -9223372036854775808 ≤ n) (h2 : n ≤ 9223372036854775807) : wr .i64 n = n := by
  rw [wr_eq]
  simp [IntKind.wrap, IntKind.bits, IntKind.signed]; omega
theorem add_nat {a b : Nat} (h : a + b < 4611686018427387904) : addI .i64 (a : Int) (b : Int) = ((a + b : Nat) : Int) := by
  unfold addI; rw [show Int.add (a : Int) (b : Int) = ((a + b : Nat) : Int) from rfl]; exact wr_id (by omega) (by omega)
theorem add_one {a : Nat} (h : a < 4611686018427387904 - 1) : addI .i64 (a : Int) 1 = ((a + 1 : Nat) : Int) := add_nat (b := 1) (by omega)
theorem sub_nat {a b : Nat} (h : b ≤ a) (h2 : a < 4611686018427387904) : subI .i64 (a : Int) (b : Int) = ((a - b : Nat) : Int) := by
  unfold subI; rw [show Int.sub (a : Int) (b : Int) = (a : Int) - (b : Int) from rfl, show (a : Int) - (b : Int) = ((a - b : Nat) : Int) from by omega]; exact wr_id (by omega) (by omega)
theorem len_nat {α : Type} (l : List α) : lenL l = (l.length : Int) := rfl
theorem ob_some {α β : Type} (x : α) (k : α → Option β) : obind (some x) k = k x := rfl

def isDigit (c : UInt8) : Bool := decide (48 ≤ c.toNat) && decide (c.toNat ≤ 57)
def isLetter (c : UInt8) : Bool := (decide (97 ≤ c.toNat) && decide (c.toNat ≤ 122)) || (decide (65 ≤ c.toNat) && decide (c.toNat ≤ 90)) || decide (c.toNat = 95)
theorem c_lit (c : UInt8) (k : Nat) : eqI (c.toNat : Int) (k : Int) = decide (c.toNat = k) := eq_nat _ _
theorem F54_eq (n : Nat) (c : UInt8) : F54 n (c.toNat : Int) = some (!decide (c.toNat = 10)) := by
  unfold F54; rw [show (10 : Int) = ((10 : Nat) : Int) from rfl, eq_nat]
theorem F32_eq (n : Nat) (c : UInt8) : F32 n (c.toNat : Int) = some (isDigit c) := by
  unfold F32
  rw [show (48 : Int) = ((48 : Nat) : Int) from rfl, show (57 : Int) = ((57 : Nat) : Int) from rfl, le_nat, le_nat]
  unfold isDigit
  cases h : decide (48 ≤ c.toNat) <;> rfl
theorem F35_eq (n : Nat) (c : UInt8) : F35 n (c.toNat : Int) = some (isLetter c) := by
  unfold F35
  rw [show (97 : Int) = ((97 : Nat) : Int) from rfl, show (122 : Int) = ((122 : Nat) : Int) from rfl, show (65 : Int) = ((65 : Nat) : Int) from rfl, show (90 : Int) = ((90 : Nat) : Int) from rfl, show (95 : Int) = ((95 : Nat) : Int) from rfl]
  simp only [le_nat, eq_nat]
  unfold isLetter
  cases h1 : decide (97 ≤ c.toNat) <;> cases h2 : decide (c.toNat ≤ 122) <;> cases h3 : decide (65 ≤ c.toNat) <;> cases h4 : decide (c.toNat ≤ 90) <;> rfl
theorem F36_eq (n : Nat) (c : UInt8) : F36 n (c.toNat : Int) = some (isLetter c || isDigit c) := by
  unfold F36
  rw [F35_eq, F32_eq]
  cases isLetter c <;> rfl

/-- A run of bytes. -/
theorem run_loop {R : Type} (p : UInt8 → Bool) (L : Nat → Int → Option (LO R Int)) (s : List UInt8)
    (hL : ∀ m (i : Nat), i ≤ s.length → L (m + 1) (i : Int) = match s[i]? with | some c => cond (p c) (L m ((i + 1 : Nat) : Int)) (some (.out (i : Int))) | none => some (.out (i : Int))) :
    ∀ m i : Nat, i ≤ s.length → s.length - i < m → L m (i : Int) = some (.out ((i + ((s.drop i).takeWhile p).length : Nat) : Int))
  | 0, i, _, h => by omega
  | m + 1, i, hi, h => by
    rw [hL m i hi]
    by_cases hlt : i < s.length
    · rw [List.getElem?_eq_getElem hlt, List.drop_eq_getElem_cons hlt, List.takeWhile_cons]
      show cond (p s[i]) (L m ((i + 1 : Nat) : Int)) (some (.out (i : Int))) = _
      cases hp : p s[i] with
      | false => simp
      | true =>
        simp only [cond_true, if_true, List.length_cons]
        rw [run_loop p L s hL m (i + 1) hlt (by omega), show i + 1 + (List.takeWhile p (List.drop (i + 1) s)).length = i + ((List.takeWhile p (List.drop (i + 1) s)).length + 1) from by omega]
    · rw [List.getElem?_eq_none (by omega), List.drop_eq_nil_of_le (by omega)]; simp
theorem idx_lt {s : List UInt8} {i : Nat} (h : i < s.length) : idxS s (i : Int) = some (s[i].toNat : Int) := idxS_nat (List.getElem?_eq_getElem h)
theorem take_run (p : UInt8 → Bool) (s : List UInt8) : cutL s 0 (((s.takeWhile p).length : Nat) : Int) = some (s.takeWhile p) := by
  rw [show (0 : Int) = ((0 : Nat) : Int) from rfl, cutL_nat (Nat.zero_le _) (List.takeWhile_prefix p).length_le, List.drop_zero]
  congr 1
  exact (List.prefix_iff_eq_take.1 (List.takeWhile_prefix p)).symm
theorem F33d_eq (n : Nat) (s : List UInt8) (h : s.length < n) (hs : s.length < 1000000) : F33_f32 n s = some (s.takeWhile isDigit) := by
  unfold F33_f32
  have := run_loop isDigit (F33_f32_L0 n s) s (fun m i hi => by
    rw [F33_f32_L0, len_nat, lt_nat]
    by_cases hlt : i < s.length
    · simp only [hlt, decide_true, cond_true, idx_lt hlt, ob_some, F32_eq, List.getElem?_eq_getElem hlt]
      rw [add_one (by omega)]
    · simp only [hlt, decide_false, cond_false, ob_some, List.getElem?_eq_none (Nat.not_lt.1 hlt)]) n 0 (Nat.zero_le _) (by omega)
  rw [show ((0 : Int)) = ((0 : Nat) : Int) from rfl, this, ob_some]
  simp only [List.drop_zero, Nat.zero_add]
  rw [show (((0 : Nat)) : Int) = 0 from rfl, take_run, ob_some]
theorem F33w_eq (n : Nat) (s : List UInt8) (h : s.length < n) (hs : s.length < 1000000) : F33_f36 n s = some (s.takeWhile fun c => isLetter c || isDigit c) := by
  unfold F33_f36
  have := run_loop (fun c => isLetter c || isDigit c) (F33_f36_L0 n s) s (fun m i hi => by
    rw [F33_f36_L0, len_nat, lt_nat]
    by_cases hlt : i < s.length
    · simp only [hlt, decide_true, cond_true, idx_lt hlt, ob_some, F36_eq, List.getElem?_eq_getElem hlt]
      rw [add_one (by omega)]
    · simp only [hlt, decide_false, cond_false, ob_some, List.getElem?_eq_none (Nat.not_lt.1 hlt)]) n 0 (Nat.zero_le _) (by omega)
  rw [show ((0 : Int)) = ((0 : Nat) : Int) from rfl, this, ob_some]
  simp only [List.drop_zero, Nat.zero_add]
  rw [show (((0 : Nat)) : Int) = 0 from rfl, take_run, ob_some]
theorem F33c_eq (n : Nat) (s : List UInt8) (h : s.length < n) (hs : s.length < 1000000) : F33_f54 n s = some (s.takeWhile fun c => !decide (c.toNat = 10)) := by
  unfold F33_f54
  have := run_loop (fun c => !decide (c.toNat = 10)) (F33_f54_L0 n s) s (fun m i hi => by
    rw [F33_f54_L0, len_nat, lt_nat]
    by_cases hlt : i < s.length
    · simp only [hlt, decide_true, cond_true, idx_lt hlt, ob_some, F54_eq, List.getElem?_eq_getElem hlt]
      rw [add_one (by omega)]
    · simp only [hlt, decide_false, cond_false, ob_some, List.getElem?_eq_none (Nat.not_lt.1 hlt)]) n 0 (Nat.zero_le _) (by omega)
  rw [show ((0 : Int)) = ((0 : Nat) : Int) from rfl, this, ob_some]
  simp only [List.drop_zero, Nat.zero_add]
  rw [show (((0 : Nat)) : Int) = 0 from rfl, take_run, ob_some]
/-- A number: told in any case. -/
theorem F34_some (n : Nat) (s : List UInt8) (h : s.length < n) (hs : s.length < 1000000) : ∃ r, F34 n s = some r := by
  have key : ∀ m i : Nat, ∀ a : Int, i ≤ s.length → s.length - i < m → ∃ o, F34_L0 s m ((i : Int), a) = some o := by
    intro m
    induction m with
    | zero => intro i a _ h; omega
    | succ m ih =>
      intro i a hi hm
      rw [F34_L0, len_nat]
      simp only [lt_nat]
      by_cases hlt : i < s.length
      · simp only [hlt, decide_true, cond_true, idx_lt hlt, ob_some, add_one (show i < 4611686018427387904 - 1 by omega)]
        generalize ltI _ a = b1
        generalize ltI 0 (i : Int) = b2
        generalize eqI a 0 = b3
        cases b1 <;> cases b2 <;> cases b3 <;> simp only [cond_true, cond_false, ob_some] <;>
          first | exact ⟨_, rfl⟩ | exact ih (i + 1) _ hlt (by omega)
      · simp only [hlt, decide_false, cond_false]; exact ⟨_, rfl⟩
  obtain ⟨o, ho⟩ := key n 0 0 (Nat.zero_le _) (by omega)
  unfold F34
  rw [show ((0 : Int), (0 : Int)) = ((((0 : Nat)) : Int), (0 : Int)) from rfl, ho, ob_some]
  cases o <;> exact ⟨_, rfl⟩
end Go.Gen
