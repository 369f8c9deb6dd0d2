/- Chapter 5: a place and its position. -/
import Derived.Test.YtglnokfcjnnepaaDoorBP5c
namespace Go.Gen
open Go Go.Vm Go.Proofs
set_option maxRecDepth 100000

theorem appL_eq {α : Type} {b : Nat} {l m : List α} (hb : b ≤ 100) (h : l.length + m.length < 10000000) : appL b l m = some (l ++ m) := by
  unfold appL
  have e : Nat.ble ((l.length + m.length) * b) 140737488355328 = true := by
    rw [Nat.ble_eq]
    have := Nat.mul_le_mul_left (l.length + m.length) hb
    omega
  rw [e]; rfl
theorem F56_eq (n : Nat) (s : List UInt8) : F56 n s [10] = some ((s.count 10 : Nat) : Int) := rfl
def lastNL : List UInt8 → Nat
  | [] => 0
  | c :: l => match lastNL l with
    | 0 => if c.toNat = 10 then 1 else 0
    | j + 1 => j + 2
theorem lastNL_snoc : ∀ (a : List UInt8) (c : UInt8), lastNL (a ++ [c]) = if c.toNat = 10 then a.length + 1 else lastNL a
  | [], c => rfl
  | d :: a, c => by
    rw [List.cons_append, lastNL, lastNL_snoc a c]
    by_cases h : c.toNat = 10
    · simp only [h, if_true, List.length_cons]
    · simp only [h, if_false]; rfl
theorem lastNL_le : ∀ a : List UInt8, lastNL a ≤ a.length
  | [] => Nat.le_refl _
  | c :: a => by
    have := lastNL_le a
    rw [lastNL, List.length_cons]
    split
    · split <;> omega
    · omega
theorem F67_loop (s : List UInt8) (hs : s.length < 1000000) : ∀ (k m : Nat), k ≤ s.length → k < m → F67_L0 s 10 m ((k : Int) - 1) = some (match lastNL (s.take k) with | 0 => .out () | j + 1 => .ret (j : Int))
  | 0, m, _, h => by
    obtain ⟨m, rfl⟩ : ∃ e, m = e + 1 := ⟨m - 1, by omega⟩
    rw [F67_L0]; rfl
  | k + 1, m, hk, h => by
    obtain ⟨m, rfl⟩ : ∃ e, m = e + 1 := ⟨m - 1, by omega⟩
    rw [F67_L0, show (((k + 1 : Nat) : Int)) - 1 = (k : Int) from by omega]
    have hlt : k < s.length := hk
    rw [show (0 : Int) = ((0 : Nat) : Int) from rfl, le_nat]
    simp only [Nat.zero_le, decide_true, cond_true, idx_lt hlt, ob_some]
    rw [show (10 : Int) = ((10 : Nat) : Int) from rfl, eq_nat, List.take_add_one, List.getElem?_eq_getElem hlt, Option.toList_some, lastNL_snoc]
    by_cases h10 : s[k].toNat = 10
    · simp only [h10, decide_true, cond_true, if_true]
      rw [List.length_take, Nat.min_eq_left (by omega)]
    · simp only [h10, decide_false, cond_false, if_false]
      rw [show subI .i64 (k : Int) 1 = (k : Int) - 1 from by unfold subI; exact wr_id (by show _ ≤ (k : Int) - 1; omega) (by show (k : Int) - 1 ≤ _; omega)]
      exact F67_loop s hs k m (by omega) (by omega)
theorem F57_eq (n : Nat) (s : List UInt8) (hn : s.length < n) (hs : s.length < 1000000) : F57 n s [10] = some ((lastNL s : Int) - 1) := by
  have e1 : idxS [10] 0 = some 10 := rfl
  unfold F57 F67
  rw [show eqI (lenL [(10 : UInt8)]) 0 = false from rfl, show eqI (lenL [(10 : UInt8)]) 1 = true from rfl, e1]
  simp only [cond_true, cond_false, ob_some]
  rw [show subI .i64 (lenL s) 1 = (s.length : Int) - 1 from by unfold subI; exact wr_id (by show _ ≤ (s.length : Int) - 1; omega) (by show (s.length : Int) - 1 ≤ _; omega)]
  rw [F67_loop s hs s.length n (Nat.le_refl _) hn, List.take_length, ob_some]
  cases h : lastNL s with
  | zero => rfl
  | succ j => simp only [ob_some]; congr 1; omega
def posOf (s : List UInt8) (p : Nat) : S25 := ⟨(((s.take p).count 10 + 1 : Nat) : Int), ((p - lastNL (s.take p) + 1 : Nat) : Int)⟩
theorem F45_eq (n : Nat) (s : List UInt8) (hn : s.length < n) (hs : s.length < 1000000) (p : Nat) (hp : p ≤ s.length) : F45 n s (p : Int) = some (posOf s p, true) := by
  unfold F45
  rw [show ltI (p : Int) 0 = false from by rw [show (0 : Int) = ((0 : Nat) : Int) from rfl, lt_nat]; simp, len_nat, lt_nat]
  have h1 : ¬ s.length < p := by omega
  have hl := lastNL_le (s.take p)
  have hl2 : (s.take p).length = p := by rw [List.length_take]; omega
  have hc : (s.take p).count 10 ≤ (s.take p).length := List.count_le_length
  simp only [cond_false, h1, decide_false, ob_some]
  rw [show (0 : Int) = ((0 : Nat) : Int) from rfl, cutL_nat (Nat.zero_le _) hp]
  simp only [ob_some, List.drop_zero]
  rw [F56_eq, F57_eq n _ (by omega) (by omega)]
  simp only [ob_some]
  rw [add_one (by omega)]
  unfold posOf
  congr 4
  unfold subI
  rw [wr_id]
  · show (p : Int) - ((lastNL (s.take p) : Int) - 1) = _; omega
  · show _ ≤ (p : Int) - ((lastNL (s.take p) : Int) - 1); omega
  · show (p : Int) - ((lastNL (s.take p) : Int) - 1) ≤ _; omega
theorem ix_none : ∀ {t : List UInt8}, (10 : UInt8) ∉ t → Lib.indexByte t 10 = -1
  | [], _ => rfl
  | c :: t, h => by
    simp only [List.mem_cons, not_or] at h
    rw [Lib.indexByte, ix_none h.2]
    have : (c == 10) = false := by rw [beq_eq_false_iff_ne]; exact fun e => h.1 e.symm
    simp [this]
theorem ix_at : ∀ {a b : List UInt8}, (10 : UInt8) ∉ a → Lib.indexByte (a ++ 10 :: b) 10 = (a.length : Int)
  | [], b, _ => rfl
  | c :: a, b, h => by
    simp only [List.mem_cons, not_or] at h
    rw [List.cons_append, Lib.indexByte, ix_at h.2]
    have : (c == 10) = false := by rw [beq_eq_false_iff_ne]; exact fun e => h.1 e.symm
    have h2 : ((a.length : Int) == -1) = false := by rw [beq_eq_false_iff_ne]; omega
    simp only [this, h2, Bool.false_eq_true, if_false, List.length_cons]
    omega
theorem F69_eq (n : Nat) (t : List UInt8) : F69 n t [10] = some (Lib.indexByte t 10) := by
  unfold F69
  rw [show eqI (lenL [(10 : UInt8)]) 0 = false from rfl, show eqI (lenL [(10 : UInt8)]) 1 = true from rfl]
  simp only [cond_false, cond_true, ob_some]
  cases h : eqS [10] t with
  | true =>
    have := eqS_iff.1 h
    subst this; rfl
  | false => rfl
theorem F46_none (n : Nat) {t : List UInt8} (h : (10 : UInt8) ∉ t) : F46 n t [10] = some (t, [], false) := by
  unfold F46 F58
  rw [F69_eq, ix_none h]; rfl
theorem F46_at (n : Nat) {a b : List UInt8} (h : (10 : UInt8) ∉ a) (hs : (a ++ 10 :: b).length < 1000000) : F46 n (a ++ 10 :: b) [10] = some (a, b, true) := by
  unfold F46 F58
  have hl : (a ++ 10 :: b).length = a.length + b.length + 1 := by simp; omega
  rw [F69_eq, ix_at h]
  simp only [ob_some]
  rw [show (0 : Int) = ((0 : Nat) : Int) from rfl, le_nat]
  simp only [Nat.zero_le, decide_true, cond_true]
  rw [cutL_nat (Nat.zero_le _) (by omega), show lenL [(10 : UInt8)] = 1 from rfl, add_one (by omega), len_nat, cutL_nat (by omega) (Nat.le_refl _)]
  simp only [ob_some, List.drop_zero, List.take_length, List.take_left]
  congr 3
  rw [show a.length + 1 = a.length + 1 from rfl, ← List.drop_drop, List.drop_left]; rfl
def splitL : List UInt8 → List (List UInt8)
  | [] => [[]]
  | c :: l => if c.toNat = 10 then [] :: splitL l else match splitL l with
    | h :: t => (c :: h) :: t
    | [] => [[c]]
theorem split_ne : ∀ l, splitL l ≠ []
  | [] => by simp [splitL]
  | c :: l => by
    rw [splitL]
    split
    · simp
    · split <;> simp
theorem ne10 {c : UInt8} (h : (10 : UInt8) ≠ c) : c.toNat ≠ 10 := fun e => h (UInt8.toNat_inj.1 (by rw [e]; rfl))
theorem split_none : ∀ {t : List UInt8}, (10 : UInt8) ∉ t → splitL t = [t]
  | [], _ => rfl
  | c :: t, h => by
    simp only [List.mem_cons, not_or] at h
    rw [splitL, if_neg (ne10 h.1), split_none h.2]
theorem split_at : ∀ {a b : List UInt8}, (10 : UInt8) ∉ a → splitL (a ++ 10 :: b) = a :: splitL b
  | [], b, _ => by rw [List.nil_append, splitL, if_pos (show (10 : UInt8).toNat = 10 from rfl)]
  | c :: a, b, h => by
    simp only [List.mem_cons, not_or] at h
    rw [List.cons_append, splitL, if_neg (ne10 h.1), split_at h.2]
theorem F28_loop (n : Nat) : ∀ (m : Nat) (acc : List (List UInt8)) (t : List UInt8), t.length < m → acc.length + t.length < 1000000 → F28_L0 n m (acc, t) = some (.out (acc ++ splitL t))
  | 0, _, _, h, _ => by omega
  | m + 1, acc, t, h, hs => by
    rw [F28_L0]
    by_cases hm : (10 : UInt8) ∈ t
    · obtain ⟨a, b, rfl, ha⟩ := List.eq_append_cons_of_mem hm
      simp only [List.length_append, List.length_cons] at h hs
      have e := F46_at n (b := b) ha (by simp; omega)
      simp only [e, ob_some]
      rw [show appL 16 acc [a] = some (acc ++ [a]) from appL_eq (by decide) (by simp; omega), ob_some]
      simp only [Bool.not_true, cond_false]
      rw [F28_loop n m _ b (by omega) (by simp; omega), split_at ha]
      simp
    · simp only [F46_none n hm, ob_some]
      rw [appL_eq (by decide) (by simp; omega), ob_some, split_none hm]
      rfl
theorem F28_eq (n : Nat) (s : List UInt8) (hn : s.length < n) (hs : s.length < 1000000) : F28 n s = some (splitL s) := by
  unfold F28
  rw [F28_loop n n [] s hn (by simpa using hs)]; rfl
def sumL (l : List (List UInt8)) : Nat := (l.map fun x => x.length + 1).sum
theorem split_sum : ∀ s, sumL (splitL s) = s.length + 1
  | [] => rfl
  | c :: s => by
    have := split_sum s
    rw [splitL]
    split
    · simp only [sumL, List.map_cons, List.sum_cons, List.length_nil, List.length_cons] at *; omega
    · split
      · rename_i h t e
        rw [e] at this
        simp only [sumL, List.map_cons, List.sum_cons, List.length_cons] at *; omega
      · rename_i e; exact absurd e (split_ne s)
theorem sum_take_le (l : List (List UInt8)) (k : Nat) : sumL (l.take k) ≤ sumL l := by
  have := congrArg (fun x => (x.map fun y : List UInt8 => y.length + 1).sum) (List.take_append_drop k l)
  simp only [List.map_append, List.sum_append] at this
  unfold sumL; omega
theorem place_law : ∀ (s : List UInt8) (p : Nat), p ≤ s.length → ∃ line, (splitL s)[(s.take p).count 10]? = some line ∧ p - lastNL (s.take p) ≤ line.length ∧ sumL ((splitL s).take ((s.take p).count 10)) = lastNL (s.take p)
  | s, 0, _ => by
    have := split_ne s
    cases h : splitL s with
    | nil => exact absurd h this
    | cons a l => exact ⟨a, by simp, by simp, by simp [sumL, lastNL]⟩
  | [], p + 1, h => by simp at h
  | c :: s, p + 1, h => by
    obtain ⟨line, h1, h2, h3⟩ := place_law s p (by simpa using h)
    rw [List.take_succ_cons]
    by_cases h10 : c.toNat = 10
    · have hc : c = 10 := UInt8.toNat_inj.1 (by rw [h10]; rfl)
      subst hc
      rw [List.count_cons_self, splitL, if_pos h10]
      refine ⟨line, by simpa using h1, ?_, ?_⟩
      · rw [lastNL]; split <;> rename_i e <;> simp only [e] at h2 <;> simp <;> omega
      · rw [List.take_succ_cons]
        simp only [sumL, List.map_cons, List.sum_cons, List.length_nil] at *
        rw [lastNL, h3]; split <;> rename_i e <;> simp [e] <;> omega
    · have hc : (c == 10) = false := by
        rw [beq_eq_false_iff_ne]; rintro rfl; exact h10 rfl
      rw [List.count_cons, hc, splitL, if_neg h10]
      simp only [Bool.false_eq_true, if_false, Nat.add_zero]
      cases hsp : splitL s with
      | nil => exact absurd hsp (split_ne s)
      | cons a l =>
        rw [hsp] at h1 h3
        cases hk : (s.take p).count 10 with
        | zero =>
          rw [hk] at h1 h3
          simp only [List.take_zero, sumL, List.map_nil, List.sum_nil] at h3
          simp only [List.getElem?_cons_zero, Option.some.injEq] at h1
          subst h1
          refine ⟨c :: a, by simp, ?_, ?_⟩
          · rw [lastNL, ← h3]; simp [h10]; omega
          · rw [lastNL, ← h3]; simp [h10, sumL]
        | succ j =>
          rw [hk] at h1 h3
          rw [List.take_succ_cons] at h3
          simp only [sumL, List.map_cons, List.sum_cons] at h3
          refine ⟨line, by simpa using h1, ?_, ?_⟩
          · rw [lastNL]; split <;> rename_i e <;> omega
          · rw [lastNL, List.take_succ_cons]
            simp only [sumL, List.map_cons, List.sum_cons, List.length_cons]
            split <;> rename_i e <;> omega
theorem F17_loop (x : List (List UInt8)) (hx : x.length < 1000000) : ∀ (m i a : Nat), i ≤ x.length → x.length - i < m → a + sumL (x.drop i) < 20000000 → F17_L8 x m ((i : Int), (a : Int)) = some (.out ((a + sumL (x.drop i) : Nat) : Int))
  | 0, i, _, _, h, _ => by omega
  | m + 1, i, a, hi, h, hb => by
    rw [F17_L8, len_nat]
    simp only [lt_nat]
    by_cases hlt : i < x.length
    · have hd := List.drop_eq_getElem_cons hlt
      have e : sumL (x.drop i) = x[i].length + 1 + sumL (x.drop (i + 1)) := by rw [hd]; rfl
      simp only [hlt, decide_true, cond_true, getL_nat, List.getElem?_eq_getElem hlt, ob_some, len_nat]
      rw [add_one (by omega), add_one (by omega), add_nat (by omega)]
      rw [F17_loop x hx m (i + 1) _ hlt (by omega) (by omega), e, show a + (x[i].length + 1) + sumL (List.drop (i + 1) x) = a + (x[i].length + 1 + sumL (List.drop (i + 1) x)) from by omega]
    · simp only [hlt, decide_false, cond_false]
      rw [List.drop_eq_nil_of_le (by omega)]; rfl
theorem len_sum : ∀ l : List (List UInt8), l.length ≤ sumL l
  | [] => Nat.le_refl _
  | x :: l => by
    have := len_sum l
    simp only [sumL, List.map_cons, List.sum_cons, List.length_cons] at *; omega
theorem mem_sum {x : List UInt8} : ∀ {l : List (List UInt8)}, x ∈ l → x.length + 1 ≤ sumL l
  | y :: l, h => by
    rcases List.mem_cons.1 h with rfl | h
    · simp only [sumL, List.map_cons, List.sum_cons]; omega
    · have := mem_sum h
      simp only [sumL, List.map_cons, List.sum_cons] at *; omega
theorem F17_eq (n : Nat) (s : List UInt8) (hn : s.length + 1 < n) (hs : s.length + 1 < 1000000) (p : Nat) (hp : p ≤ s.length) : F17 n s (posOf s p) = some ((p : Int), true) := by
  obtain ⟨line, h1, h2, h3⟩ := place_law s p hp
  have hsum := split_sum s
  have hlen := len_sum (splitL s)
  have hcl : (s.take p).count 10 < (splitL s).length := (List.getElem?_eq_some_iff.1 h1).1
  have hl := lastNL_le (s.take p)
  have hl2 : (s.take p).length = p := by rw [List.length_take]; omega
  have hll : line.length < 1000000 := by
    have hm := List.mem_of_getElem? h1
    have := mem_sum hm
    omega
  unfold F17 posOf
  rw [F28_eq n s (by omega) (by omega)]
  generalize hk : (s.take p).count 10 = k at *
  generalize hq : lastNL (s.take p) = q at *
  simp only [ob_some, len_nat]
  rw [show (1 : Int) = ((1 : Nat) : Int) from rfl, lt_nat, lt_nat, lt_nat, sub_nat (by omega) (by omega), Nat.add_sub_cancel, getL_nat, h1, sub_nat (by omega) (by omega), Nat.add_sub_cancel]
  simp only [ob_some, len_nat]
  rw [add_nat (by omega), lt_nat, show (0 : Int) = ((0 : Nat) : Int) from rfl, cutL_nat (Nat.zero_le _) (by omega), List.drop_zero]
  rw [show decide (k + 1 < 1) = false from by simp, show decide ((splitL s).length < k + 1) = false from by simp; omega, show decide (p - q + 1 < 1) = false from by simp, show decide (line.length + 1 < p - q + 1) = false from by simp; omega]
  simp only [cond_false, ob_some]
  have hb : sumL ((splitL s).take k) = q := h3
  rw [F17_loop _ (by rw [List.length_take]; omega) n 0 (p - q) (Nat.zero_le _) (by rw [List.length_take]; omega) (by rw [List.drop_zero, hb]; omega), List.drop_zero, hb]
  simp only [ob_some]
  congr 3; omega
end Go.Gen
