/- Chapter 5: blanks and comments. -/
import Derived.Test.YtglnokfcjnnepaaDoorBP5b
namespace Go.Gen
open Go Go.Vm Go.Proofs
set_option maxRecDepth 100000

def blank (c : UInt8) : Bool := decide (c.toNat = 9) || decide (c.toNat = 10) || decide (c.toNat = 13) || decide (c.toNat = 32)
theorem X71_u (n : Nat) (s : List UInt8) (c : UInt8) : X71 n s (c.toNat : Int) = some (Lib.indexByte s c) := by
  unfold X71
  rw [Int.toNat_natCast, show c.toNat.toUInt8 = c from UInt8.ofNat_toNat]
theorem u8_eq {a c : UInt8} : (a == c) = decide (c.toNat = a.toNat) := by
  rw [Bool.eq_iff_iff, beq_iff_eq, decide_eq_true_eq, eq_comm (a := a)]
  exact UInt8.toNat_inj.symm
theorem blank_ix (c : UInt8) : leI 0 (Lib.indexByte [9, 10, 13, 32] c) = blank c := by
  rw [leI_eq]
  simp only [Lib.indexByte, u8_eq, blank, show (9 : UInt8).toNat = 9 from rfl, show (10 : UInt8).toNat = 10 from rfl, show (13 : UInt8).toNat = 13 from rfl, show (32 : UInt8).toNat = 32 from rfl]
  cases h1 : decide (c.toNat = 9) <;> cases h2 : decide (c.toNat = 10) <;> cases h3 : decide (c.toNat = 13) <;> cases h4 : decide (c.toNat = 32) <;> simp <;> decide
def gapGo : Bool → List UInt8 → Bool
  | _, [] => true
  | inn, c :: l => bif !(decide (c.toNat = 35) || inn) && !blank c then false else gapGo (bif decide (c.toNat = 10) then false else (decide (c.toNat = 35) || inn)) l
theorem F18_loop (s : List UInt8) (hs : s.length < 1000000) : ∀ (m i : Nat) (b : Bool), i ≤ s.length → s.length - i < m → F18_L0 s m ((i : Int), b) = some (bif gapGo b (s.drop i) then .out () else .ret false)
  | 0, i, _, _, h => by omega
  | m + 1, i, b, hi, h => by
    rw [F18_L0, len_nat]
    simp only [lt_nat]
    by_cases hlt : i < s.length
    · simp only [hlt, decide_true, cond_true, idx_lt hlt, ob_some]
      rw [List.drop_eq_getElem_cons hlt, gapGo]
      generalize hc : s[i] = c
      rw [show (35 : Int) = ((35 : Nat) : Int) from rfl, show (9 : Int) = ((9 : Nat) : Int) from rfl, show (10 : Int) = ((10 : Nat) : Int) from rfl, show (13 : Int) = ((13 : Nat) : Int) from rfl, show (32 : Int) = ((32 : Nat) : Int) from rfl]
      simp only [eq_nat, add_one (show i < 4611686018427387904 - 1 by omega)]
      have ih := fun b => F18_loop s hs m (i + 1) b hlt (by omega)
      unfold blank
      cases h35 : decide (c.toNat = 35) <;> cases b <;> cases h9 : decide (c.toNat = 9) <;> cases h10 : decide (c.toNat = 10) <;> cases h13 : decide (c.toNat = 13) <;> cases h32 : decide (c.toNat = 32) <;>
        simp only [cond_true, cond_false, ob_some, Bool.not_true, Bool.not_false, Bool.or_true, Bool.or_false, Bool.true_or, Bool.false_or, Bool.and_true, Bool.and_false, ih]
    · simp only [hlt, decide_false, cond_false]
      rw [List.drop_eq_nil_of_le (by omega)]; rfl
theorem F18_eq (n : Nat) (s : List UInt8) (h : s.length < n) (hs : s.length < 1000000) : F18 n s = some (gapGo false s) := by
  unfold F18
  rw [show ((0 : Int), false) = ((((0 : Nat)) : Int), false) from rfl, F18_loop s hs n 0 false (Nat.zero_le _) (by omega), ob_some, List.drop_zero]
  cases gapGo false s <;> rfl
theorem gap_line : ∀ (a z : List UInt8), (∀ c ∈ a, c.toNat ≠ 10) → gapGo true (a ++ z) = gapGo true z
  | [], _, _ => rfl
  | c :: a, z, h => by
    rw [List.cons_append, gapGo]
    have h1 : decide (c.toNat = 10) = false := by simpa using h c (by simp)
    simp only [h1, Bool.or_true, Bool.not_true, Bool.false_and, cond_false]
    exact gap_line a z fun d hd => h d (by simp [hd])
theorem stop_iff {c : UInt8} : stop c = true ↔ c.toNat ≠ 35 ∧ blank c = false := by
  unfold stop blank; simp [and_assoc]
theorem takeWhile_all {p : UInt8 → Bool} : ∀ {l : List UInt8}, ∀ c ∈ l.takeWhile p, p c = true
  | [], c, h => by simp at h
  | d :: l, c, h => by
    rw [List.takeWhile_cons] at h
    cases hd : p d with
    | false => rw [hd] at h; simp at h
    | true =>
      rw [hd] at h
      simp only [if_true, List.mem_cons] at h
      rcases h with rfl | h
      · exact hd
      · exact takeWhile_all c h
theorem takeWhile_next {p : UInt8 → Bool} : ∀ {l : List UInt8}, ∀ c ∈ l[(l.takeWhile p).length]?, p c = false
  | [], c, h => by simp at h
  | d :: l, c, h => by
    rw [List.takeWhile_cons] at h
    cases hd : p d with
    | false =>
      rw [hd] at h
      simp at h
      rw [← h]; exact hd
    | true =>
      rw [hd] at h
      simp only [if_true, List.length_cons, List.getElem?_cons_succ] at h
      exact takeWhile_next c h
theorem skip_loop (n : Nat) (s : List UInt8) (hn : s.length < n) (hs : s.length < 1000000) : ∀ (m p : Nat) (inn : Bool), p ≤ s.length → s.length - p < m → (inn = true → ∀ c ∈ s[p]?, c.toNat = 10) →
    ∃ q : Nat, p ≤ q ∧ q ≤ s.length ∧ (F44_L0 n s m (p : Int) = some (.ret (q : Int)) ∨ F44_L0 n s m (p : Int) = some (.out (q : Int))) ∧ gapGo inn ((s.drop p).take (q - p)) = true ∧ ∀ c ∈ s[q]?, stop c = true
  | 0, p, _, _, h, _ => by omega
  | m + 1, p, inn, hp, h, hin => by
    rw [F44_L0, len_nat, lt_nat]
    by_cases hlt : p < s.length
    · simp only [hlt, decide_true, cond_true, idx_lt hlt, ob_some]
      have hd := List.drop_eq_getElem_cons hlt
      have hin2 : inn = true → s[p].toNat = 10 := fun e => hin e _ (by simp [hlt])
      generalize hc : s[p] = c at hd hin2
      rw [show (35 : Int) = ((35 : Nat) : Int) from rfl, eq_nat, cutL_nat hp (Nat.le_refl _), List.take_length, hd]
      simp only [ob_some]
      by_cases h35 : c.toNat = 35
      · have hinn : inn = false := by cases inn with | false => rfl | true => have := hin2 rfl; omega
        subst hinn
        have e1 : (c :: s.drop (p + 1)).length = s.length - p := by rw [← hd]; simp
        rw [F33c_eq n _ (by rw [e1]; omega) (by rw [e1]; omega)]
        simp only [h35, decide_true, cond_true, ob_some, len_nat]
        generalize hy : (c :: s.drop (p + 1)).takeWhile (fun c => !decide (c.toNat = 10)) = y
        have hy1 : y.length ≤ s.length - p := by rw [← e1, ← hy]; exact (List.takeWhile_prefix _).length_le
        have hy2 : y = c :: (s.drop (p + 1)).takeWhile (fun c => !decide (c.toNat = 10)) := by rw [← hy, List.takeWhile_cons]; simp [h35]
        have hy0 : 0 < y.length := by rw [hy2]; simp
        have hy3 : y ++ s.drop (p + y.length) = s.drop p := by
          have h1 : y <+: s.drop p := by rw [hd, ← hy]; exact List.takeWhile_prefix _
          obtain ⟨z, hz⟩ := h1
          rw [← hz]
          congr 1
          have := congrArg (List.drop y.length) hz
          rw [List.drop_left, List.drop_drop] at this
          exact this.symm
        rw [add_nat (by omega)]
        obtain ⟨q, k1, k2, k3, k4, k5⟩ := skip_loop n s hn hs m (p + y.length) true (by omega) (by omega) (fun _ d hd2 => by
          have := takeWhile_next (p := fun c => !decide (c.toNat = 10)) (l := c :: s.drop (p + 1)) d (by
            rw [hy, ← hd, List.getElem?_drop]; exact hd2)
          simpa using this)
        refine ⟨q, by omega, k2, k3, ?_, k5⟩
        rw [← hd, ← hy3, List.take_append, List.take_of_length_le (show y.length ≤ q - p by omega), show q - p - y.length = q - (p + y.length) from by omega]
        have hall : ∀ d ∈ y, d.toNat ≠ 10 := fun d hd3 => by
          have := takeWhile_all (p := fun c => !decide (c.toNat = 10)) (l := c :: s.drop (p + 1)) d (by rw [hy]; exact hd3)
          simpa using this
        rw [hy2] at hall ⊢
        rw [List.cons_append, gapGo]
        simp only [h35, decide_true, Bool.true_or, Bool.not_true, Bool.false_and, cond_false, show decide (35 = 10) = false from rfl]
        rw [gap_line _ _ fun d hd => hall d (by simp [hd]), ← hy2]
        exact k4
      · simp only [h35, decide_false, cond_false]
        unfold F55 F63
        rw [X71_u]
        simp only [ob_some, blank_ix]
        cases hb : blank c with
        | true =>
          simp only [cond_true]
          rw [add_one (by omega)]
          obtain ⟨q, k1, k2, k3, k4, k5⟩ := skip_loop n s hn hs m (p + 1) false hlt (by omega) (fun e => by cases e)
          refine ⟨q, by omega, k2, k3, ?_, k5⟩
          rw [show q - p = (q - (p + 1)) + 1 from by omega, List.take_succ_cons, gapGo, hb]
          have e : (bif decide (c.toNat = 10) then false else (decide (c.toNat = 35) || inn)) = false := by
            cases h10 : decide (c.toNat = 10) with
            | true => rfl
            | false =>
              have : inn = false := by
                cases inn with
                | false => rfl
                | true => rw [decide_eq_false_iff_not] at h10; exact absurd (hin2 rfl) h10
              simp [h35, this]
          rw [e]
          simpa using k4
        | false =>
          simp only [cond_false]
          refine ⟨p, Nat.le_refl _, hp, .inl rfl, by simp [gapGo], fun d hd2 => ?_⟩
          have : d = c := by
            rw [List.getElem?_eq_getElem hlt, hc] at hd2
            simpa using hd2.symm
          subst this
          exact stop_iff.2 ⟨h35, hb⟩
    · simp only [hlt, decide_false, cond_false]
      have : p = s.length := by omega
      subst this
      exact ⟨s.length, Nat.le_refl _, Nat.le_refl _, .inr rfl, by simp [gapGo], by simp⟩
theorem skip_ok (n : Nat) (s : List UInt8) (hn : s.length < n) (hs : s.length < 1000000) (p : Nat) (hp : p ≤ s.length) :
    ∃ q : Nat, p ≤ q ∧ q ≤ s.length ∧ F44 n s (p : Int) = some (q : Int) ∧ gapGo false ((s.drop p).take (q - p)) = true ∧ ∀ c ∈ s[q]?, stop c = true := by
  obtain ⟨q, k1, k2, k3, k4, k5⟩ := skip_loop n s hn hs n p false hp (by omega) (fun e => by cases e)
  refine ⟨q, k1, k2, ?_, k4, k5⟩
  unfold F44
  rcases k3 with k3 | k3 <;> rw [k3] <;> rfl
theorem gap_stop {c : UInt8} {l : List UInt8} (h : stop c = true) : gapGo false (c :: l) = false := by
  obtain ⟨h1, h2⟩ := stop_iff.1 h
  rw [gapGo]
  simp [h1, h2]
theorem skip_stop {n : Nat} {s : List UInt8} (hn : s.length < n) (hs : s.length < 1000000) {p : Nat} {c : UInt8} (hc : s[p]? = some c) (h : stop c = true) : F44 n s (p : Int) = some (p : Int) := by
  have hp : p < s.length := (List.getElem?_eq_some_iff.1 hc).1
  obtain ⟨q, k1, k2, k3, k4, k5⟩ := skip_ok n s hn hs p (by omega)
  by_cases e : q = p
  · rw [k3, e]
  · exfalso
    rw [List.drop_eq_getElem_cons hp, show q - p = (q - p - 1) + 1 from by omega, List.take_succ_cons, gap_stop] at k4
    · cases k4
    · rw [List.getElem?_eq_getElem hp, Option.some.injEq] at hc
      rw [hc]; exact h
theorem skip_sp {n : Nat} {s : List UInt8} (hn : s.length < n) (hs : s.length < 1000000) {p : Nat} {c : UInt8} (h32 : s[p]? = some 32) (hc : s[p + 1]? = some c) (h : stop c = true) : F44 n s (p : Int) = some ((p + 1 : Nat) : Int) := by
  have hp : p + 1 < s.length := (List.getElem?_eq_some_iff.1 hc).1
  obtain ⟨q, k1, k2, k3, k4, k5⟩ := skip_ok n s hn hs p (by omega)
  have hq : q ≠ p := by
    rintro rfl
    have := k5 32 h32
    revert this; decide
  by_cases e : q = p + 1
  · rw [k3, e]
  · exfalso
    have e32 : s[p] = 32 := by
      rw [List.getElem?_eq_getElem (by omega), Option.some.injEq] at h32; exact h32
    rw [List.drop_eq_getElem_cons (show p < s.length by omega), show q - p = (q - p - 2) + 1 + 1 from by omega, List.take_succ_cons, e32, List.drop_eq_getElem_cons hp, List.take_succ_cons, gapGo,
      show (!(decide ((32 : UInt8).toNat = 35) || false) && !blank 32) = false from rfl, cond_false, show (bif decide ((32 : UInt8).toNat = 10) then false else (decide ((32 : UInt8).toNat = 35) || false)) = false from rfl, gap_stop] at k4
    · cases k4
    · rw [List.getElem?_eq_getElem hp, Option.some.injEq] at hc
      rw [hc]; exact h
theorem skip_end {n : Nat} {s : List UInt8} (hn : s.length < n) (hs : s.length < 1000000) : F44 n s (s.length : Int) = some (s.length : Int) := by
  obtain ⟨q, k1, k2, k3, _, _⟩ := skip_ok n s hn hs s.length (Nat.le_refl _)
  rw [k3, show q = s.length from by omega]
end Go.Gen
