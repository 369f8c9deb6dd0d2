/- Chapter 5: plain laws: numbers, right tokens, joins. -/
import Derived.Test.YtglnokfcjnnepaaDoorVmT16
import Derived.Lib.Join
open Go Go.Vm Go.Proofs Go.RowKit
namespace Go.Vm
set_option maxRecDepth 100000

/-- What digits tell. -/
def decV : List UInt8 → Nat
  | [] => 0
  | c :: l => (c.toNat - 48) * 10 ^ l.length + decV l
theorem decV_lt : ∀ l : List UInt8, (∀ c ∈ l, isDigit c = true) → decV l < 10 ^ l.length
  | [], _ => by simp [decV]
  | c :: l, h => by
    have h1 := isDigit_iff.1 (h c (by simp))
    have h2 := decV_lt l fun d hd => h d (by simp [hd])
    simp only [decV, List.length_cons, Nat.pow_succ]
    have h3 : (c.toNat - 48) * 10 ^ l.length ≤ 9 * 10 ^ l.length := Nat.mul_le_mul_right _ (by omega)
    omega
theorem numGo_true : ∀ (l : List UInt8) (n : Nat), (∀ c ∈ l, isDigit c = true) → 0 < n → n ≤ 9223372036854775808 →
    numGo true n l = if n * 10 ^ l.length + decV l ≤ 9223372036854775808 then some (n * 10 ^ l.length + decV l) else none
  | [], n, _, h0, hn => by simp [numGo, decV, hn]
  | c :: l, n, h, h0, hn => by
    have h1 := isDigit_iff.1 (h c (by simp))
    have hl : ∀ d ∈ l, isDigit d = true := fun d hd => h d (by simp [hd])
    generalize hd : c.toNat - 48 = d
    have hd9 : d ≤ 9 := by omega
    have hz : (n == 0) = false := by simp; omega
    have e : n * 10 ^ (c :: l).length + decV (c :: l) = (n * 10 + d) * 10 ^ l.length + decV l := by
      simp only [decV, List.length_cons, Nat.pow_succ, hd, Nat.add_mul]
      rw [Nat.mul_comm (10 ^ l.length) 10, ← Nat.mul_assoc, Nat.add_assoc]
    rw [e]
    simp only [numGo, hd, hz, Bool.and_false, Bool.or_false]
    have hp : 1 ≤ 10 ^ l.length := Nat.one_le_pow _ _ (by omega)
    by_cases hg : n > (9223372036854775808 - d) / 10
    · have hbig : 9223372036854775808 < n * 10 + d := by omega
      have : n * 10 + d ≤ (n * 10 + d) * 10 ^ l.length := Nat.le_mul_of_pos_right _ hp
      rw [if_pos (by simpa using hg), if_neg (by omega)]
    · rw [if_neg (by simpa using hg)]
      exact numGo_true l (n * 10 + d) hl (by omega) (by omega)
theorem numGo_eq {c : UInt8} {l : List UInt8} (h : ∀ d ∈ c :: l, isDigit d = true) :
    numGo false 0 (c :: l) = if c = 48 ∧ l ≠ [] then none else if decV (c :: l) ≤ 9223372036854775808 then some (decV (c :: l)) else none := by
  have h1 := isDigit_iff.1 (h c (by simp))
  have hl : ∀ d ∈ l, isDigit d = true := fun d hd => h d (by simp [hd])
  have e0 : numGo false 0 (c :: l) = numGo true (c.toNat - 48) l := by
    simp [numGo]
  rw [e0]
  by_cases hc : c.toNat - 48 = 0
  · have hc48 : c = 48 := by
      apply UInt8.toNat_inj.1
      show c.toNat = 48
      omega
    rw [hc]
    cases l with
    | nil => simp [numGo, decV, hc]
    | cons d l => simp [numGo, hc48]
  · have hne : ¬ (c = 48 ∧ l ≠ []) := by
      rintro ⟨rfl, _⟩
      exact hc rfl
    rw [if_neg hne, numGo_true l _ hl (by omega) (by omega)]
    rfl

theorem bytesLess_eq : ∀ (a b : List UInt8), a.length = b.length → (∀ c ∈ a, isDigit c = true) → (∀ c ∈ b, isDigit c = true) →
    (Op.bytesLess a b = true ↔ decV a < decV b) ∧ (a = b ↔ decV a = decV b)
  | [], [], _, _, _ => by simp [Op.bytesLess, decV]
  | [], _ :: _, h, _, _ => by simp at h
  | _ :: _, [], h, _, _ => by simp at h
  | c :: a, d :: b, h, ha, hb => by
    have hlen : a.length = b.length := by simpa using h
    have ha' : ∀ x ∈ a, isDigit x = true := fun x hx => ha x (by simp [hx])
    have hb' : ∀ x ∈ b, isDigit x = true := fun x hx => hb x (by simp [hx])
    obtain ⟨i1, i2⟩ := bytesLess_eq a b hlen ha' hb'
    have va := decV_lt a ha'
    have vb := decV_lt b hb'
    have hc := isDigit_iff.1 (ha c (by simp))
    have hd := isDigit_iff.1 (hb d (by simp))
    rw [← hlen] at vb
    simp only [Op.bytesLess, decV, ← hlen]
    generalize 10 ^ a.length = T at *
    have hcd : c = d ↔ c.toNat - 48 = d.toNat - 48 := by
      constructor
      · rintro rfl; rfl
      · intro e; apply UInt8.toNat_inj.1; omega
    have lt1 : c.toNat - 48 < d.toNat - 48 → (c.toNat - 48) * T + decV a < (d.toNat - 48) * T + decV b := by
      intro hlt
      have := Nat.mul_le_mul_right T (show c.toNat - 48 + 1 ≤ d.toNat - 48 from hlt)
      rw [Nat.add_mul] at this
      omega
    have lt2 : d.toNat - 48 < c.toNat - 48 → (d.toNat - 48) * T + decV b < (c.toNat - 48) * T + decV a := by
      intro hlt
      have := Nat.mul_le_mul_right T (show d.toNat - 48 + 1 ≤ c.toNat - 48 from hlt)
      rw [Nat.add_mul] at this
      omega
    rcases Nat.lt_trichotomy (c.toNat - 48) (d.toNat - 48) with hlt | heq | hgt
    · have h1 := lt1 hlt
      have h2 : c < d := by rw [UInt8.lt_iff_toNat_lt]; omega
      have h3 : c ≠ d := fun e => by rw [hcd] at e; omega
      have h4 : ¬ (c.toNat - 48) * T + decV a = (d.toNat - 48) * T + decV b := by omega
      simp [h2, h1, h3, h4]
    · obtain rfl := hcd.2 heq
      simp [i1, i2]
    · have h1 := lt2 hgt
      have h2 : ¬ c < d := by rw [UInt8.lt_iff_toNat_lt]; omega
      have h3 : c ≠ d := fun e => by rw [hcd] at e; omega
      have h4 : ¬ (c.toNat - 48) * T + decV a = (d.toNat - 48) * T + decV b := by omega
      have h5 : ¬ (c.toNat - 48) * T + decV a < (d.toNat - 48) * T + decV b := by omega
      simp [h2, h5, h3, h4]

theorem valU_eq : ∀ (l : List UInt8) (n : Nat), (∀ c ∈ l, isDigit c = true) → valU n l % 18446744073709551616 = (n * 10 ^ l.length + decV l) % 18446744073709551616
  | [], n, _ => by simp [valU, decV]
  | c :: l, n, h => by
    have h1 := isDigit_iff.1 (h c (by simp))
    have hl : ∀ d ∈ l, isDigit d = true := fun d hd => h d (by simp [hd])
    simp only [valU, decV, List.length_cons, Nat.pow_succ]
    rw [valU_eq l _ hl]
    have e1 : (c.toNat + 208) % 256 = c.toNat - 48 := by have := c.toNat_lt; omega
    rw [e1]
    generalize 10 ^ l.length = T
    generalize c.toNat - 48 = d
    generalize decV l = v
    rw [Nat.add_mod, Nat.mul_mod]
    have e2 : ((10 * n % 18446744073709551616 + d) % 18446744073709551616) % 18446744073709551616 = (10 * n + d) % 18446744073709551616 := by omega
    rw [e2, ← Nat.mul_mod, ← Nat.add_mod]
    congr 1
    rw [Nat.add_mul, Nat.mul_comm 10 n, Nat.mul_assoc, Nat.mul_comm 10 T, Nat.add_assoc]
theorem wrap_mod {a b : Nat} (h : a % 18446744073709551616 = b % 18446744073709551616) : IntKind.i64.wrap (a : Int) = IntKind.i64.wrap (b : Int) := by
  have e : ∀ n : Int, IntKind.i64.wrap n = (n + 9223372036854775808) % 18446744073709551616 - 9223372036854775808 := by
    intro n
    simp [IntKind.wrap, IntKind.bits, IntKind.signed]
    omega
  rw [e, e]
  omega
theorem top_val : decV topDigits = 9223372036854775808 := by decide
theorem top_dig : ∀ c ∈ topDigits, isDigit c = true := by decide
theorem badNum_eq {c : UInt8} {l : List UInt8} (h : ∀ d ∈ c :: l, isDigit d = true) : badNum (c :: l) = (numGo false 0 (c :: l)).isNone := by
  rw [numGo_eq h]
  have hc := isDigit_iff.1 (h c (by simp))
  have hl : ∀ d ∈ l, isDigit d = true := fun d hd => h d (by simp [hd])
  have hv := decV_lt _ h
  unfold badNum
  by_cases h0 : c = 48 ∧ l ≠ []
  · rw [if_pos h0]
    obtain ⟨rfl, h0⟩ := h0
    have : 1 < ((48 : UInt8) :: l).length := by cases l <;> simp_all
    have e1 : decide (1 < ((48 : UInt8) :: l).length) = true := by simpa using this
    rw [e1]
    rfl
  · rw [if_neg h0]
    have e0 : (decide (1 < (c :: l).length) && (c :: l).head? == some 48) = false := by
      cases l with
      | nil => simp
      | cons d l =>
        have : c ≠ 48 := fun e => h0 ⟨e, by simp⟩
        simp [this]
    rw [e0, Bool.false_or]
    rcases Nat.lt_trichotomy (c :: l).length 19 with hlt | heq | hgt
    · have e1 : decide (19 < (c :: l).length) = false := by simp only [decide_eq_false_iff_not]; omega
      have e2 : ((c :: l).length == 19) = false := by simp only [beq_eq_false_iff_ne]; omega
      have : 10 ^ (c :: l).length ≤ 10 ^ 18 := Nat.pow_le_pow_right (by omega) (by omega)
      rw [e1, e2, if_pos (by omega)]
      rfl
    · have e1 : decide (19 < (c :: l).length) = false := by simp only [decide_eq_false_iff_not]; omega
      obtain ⟨b1, b2⟩ := bytesLess_eq (c :: l) topDigits (by rw [heq]; rfl) h top_dig
      rw [top_val] at b1 b2
      rw [e1, heq]
      by_cases hle : decV (c :: l) ≤ 9223372036854775808
      · rw [if_pos hle]
        rcases Nat.lt_or_ge (decV (c :: l)) 9223372036854775808 with h3 | h3
        · rw [b1.2 h3]; rfl
        · rw [b2.2 (by omega)]; simp
      · rw [if_neg hle]
        have n1 : Op.bytesLess (c :: l) topDigits = false := by
          cases hb : Op.bytesLess (c :: l) topDigits with
          | false => rfl
          | true => have := b1.1 hb; omega
        have n2 : (c :: l == topDigits) = false := by
          simp only [beq_eq_false_iff_ne]
          intro e
          have := b2.1 e; omega
        rw [n1, n2]; rfl
    · have e1 : decide (19 < (c :: l).length) = true := by simp only [decide_eq_true_eq]; omega
      rw [e1]
      have hc0 : c.toNat - 48 ≠ 0 := by
        intro e
        refine h0 ⟨?_, ?_⟩
        · apply UInt8.toNat_inj.1
          show c.toNat = 48
          omega
        · intro e; rw [e] at hgt; simp at hgt
      have hpow : 10 ^ 19 ≤ 10 ^ l.length := Nat.pow_le_pow_right (by omega) (by simp at hgt; omega)
      have : 1 * 10 ^ l.length ≤ (c.toNat - 48) * 10 ^ l.length := Nat.mul_le_mul_right _ (by omega)
      have hbig : ¬ decV (c :: l) ≤ 9223372036854775808 := by simp only [decV]; omega
      rw [if_neg hbig]
      rfl
theorem numGo_val {c : UInt8} {l : List UInt8} (h : ∀ d ∈ c :: l, isDigit d = true) {m : Nat} (hm : numGo false 0 (c :: l) = some m) : IntKind.i64.wrap (m : Int) = IntKind.i64.wrap (valU 0 (c :: l) : Int) := by
  rw [numGo_eq h] at hm
  split at hm
  · cases hm
  · split at hm
    · simp only [Option.some.injEq] at hm
      subst hm
      apply wrap_mod
      rw [valU_eq _ _ h, Nat.zero_mul, Nat.zero_add]
    · cases hm

theorem takeWhile_all {p : UInt8 → Bool} {l : List UInt8} : (l.takeWhile p == l) = l.all p := by
  induction l with
  | nil => rfl
  | cons c l ih =>
    by_cases h : p c = true
    · rw [List.takeWhile_cons_of_pos h, List.all_cons, h, Bool.true_and, ← ih]
      simp
    · rw [List.takeWhile_cons_of_neg h, List.all_cons]
      simp [h]
theorem iwGo_all : ∀ l : List UInt8, iwGo true l = l.all fun c => isLetter c || isDigit c
  | [] => rfl
  | c :: l => by simp [iwGo, iwGo_all l]
theorem signs_first : ∀ t ∈ signsL, signsL.find? (pre t) = some t := by decide
theorem signs_heads : (signsL.all fun t => match t with | c :: _ => !isDigit c && !isLetter c | [] => false) = true := by decide
theorem signs_head {c : UInt8} {l : List UInt8} (h : c :: l ∈ signsL) : isDigit c = false ∧ isLetter c = false := by
  have := List.all_eq_true.1 signs_heads _ h
  simpa using this
theorem digit_letter {c : UInt8} (h : isDigit c = true) : isLetter c = false := by
  have := isDigit_iff.1 h
  have e1 : decide (97 ≤ c.toNat) = false := by simp only [decide_eq_false_iff_not]; omega
  have e2 : decide (65 ≤ c.toNat) = false := by simp only [decide_eq_false_iff_not]; omega
  have e3 : (c.toNat == 95) = false := by simp only [beq_eq_false_iff_ne]; omega
  unfold isLetter
  rw [e1, e2, e3]; rfl
theorem isSign_iff {t : List UInt8} : isSign t = true ↔ t ∈ signsL := by
  unfold isSign
  rw [List.any_eq_true]
  constructor
  · rintro ⟨s, h1, h2⟩
    obtain rfl : s = t := by simpa using h2
    exact h1
  · intro h
    exact ⟨t, h, by simp⟩

theorem right_eq (k : Int) (t : List UInt8) (n : Int) : rightT k t n = rightR k t n := by
  cases t with
  | nil =>
    unfold rightT rightR
    rw [if_pos rfl]
    have e1 : isWord [] = false := rfl
    have e2 : isInt [] = false := rfl
    have e3 : isSign [] = false := rfl
    rw [e1, e2, e3]
    by_cases h0 : k = 0
    · subst h0; simp
    · rw [if_neg h0]
      by_cases h1 : k = 1
      · subst h1; simp
      · rw [if_neg h1]
        by_cases h2 : k = 2
        · subst h2; simp
        · rw [if_neg h2]; simp
  | cons c l =>
    have hT : rightT k (c :: l) n = ((tokP (c :: l)).2.2.2 == 0 && ((tokP (c :: l)).1 == k && (tokP (c :: l)).2.1 == c :: l && (tokP (c :: l)).2.2.1 == n)) := by
      unfold rightT; rw [if_neg (by simp)]
    rw [hT]
    have hlast : (k == 3 && (c :: l) == [] && n == 0) = false := by simp
    cases hd : isDigit c with
    | true =>
      have hlt := digit_letter hd
      have r0 : isWord (c :: l) = false := by simp [isWord, iwGo, hlt]
      have r2 : isSign (c :: l) = false := by
        cases hs : isSign (c :: l) with
        | false => rfl
        | true => have := (signs_head (isSign_iff.1 hs)).1; rw [hd] at this; cases this
      have hP : rightR k (c :: l) n = (1 == k && (isInt (c :: l) && !badNum (c :: l) && n == IntKind.i64.wrap (valU 0 (c :: l)))) := by
        unfold rightR
        rw [r0, r2, hlast]
        by_cases h0 : k = 0
        · subst h0; simp
        · rw [if_neg h0]
          by_cases h1 : k = 1
          · subst h1; simp
          · rw [if_neg h1]
            have : ((1 : Int) == k) = false := by simp only [beq_eq_false_iff_ne]; exact fun e => h1 e.symm
            rw [this]
            by_cases h2 : k = 2
            · subst h2; simp
            · rw [if_neg h2]; simp
      rw [hP]
      by_cases hall : ∀ d ∈ c :: l, isDigit d = true
      · have htw : (c :: l).takeWhile isDigit = c :: l := by
          have := takeWhile_all (p := isDigit) (l := c :: l)
          rw [List.all_eq_true.2 hall] at this
          simpa using this
        have hI : isInt (c :: l) = true := by
          unfold isInt
          rw [List.all_eq_true.2 hall]; simp
        rw [hI, badNum_eq hall]
        cases hn : numGo false 0 (c :: l) with
        | none =>
          have : tokP (c :: l) = (1, c :: l, 0, 51) := by
            simp only [tokP, hd, if_true, htw, hn]
          rw [this]; simp
        | some m =>
          have : tokP (c :: l) = (1, c :: l, IntKind.i64.wrap m, 0) := by
            simp only [tokP, hd, if_true, htw, hn]
          rw [this, numGo_val hall hn]
          simp only [beq_self_eq_true, Bool.true_and, Bool.and_true, Option.isNone_some, Bool.not_false]
          congr 1
          rw [Bool.eq_iff_iff]; simp only [beq_iff_eq]
          exact eq_comm
      · have hI : isInt (c :: l) = false := by
          unfold isInt
          cases h : (c :: l).all isDigit with
          | false => rfl
          | true => exact absurd (List.all_eq_true.1 h) hall
        have htw : ((c :: l).takeWhile isDigit == c :: l) = false := by
          rw [takeWhile_all]
          cases h : (c :: l).all isDigit with
          | false => rfl
          | true => exact absurd (List.all_eq_true.1 h) hall
        rw [hI]
        have : (tokP (c :: l)).2.1 = (c :: l).takeWhile isDigit := by
          simp only [tokP, hd, if_true]
          split <;> rfl
        rw [this, htw]
        simp
    | false =>
      have r1 : isInt (c :: l) = false := by simp [isInt, hd]
      cases hlt : isLetter c with
      | true =>
        have r2 : isSign (c :: l) = false := by
          cases hs : isSign (c :: l) with
          | false => rfl
          | true => have := (signs_head (isSign_iff.1 hs)).2; rw [hlt] at this; cases this
        have hP : rightR k (c :: l) n = (0 == k && (isWord (c :: l) && decide ((c :: l).length ≤ 32) && n == 0)) := by
          unfold rightR
          rw [r1, r2, hlast]
          by_cases h0 : k = 0
          · subst h0; simp
          · rw [if_neg h0]
            have : ((0 : Int) == k) = false := by simp only [beq_eq_false_iff_ne]; exact fun e => h0 e.symm
            rw [this]
            by_cases h1 : k = 1
            · subst h1; simp
            · rw [if_neg h1]
              by_cases h2 : k = 2
              · subst h2; simp
              · rw [if_neg h2]; simp
        rw [hP]
        have hw : isWord (c :: l) = ((c :: l).takeWhile (fun c => isLetter c || isDigit c) == c :: l) := by
          rw [takeWhile_all]
          simp [isWord, iwGo, hlt, iwGo_all]
        by_cases hlong : 32 < ((c :: l).takeWhile fun c => isLetter c || isDigit c).length
        · have : tokP (c :: l) = (0, [], 0, 52) := by
            simp only [tokP, hd, hlt, if_true, Bool.false_eq_true, if_false, if_pos hlong]
          rw [this]
          cases hwt : isWord (c :: l) with
          | false => simp
          | true =>
            rw [hwt] at hw
            have e : (c :: l).takeWhile (fun c => isLetter c || isDigit c) = c :: l := by simpa using hw.symm
            rw [e] at hlong
            have : decide ((c :: l).length ≤ 32) = false := by simp only [decide_eq_false_iff_not]; omega
            rw [this]; simp
        · have : tokP (c :: l) = (0, (c :: l).takeWhile fun c => isLetter c || isDigit c, 0, 0) := by
            simp only [tokP, hd, hlt, if_true, Bool.false_eq_true, if_false, if_neg hlong]
          rw [this, ← hw]
          cases hwt : isWord (c :: l) with
          | false => simp
          | true =>
            rw [hwt] at hw
            have e : (c :: l).takeWhile (fun c => isLetter c || isDigit c) = c :: l := by simpa using hw.symm
            rw [e] at hlong
            have : decide ((c :: l).length ≤ 32) = true := by simp only [decide_eq_true_eq]; omega
            rw [this]
            simp only [beq_self_eq_true, Bool.true_and, Bool.and_true]
            congr 1
            rw [Bool.eq_iff_iff]; simp only [beq_iff_eq]
            exact eq_comm
      | false =>
        have r0 : isWord (c :: l) = false := by simp [isWord, iwGo, hlt]
        have hP : rightR k (c :: l) n = (2 == k && (isSign (c :: l) && n == 0)) := by
          unfold rightR
          rw [r0, r1, hlast]
          by_cases h0 : k = 0
          · subst h0; simp
          · rw [if_neg h0]
            by_cases h1 : k = 1
            · subst h1; simp
            · rw [if_neg h1]
              by_cases h2 : k = 2
              · subst h2; simp
              · have : ((2 : Int) == k) = false := by simp only [beq_eq_false_iff_ne]; exact fun e => h2 e.symm
                rw [if_neg h2, this]; simp
        rw [hP]
        cases hf : signsL.find? (pre (c :: l)) with
        | none =>
          have : tokP (c :: l) = (0, [], 0, 50) := by
            simp only [tokP, hd, hlt, Bool.false_eq_true, if_false, hf]
          rw [this]
          have : isSign (c :: l) = false := by
            cases hs : isSign (c :: l) with
            | false => rfl
            | true => rw [signs_first _ (isSign_iff.1 hs)] at hf; cases hf
          rw [this]; simp
        | some s =>
          have : tokP (c :: l) = (2, s, 0, 0) := by
            simp only [tokP, hd, hlt, Bool.false_eq_true, if_false, hf]
          rw [this]
          have hs : isSign (c :: l) = (s == c :: l) := by
            cases hs : isSign (c :: l) with
            | true =>
              rw [signs_first _ (isSign_iff.1 hs)] at hf
              simp only [Option.some.injEq] at hf
              simp [hf]
            | false =>
              symm
              simp only [beq_eq_false_iff_ne]
              rintro rfl
              have := isSign_iff.2 (List.mem_of_find?_eq_some hf)
              rw [hs] at this; cases this
          rw [hs]
          simp only [beq_self_eq_true, Bool.true_and]
          cases (s == c :: l) with
          | false => simp
          | true =>
            simp only [Bool.and_true, Bool.true_and]
            congr 1
            rw [Bool.eq_iff_iff]; simp only [beq_iff_eq]
            exact eq_comm

theorem joinGo_eq : ∀ (L : List Tok), joinGo true L = Lib.joinTail [32] (wordsOf L) ∧ joinGo false L = Lib.join (wordsOf L) [32]
  | [] => ⟨rfl, rfl⟩
  | x :: L => by
    obtain ⟨h1, h2⟩ := joinGo_eq L
    simp only [joinGo]
    by_cases h : x.k = 3
    · have : wordsOf (x :: L) = wordsOf L := by
        unfold wordsOf
        rw [List.filter_cons_of_neg (by simp [h])]
      rw [if_pos h, if_pos h, this]
      exact ⟨h1, h2⟩
    · have : wordsOf (x :: L) = x.t :: wordsOf L := by
        unfold wordsOf
        rw [List.filter_cons_of_pos (by simp [h])]
        rfl
      rw [if_neg h, if_neg h, this, h1, Lib.join_cons]
      simp [Lib.joinTail]
theorem sameGo_refl : ∀ L : List Tok, sameGo L L = true
  | [] => rfl
  | x :: L => by simp [sameGo, eqTok, sameGo_refl L]
end Go.Vm
