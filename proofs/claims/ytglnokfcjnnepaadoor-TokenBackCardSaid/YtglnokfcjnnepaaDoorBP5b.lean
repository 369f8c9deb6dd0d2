/- Chapter 5: the token by which a text begins. -/
import Derived.Test.YtglnokfcjnnepaaDoorBP5a
namespace Go.Gen
open Go Go.Vm Go.Proofs
set_option maxRecDepth 100000

def pre (s p : List UInt8) : Bool := p.isPrefixOf s
theorem pre_iff {s p : List UInt8} : pre s p = true ↔ p <+: s := List.isPrefixOf_iff_prefix
theorem eqS_iff {a b : List UInt8} : eqS a b = true ↔ a = b := by rw [eqS_eq, beq_iff_eq]
theorem F38_eq (n : Nat) (s p : List UInt8) : F38 n s p = some (pre s p) := by
  unfold F38 F51
  rw [len_nat, len_nat, le_nat]
  by_cases h : p.length ≤ s.length
  · simp only [h, decide_true, cond_true]
    rw [show (0 : Int) = ((0 : Nat) : Int) from rfl, cutL_nat (Nat.zero_le _) h]
    simp only [ob_some, List.drop_zero]
    congr 1
    rw [Bool.eq_iff_iff, eqS_iff, pre_iff, List.prefix_iff_eq_take]
    exact eq_comm
  · simp only [h, decide_false, cond_false, ob_some]
    congr 1
    symm
    rw [Bool.eq_false_iff]
    intro hp
    exact h (pre_iff.1 hp).length_le
theorem L11_eq (n : Nat) (s : List UInt8) (y : List (List UInt8)) (hy : y.length < 1000) : ∀ m i : Nat, i ≤ y.length → y.length - i < m → F20_L11 n s y m (i : Int) = some (.out (((y.drop i).find? (pre s)).getD []))
  | 0, i, _, h => by omega
  | m + 1, i, hi, h => by
    rw [F20_L11, len_nat, lt_nat]
    by_cases hlt : i < y.length
    · simp only [hlt, decide_true, cond_true, getL_nat, List.getElem?_eq_getElem hlt, ob_some, F38_eq]
      rw [List.drop_eq_getElem_cons hlt, List.find?_cons]
      cases hp : pre s y[i] with
      | true => rfl
      | false =>
        simp only [cond_false]
        rw [add_one (by omega), L11_eq n s y hy m (i + 1) hlt (by omega)]
    · simp only [hlt, decide_false, cond_false]
      rw [List.drop_eq_nil_of_le (by omega)]; rfl
def num (n : Nat) (t : List UInt8) : Int × Int := (F34 n t).getD (0, 0)
theorem F34_num (n : Nat) (s : List UInt8) (h : s.length < n) (hs : s.length < 1000000) : F34 n s = some (num n s) := by
  obtain ⟨r, hr⟩ := F34_some n s h hs
  unfold num
  rw [hr]; rfl
def isW (c : UInt8) : Bool := isLetter c || isDigit c
def p0 : S25 := ⟨0, 0⟩
def tok (n : Nat) (s : List UInt8) : S27 × Int := match s with
  | [] => (⟨0, [], 0, p0⟩, 50)
  | c :: _ =>
    bif isDigit c then (⟨1, s.takeWhile isDigit, (num n (s.takeWhile isDigit)).1, p0⟩, (num n (s.takeWhile isDigit)).2)
    else bif isLetter c then
      bif decide (32 < (s.takeWhile isW).length) then (⟨0, [], 0, p0⟩, 52) else (⟨0, s.takeWhile isW, 0, p0⟩, 0)
    else match signsL.find? (pre s) with
      | some t => (⟨2, t, 0, p0⟩, 0)
      | none => (⟨0, [], 0, p0⟩, 50)
theorem signs_ne : ∀ t ∈ signsL, t ≠ [] := by decide
theorem F20_eq (n : Nat) (c : UInt8) (l : List UInt8) (h : (c :: l).length < n) (hn : 100 < n) (hs : (c :: l).length < 1000000) : F20 n (c :: l) = some (tok n (c :: l)) := by
  have hx : idxS (c :: l) 0 = some (c.toNat : Int) := rfl
  have h1 : ((c :: l).takeWhile isDigit).length ≤ (c :: l).length := (List.takeWhile_prefix _).length_le
  unfold F20 tok
  simp only [hx, ob_some, F32_eq, F35_eq]
  rw [F33d_eq n _ h hs]
  simp only [ob_some]
  rw [F34_num n _ (by omega) (by omega), F33w_eq n _ h hs]
  simp only [ob_some, X37, len_nat]
  rw [show (32 : Int) = ((32 : Nat) : Int) from rfl, lt_nat, show (0 : Int) = ((0 : Nat) : Int) from rfl, L11_eq n _ signsL (by decide) n 0 (Nat.zero_le _) (by rw [show signsL.length = 29 from rfl]; omega)]
  cases isDigit c with
  | true => rfl
  | false =>
    cases isLetter c with
    | true =>
      simp only [cond_true, cond_false]
      show cond (decide (32 < ((c :: l).takeWhile isW).length)) _ _ = _
      cases decide (32 < ((c :: l).takeWhile isW).length) <;> rfl
    | false =>
      simp only [cond_false, ob_some, List.drop_zero]
      cases hf : signsL.find? (pre (c :: l)) with
      | none => rfl
      | some t =>
        have : t ≠ [] := signs_ne t (List.mem_of_find?_eq_some hf)
        have e : eqS t [] = false := by rw [Bool.eq_false_iff]; intro h; exact this (eqS_iff.1 h)
        simp only [Option.getD_some, e, cond_false]; rfl
theorem takeWhile_idem {p : UInt8 → Bool} (s : List UInt8) : (s.takeWhile p).takeWhile p = s.takeWhile p := by
  induction s with
  | nil => rfl
  | cons c s ih =>
    rw [List.takeWhile_cons]
    cases h : p c with
    | true => simp only [if_true]; rw [List.takeWhile_cons, h]; simp only [if_true, ih]
    | false => rfl
theorem digit_letter {c : UInt8} (h : isDigit c = true) : isLetter c = false := by
  unfold isDigit at h; unfold isLetter
  simp only [Bool.and_eq_true, decide_eq_true_eq] at h
  have h1 : ¬ 97 ≤ c.toNat := by omega
  have h2 : ¬ 65 ≤ c.toNat := by omega
  have h3 : ¬ c.toNat = 95 := by omega
  simp [h1, h2, h3]
theorem signs_first : ∀ t ∈ signsL, signsL.find? (pre t) = some t := by decide
theorem signs_head : ∀ t ∈ signsL, ∀ c ∈ t.head?, isDigit c = false ∧ isLetter c = false := by decide
theorem tok_text (n : Nat) {s : List UInt8} {x : S27} (h : tok n s = (x, 0)) : x.f_Text ≠ [] ∧ x.f_Text <+: s ∧ x.f_Kind ≠ 3 ∧ tok n x.f_Text = (x, 0) := by
  cases s with
  | nil => simp [tok] at h
  | cons c l =>
    unfold tok at h
    cases hd : isDigit c with
    | true =>
      simp only [hd, cond_true, Prod.mk.injEq] at h
      obtain ⟨rfl, h2⟩ := h
      have e : (c :: l).takeWhile isDigit = c :: l.takeWhile isDigit := by rw [List.takeWhile_cons, hd]; rfl
      refine ⟨by simp [e], List.takeWhile_prefix _, by simp, ?_⟩
      have := takeWhile_idem (p := isDigit) (c :: l)
      show tok n ((c :: l).takeWhile isDigit) = _
      rw [e] at this h2 ⊢
      simp only [tok, hd, cond_true, this, h2]
    | false =>
      simp only [hd, cond_false] at h
      cases hl : isLetter c with
      | true =>
        simp only [hl, cond_true] at h
        cases hc : decide (32 < ((c :: l).takeWhile isW).length) with
        | true => rw [hc] at h; simp at h
        | false =>
          rw [hc] at h
          simp only [cond_false, Prod.mk.injEq, and_true] at h
          subst h
          have e : (c :: l).takeWhile isW = c :: l.takeWhile isW := by rw [List.takeWhile_cons, isW, hl]; rfl
          refine ⟨by simp [e], List.takeWhile_prefix _, by simp, ?_⟩
          have := takeWhile_idem (p := isW) (c :: l)
          show tok n ((c :: l).takeWhile isW) = _
          rw [e] at this hc ⊢
          simp only [tok, hd, hl, cond_true, cond_false, this, hc]
      | false =>
        simp only [hl, cond_false] at h
        cases hf : signsL.find? (pre (c :: l)) with
        | none => rw [hf] at h; simp at h
        | some t =>
          rw [hf] at h
          simp only [Prod.mk.injEq, and_true] at h
          subst h
          have hm := List.mem_of_find?_eq_some hf
          have hp := pre_iff.1 (List.find?_some hf)
          have hne := signs_ne t hm
          refine ⟨hne, hp, by simp, ?_⟩
          show tok n t = _
          cases t with
          | nil => exact absurd rfl hne
          | cons d t =>
            have hh := signs_head _ hm d rfl
            have hfi := signs_first _ hm
            simp only [tok, hh.1, hh.2, cond_false, hfi]
theorem sp_digit : isDigit 32 = false := by decide
theorem sp_W : isW 32 = false := by decide
theorem takeWhile_app {p : UInt8 → Bool} {t : List UInt8} (ht : t.takeWhile p = t) {c : UInt8} (hc : p c = false) (r : List UInt8) : (t ++ c :: r).takeWhile p = t := by
  induction t with
  | nil => rw [List.nil_append, List.takeWhile_cons, hc]; rfl
  | cons d t ih =>
    rw [List.takeWhile_cons] at ht
    cases hd : p d with
    | false => rw [hd] at ht; simp at ht
    | true =>
      rw [hd] at ht
      simp only [if_true, List.cons.injEq, true_and] at ht
      rw [List.cons_append, List.takeWhile_cons, hd]
      simp only [if_true, ih ht]
theorem signs_nosp : ∀ t ∈ signsL, (32 : UInt8) ∉ t := by decide
theorem pre_sp {x t r : List UInt8} (hx : (32 : UInt8) ∉ x) : pre (t ++ 32 :: r) x = pre t x := by
  rw [Bool.eq_iff_iff, pre_iff, pre_iff]
  constructor
  · intro h
    by_cases hl : x.length ≤ t.length
    · exact List.prefix_of_prefix_length_le h (List.prefix_append _ _) hl
    · have h2 : t ++ [32] <+: x := List.prefix_of_prefix_length_le (show t ++ [32] <+: t ++ 32 :: r from ⟨r, by simp⟩) h (by simp; omega)
      exact absurd (h2.subset (by simp)) hx
  · intro h
    exact h.trans (List.prefix_append _ _)
theorem find_congr {α : Type} {p q : α → Bool} : ∀ {l : List α}, (∀ x ∈ l, p x = q x) → l.find? p = l.find? q
  | [], _ => rfl
  | x :: l, h => by
    rw [List.find?_cons, List.find?_cons, h x (by simp), find_congr fun y hy => h y (by simp [hy])]
/-- What stands behind a blank doesn't count. -/
theorem tok_sp (n : Nat) {t : List UInt8} {x : S27} (h : tok n t = (x, 0)) (ht : x.f_Text = t) (r : List UInt8) : tok n (t ++ 32 :: r) = (x, 0) := by
  cases t with
  | nil => simp [tok] at h
  | cons c l =>
    rw [List.cons_append]
    unfold tok at h ⊢
    cases hd : isDigit c with
    | true =>
      simp only [hd, cond_true, Prod.mk.injEq] at h ⊢
      obtain ⟨h1, h2⟩ := h
      have e : (c :: l).takeWhile isDigit = c :: l := by rw [← h1] at ht; exact ht
      have e2 := takeWhile_app e sp_digit r
      rw [List.cons_append] at e2
      rw [e2]; rw [e] at h1 h2
      exact ⟨h1, h2⟩
    | false =>
      simp only [hd, cond_false] at h ⊢
      cases hl : isLetter c with
      | true =>
        simp only [hl, cond_true] at h ⊢
        cases hc : decide (32 < ((c :: l).takeWhile isW).length) with
        | true => rw [hc] at h; simp at h
        | false =>
          rw [hc] at h
          simp only [cond_false, Prod.mk.injEq, and_true] at h
          have e : (c :: l).takeWhile isW = c :: l := by rw [← h] at ht; exact ht
          have e2 := takeWhile_app e sp_W r
          rw [List.cons_append] at e2
          rw [e2]; rw [e] at h hc
          rw [hc, cond_false, h]
      | false =>
        simp only [hl, cond_false] at h ⊢
        have := find_congr (l := signsL) (p := pre (c :: (l ++ 32 :: r))) (q := pre (c :: l)) fun y hy => pre_sp (t := c :: l) (signs_nosp y hy)
        rw [this]; exact h
/-- A byte by which a token may begin. -/
def stop (c : UInt8) : Bool := !(decide (c.toNat = 35)) && !(decide (c.toNat = 9)) && !(decide (c.toNat = 10)) && !(decide (c.toNat = 13)) && !(decide (c.toNat = 32))
theorem signs_stop : ∀ t ∈ signsL, ∀ c ∈ t.head?, stop c = true := by decide
theorem tok_stop (n : Nat) {c : UInt8} {l : List UInt8} {x : S27} (h : tok n (c :: l) = (x, 0)) : stop c = true := by
  unfold tok at h
  cases hd : isDigit c with
  | true =>
    unfold isDigit at hd; unfold stop
    simp only [Bool.and_eq_true, decide_eq_true_eq] at hd
    simp; omega
  | false =>
    simp only [hd, cond_false] at h
    cases hl : isLetter c with
    | true =>
      unfold isLetter at hl; unfold stop
      simp only [Bool.and_eq_true, Bool.or_eq_true, decide_eq_true_eq] at hl
      simp; omega
    | false =>
      simp only [hl, cond_false] at h
      cases hf : signsL.find? (pre (c :: l)) with
      | none => rw [hf] at h; simp at h
      | some t =>
        have hm := List.mem_of_find?_eq_some hf
        have hp := pre_iff.1 (List.find?_some hf)
        cases t with
        | nil => exact absurd rfl (signs_ne _ hm)
        | cons d t =>
          have : d = c := by
            obtain ⟨r, hr⟩ := hp
            simp at hr; exact hr.1
          subst this
          exact signs_stop _ hm d rfl
end Go.Gen
