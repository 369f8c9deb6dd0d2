/- Chapter 5: what the law asks of all tokens, and of tokens that are joined. -/
import Derived.Test.YtglnokfcjnnepaaDoorBP5e
import Derived.Lib.Join
namespace Go.Gen
open Go Go.Vm Go.Proofs
set_option maxRecDepth 100000

theorem tok_at (n : Nat) (s : List UInt8) : (tok n s).1.f_At = p0 := by
  cases s with
  | nil => rfl
  | cons c l =>
    unfold tok
    cases hd : isDigit c with
    | true => simp only [hd, cond_true]
    | false =>
      simp only [hd, cond_false]
      cases hl : isLetter c with
      | true => simp only [cond_true]; cases decide (32 < ((c :: l).takeWhile isW).length) <;> simp only [cond_true, cond_false]
      | false => simp only [cond_false]; cases signsL.find? (pre (c :: l)) <;> simp only []
def good (n : Nat) (x : S27) : Prop := x.f_Text ≠ [] ∧ tok n x.f_Text = (⟨x.f_Kind, x.f_Text, x.f_N, p0⟩, 0)
theorem eqI_iff {a b : Int} : eqI a b = true ↔ a = b := by rw [eqI_eq, beq_iff_eq]
theorem F8_good {n : Nat} {x : S27} (h : x.f_Text ≠ []) (hn : x.f_Text.length < n) (hn2 : 100 < n) (hs : x.f_Text.length < 1000000) (h8 : F8 n x = some true) : good n x := by
  rw [F8_eq n x h hn hn2 hs, Option.some.injEq] at h8
  simp only [Bool.and_eq_true, eqI_iff, eqS_iff] at h8
  obtain ⟨h1, h2, h3, h4⟩ := h8
  refine ⟨h, ?_⟩
  have h5 := tok_at n x.f_Text
  rw [← h1, ← h2, ← h4, ← h5]
  conv => rhs; rw [show (S27.mk (tok n x.f_Text).1.f_Kind x.f_Text (tok n x.f_Text).1.f_N (tok n x.f_Text).1.f_At) = S27.mk (tok n x.f_Text).1.f_Kind (tok n x.f_Text).1.f_Text (tok n x.f_Text).1.f_N (tok n x.f_Text).1.f_At from by rw [h3]]
/-- All tokens of a text, gone through. -/
theorem Ch_le {n : Nat} {s : List UInt8} {p : Nat} {l : List S27} (h : Ch n s p l) : p ≤ s.length ∧ l ≠ [] := by
  cases h with
  | fin hp h => exact ⟨hp, by simp⟩
  | tok hq hp h ht hl k => exact ⟨by omega, by simp⟩
theorem gap_of {n : Nat} {s : List UInt8} (hn : s.length < n) (hs : s.length < 1000000) {p q : Nat} (hp : p ≤ s.length) (h : F44 n s (p : Int) = some (q : Int)) : p ≤ q ∧ gapGo false ((s.take q).drop p) = true := by
  obtain ⟨q', k1, k2, k3, k4, k5⟩ := skip_ok n s hn hs p hp
  rw [k3, Option.some.injEq] at h
  have : q' = q := by omega
  subst this
  exact ⟨k1, by rw [List.drop_take]; exact k4⟩
theorem L6_loop {n : Nat} {s : List UInt8} (hn : s.length + 2 < n) (hn2 : 100 < n) (hs : s.length + 2 < 800000) (y : (List S27) × S45) (hy : y.1.length < 900000) {p : Nat} {l : List S27} (h : Ch n s p l) :
    ∀ (dn : List S27) (m : Nat), y.1 = dn ++ l → l.length < m → F4_L6 n s y m ((dn.length : Int), (p : Int)) = some (.out (s.length : Int)) := by
  induction h with
  | @fin p hp h =>
    intro dn m hyl hm
    obtain ⟨m, rfl⟩ : ∃ e, m = e + 2 := ⟨m - 2, by simp at hm; omega⟩
    have hlen : y.1.length = dn.length + 1 := by rw [hyl]; simp
    have hget : y.1[dn.length]? = some ⟨3, [], 0, posOf s s.length⟩ := by rw [hyl]; simp
    obtain ⟨g1, g2⟩ := gap_of (by omega) (by omega) hp h
    rw [F4_L6]
    simp only [len_nat, getL_nat, hget, hlen, ob_some, lt_nat, show decide (dn.length < dn.length + 1) = true from by simp, cond_true, F17_eq n s (by omega) (by omega) s.length (Nat.le_refl _), Bool.not_true, cond_false,
      show decide (s.length < p) = false from by simp; omega]
    rw [show ((([] : List UInt8).length : Nat) : Int) = ((0 : Nat) : Int) from rfl, add_nat (by omega), lt_nat, Nat.add_zero, cutL_nat (Nat.le_refl _) (Nat.le_refl _), cutL_nat hp (Nat.le_refl _)]
    simp only [ob_some, show decide (s.length < s.length) = false from by simp, cond_false, List.take_length, List.drop_length, show eqS [] [] = true from rfl, Bool.not_true]
    rw [List.take_length] at g2
    rw [F18_eq n _ (by simp; omega) (by simp; omega), g2, F8_nil n _ rfl, show (1 : Int) = ((1 : Nat) : Int) from rfl, sub_nat (by omega) (by omega), eq_nat]
    simp only [ob_some, show (eqI 3 3 && eqI 0 0) = true from rfl, show eqI 3 3 = true from rfl, Bool.not_true, cond_false, Nat.add_sub_cancel, decide_true, bne_self_eq_false]
    rw [show ((1 : Nat) : Int) = 1 from rfl, add_one (by omega), F4_L6]
    simp only [len_nat, hlen, lt_nat, show decide (dn.length + 1 < dn.length + 1) = false from by simp, cond_false]
    rfl
  | @tok p q x l hq hp h ht hl k ih =>
    intro dn m hyl hm
    obtain ⟨m, rfl⟩ : ∃ e, m = e + 1 := ⟨m - 1, by simp at hm; omega⟩
    have hne := (Ch_le k).2
    have hlpos := List.length_pos_iff.2 hne
    have hlen : y.1.length = dn.length + l.length + 1 := by rw [hyl]; simp; omega
    have hget : y.1[dn.length]? = some ⟨x.f_Kind, x.f_Text, x.f_N, posOf s q⟩ := by rw [hyl]; simp
    obtain ⟨g1, g2⟩ := gap_of (by omega) (by omega) (show p ≤ s.length by omega) h
    obtain ⟨t1, t2, t3, t4⟩ := tok_text n ht
    have hcut : (s.take (q + x.f_Text.length)).drop q = x.f_Text := by
      rw [List.drop_take, show q + x.f_Text.length - q = x.f_Text.length from by omega]
      exact (List.prefix_iff_eq_take.1 t2).symm
    rw [F4_L6]
    simp only [len_nat, getL_nat, hget, hlen, ob_some, lt_nat, show decide (dn.length < dn.length + l.length + 1) = true from by simp; omega, cond_true, F17_eq n s (by omega) (by omega) q (by omega), Bool.not_true, cond_false,
      show decide (q < p) = false from by simp; omega]
    rw [add_nat (by omega), lt_nat, cutL_nat (by omega) hl, cutL_nat hp (by omega), hcut]
    have es : eqS x.f_Text x.f_Text = true := eqS_iff.2 rfl
    simp only [ob_some, show decide (s.length < q + x.f_Text.length) = false from by simp; omega, cond_false, es, Bool.not_true]
    have hk3 : eqI x.f_Kind 3 = false := by rw [eqI_eq]; simpa using t3
    rw [F18_eq n _ (by simp; omega) (by simp; omega), g2, F8_eq n (⟨x.f_Kind, x.f_Text, x.f_N, posOf s q⟩ : S27) t1 (by show x.f_Text.length < n; omega) hn2 (by show x.f_Text.length < _; omega), show (1 : Int) = ((1 : Nat) : Int) from rfl, sub_nat (by omega) (by omega), eq_nat]
    simp only [ob_some, t4, es, eqI_iff.2, Bool.and_self, Bool.not_true, cond_false, hk3, show decide (dn.length = dn.length + l.length + 1 - 1) = false from by simp; omega, bne_self_eq_false]
    rw [show ((1 : Nat) : Int) = 1 from rfl, add_one (by omega)]
    have := ih (dn ++ [⟨x.f_Kind, x.f_Text, x.f_N, posOf s q⟩]) m (by rw [hyl, List.append_assoc]; rfl) (by simp at hm; omega)
    rw [List.length_append] at this
    exact this
/-- Tokens that are joined. -/
def tl (R : List S27) : List UInt8 := Lib.joinTail [32] (R.map (·.f_Text))
theorem tl_cons (x : S27) (R : List S27) : tl (x :: R) = 32 :: (x.f_Text ++ tl R) := rfl
def sameT (a b : S27) : Prop := a.f_Kind = b.f_Kind ∧ a.f_Text = b.f_Text ∧ a.f_N = b.f_N
def SameL : List S27 → List S27 → Prop
  | [], [] => True
  | a :: u, b :: R => sameT a b ∧ SameL u R
  | _, _ => False
theorem tok_tl {n : Nat} {x : S27} (h : good n x) : ∀ R : List S27, tok n (x.f_Text ++ tl R) = (⟨x.f_Kind, x.f_Text, x.f_N, p0⟩, 0)
  | [] => by rw [show tl [] = [] from rfl, List.append_nil]; exact h.2
  | y :: R => by rw [tl_cons]; exact tok_sp n h.2 rfl _
theorem good_head {n : Nat} {x : S27} (h : good n x) : ∃ c t, x.f_Text = c :: t ∧ stop c = true := by
  cases ht : x.f_Text with
  | nil => exact absurd ht h.1
  | cons c t =>
    have := h.2
    rw [ht] at this
    exact ⟨c, t, rfl, tok_stop n this⟩
theorem all_tail {n : Nat} {s : List UInt8} (hn : s.length + 2 < n) (hn2 : 100 < n) (hs : s.length + 2 < 800000) : ∀ (R : List S27) (p m : Nat) (acc : List S27), s.drop p = tl R → p ≤ s.length → (∀ x ∈ R, good n x) → R.length + 2 ≤ m → goes acc → acc.length + R.length < 10000 →
    ∃ u e, F16_L0 n s m ((p : Int), acc) = some (.out (acc ++ (u ++ [e]))) ∧ SameL u R ∧ e.f_Kind = 3
  | [], p, m, acc, hd, hp, _, hm, hg, hl => by
    obtain ⟨m, rfl⟩ : ∃ e, m = e + 2 := ⟨m - 2, by omega⟩
    have : p = s.length := by
      have := congrArg List.length hd
      rw [List.length_drop, show (tl []).length = 0 from rfl] at this
      omega
    subst this
    exact ⟨[], ⟨3, [], 0, posOf s s.length⟩, F16_fin (by omega) (by omega) hg (by simp at hl; omega) (Nat.le_refl _) (skip_end (by omega) (by omega)), trivial, rfl⟩
  | x :: R, p, m, acc, hd, hp, hR, hm, hg, hl => by
    simp only [List.length_cons] at hm hl
    obtain ⟨m, rfl⟩ : ∃ e, m = e + 1 := ⟨m - 1, by omega⟩
    have hx := hR x (by simp)
    obtain ⟨c, t, hct, hst⟩ := good_head hx
    rw [tl_cons] at hd
    have hpl : p < s.length := by
      have := congrArg List.length hd
      rw [List.length_drop, List.length_cons] at this; omega
    have h32 : s[p]? = some 32 := by
      have := congrArg (fun l => l[0]?) hd
      simpa [List.getElem?_drop] using this
    have hd1 : s.drop (p + 1) = x.f_Text ++ tl R := by
      rw [← List.drop_drop, hd]; rfl
    have hc : s[p + 1]? = some c := by
      have := congrArg (fun l => l[0]?) hd1
      rw [hct] at this
      simpa [List.getElem?_drop] using this
    have hq : p + 1 < s.length := (List.getElem?_eq_some_iff.1 hc).1
    have ht := tok_tl hx R
    rw [← hd1] at ht
    have hlen := tok_len ht hq
    have hk3 := (tok_text n ht).2.2.1
    rw [F16_tok (by omega) hn2 (by omega) hg (by omega) hp hq (skip_sp (by omega) (by omega) h32 hc hst) ht]
    obtain ⟨u, e, h1, h2, h3⟩ := all_tail hn hn2 hs R (p + 1 + x.f_Text.length) m (acc ++ [⟨x.f_Kind, x.f_Text, x.f_N, posOf s (p + 1)⟩]) (by rw [← List.drop_drop, hd1, List.drop_left]) hlen.2 (fun y hy => hR y (by simp [hy])) (by omega) (goes_snoc hk3) (by simp; omega)
    exact ⟨⟨x.f_Kind, x.f_Text, x.f_N, posOf s (p + 1)⟩ :: u, e, by rw [h1, List.append_assoc]; rfl, ⟨⟨rfl, rfl, rfl⟩, h2⟩, h3⟩
theorem all_join {n : Nat} {R : List S27} {s : List UInt8} (hj : s = Lib.join (R.map (·.f_Text)) [32]) (hn : s.length + 2 < n) (hn2 : 100 < n) (hnR : R.length + 3 ≤ n) (hs : s.length + 2 < 800000) (hl : R.length < 1000) (hR : ∀ x ∈ R, good n x) :
    ∃ u e, F16 n s = some (u ++ [e], f0) ∧ SameL u R ∧ e.f_Kind = 3 := by
  have key : ∃ u e, F16_L0 n s n (((0 : Nat) : Int), []) = some (.out ([] ++ (u ++ [e]))) ∧ SameL u R ∧ e.f_Kind = 3 := by
    cases R with
    | nil =>
      have : s = [] := hj
      subst this
      exact all_tail hn hn2 hs [] 0 n [] rfl (Nat.zero_le _) (by simp) (by simp at hnR ⊢; omega) (.inl rfl) (by simp)
    | cons x R =>
      simp only [List.length_cons] at hnR hl
      rw [List.map_cons, Lib.join_cons] at hj
      have hx := hR x (by simp)
      obtain ⟨c, t, hct, hst⟩ := good_head hx
      have hc : s[0]? = some c := by rw [hj, hct]; rfl
      have hq : 0 < s.length := (List.getElem?_eq_some_iff.1 hc).1
      have ht := tok_tl hx R
      rw [show x.f_Text ++ tl R = s.drop 0 from by rw [List.drop_zero, hj]; rfl] at ht
      have hlen := tok_len ht hq
      have hk3 := (tok_text n ht).2.2.1
      obtain ⟨n', rfl⟩ : ∃ e, n = e + 1 := ⟨n - 1, by omega⟩
      rw [F16_tok (by omega) hn2 (by omega) (.inl rfl) (by simp) (Nat.zero_le _) hq (skip_stop (by omega) (by omega) hc hst) ht]
      obtain ⟨u, e, h1, h2, h3⟩ := all_tail hn hn2 hs R (0 + x.f_Text.length) n' ([] ++ [⟨x.f_Kind, x.f_Text, x.f_N, posOf s 0⟩]) (by rw [Nat.zero_add, hj, List.drop_left]; rfl) hlen.2 (fun y hy => hR y (by simp [hy])) (by omega) (goes_snoc hk3) (by simp; omega)
      exact ⟨⟨x.f_Kind, x.f_Text, x.f_N, posOf s 0⟩ :: u, e, by rw [h1]; rfl, ⟨⟨rfl, rfl, rfl⟩, h2⟩, h3⟩
  obtain ⟨u, e, h1, h2, h3⟩ := key
  refine ⟨u, e, ?_, h2, h3⟩
  unfold F16
  rw [show ((0 : Int), ([] : List S27)) = ((((0 : Nat)) : Int), []) from rfl, h1]; rfl
theorem SameL_len : ∀ {u R : List S27}, SameL u R → u.length = R.length
  | [], [], _ => rfl
  | _ :: _, _ :: _, h => by simp [SameL_len h.2]
theorem SameL_get : ∀ {u R : List S27}, SameL u R → ∀ (i : Nat) (b : S27), R[i]? = some b → ∃ a, u[i]? = some a ∧ sameT a b
  | [], [], _, i, b, h => by simp at h
  | a :: u, b :: R, h, i, c, hi => by
    cases i with
    | zero => simp only [List.getElem?_cons_zero, Option.some.injEq] at hi; subst hi; exact ⟨a, rfl, h.1⟩
    | succ i => simpa using SameL_get h.2 i c (by simpa using hi)
theorem L51_loop (n : Nat) (R : List S27) (y : (List S27) × S45) (hl : R.length < 1000) (h : ∀ (i : Nat) (b : S27), R[i]? = some b → ∃ a, y.1[i]? = some a ∧ sameT a b) :
    ∀ m i : Nat, i ≤ R.length → R.length - i < m → F4_L51 n R y m (i : Int) = some (.out ())
  | 0, i, _, hm => by omega
  | m + 1, i, hi, hm => by
    rw [F4_L51, len_nat, lt_nat]
    by_cases hlt : i < R.length
    · have e := List.getElem?_eq_getElem hlt
      obtain ⟨a, ha, h1, h2, h3⟩ := h i _ e
      simp only [hlt, decide_true, cond_true, getL_nat, ha, e, ob_some, F11_eq]
      rw [eqI_iff.2 h1, eqS_iff.2 h2, eqI_iff.2 h3]
      simp only [Bool.and_self, Bool.not_true, cond_false]
      rw [add_one (by omega)]
      exact L51_loop n R y hl h m (i + 1) hlt (by omega)
    · simp only [hlt, decide_false, cond_false]
theorem L30_loop {n : Nat} (hn2 : 100 < n) (t : List S27) (hl : t.length < 1000) : ∀ (m i : Nat) (acc : List S27), i ≤ t.length → t.length - i < m → (∀ x ∈ acc, good n x ∧ x.f_Text.length ≤ 60) → acc.length ≤ i →
    ∃ R, F4_L30 n t m ((i : Int), acc) = some (.out R) ∧ (∀ x ∈ R, good n x ∧ x.f_Text.length ≤ 60) ∧ R.length ≤ t.length
  | 0, i, _, _, hm, _, _ => by omega
  | m + 1, i, acc, hi, hm, hA, hal => by
    rw [F4_L30]
    simp only [len_nat, lt_nat]
    by_cases hlt : i < t.length
    · have e := List.getElem?_eq_getElem hlt
      simp only [hlt, decide_true, cond_true, getL_nat, e, ob_some, len_nat]
      generalize t[i] = x
      rw [show (60 : Int) = ((60 : Nat) : Int) from rfl, le_nat, add_one (by omega)]
      have ih := fun acc h1 h2 => L30_loop hn2 t hl m (i + 1) acc hlt (by omega) h1 h2
      by_cases h60 : x.f_Text.length ≤ 60
      · simp only [h60, decide_true, cond_true]
        by_cases hnil : x.f_Text = []
        · rw [F8_nil n x hnil]
          have : cond (eqI x.f_Kind 3 && eqI x.f_N 0) (some (!(eqI x.f_Kind 3))) (some false) = some false := by
            cases eqI x.f_Kind 3 <;> cases eqI x.f_N 0 <;> rfl
          simp only [ob_some, this, cond_false]
          exact ih acc hA (by omega)
        · cases h8 : F8 n x with
          | none => rw [F8_eq n x hnil (by omega) hn2 (by omega)] at h8; cases h8
          | some b =>
            cases b with
            | false => simp only [ob_some, cond_false]; exact ih acc hA (by omega)
            | true =>
              have hg := F8_good hnil (by omega) hn2 (by omega) h8
              have hk : eqI x.f_Kind 3 = false := by
                rw [eqI_eq]; simpa using (tok_text n hg.2).2.2.1
              simp only [ob_some, cond_true, hk, Bool.not_false]
              rw [show appL 48 acc [x] = some (acc ++ [x]) from appL_eq (by decide) (by simp; omega)]
              simp only [ob_some]
              exact ih (acc ++ [x]) (fun y hy => by
                rcases List.mem_append.1 hy with hy | hy
                · exact hA y hy
                · obtain rfl := List.mem_singleton.1 hy
                  exact ⟨hg, h60⟩) (by simp; omega)
      · simp only [h60, decide_false, cond_false, ob_some]
        exact ih acc hA (by omega)
    · simp only [hlt, decide_false, cond_false]
      exact ⟨acc, rfl, hA, by omega⟩
theorem F13_loop (R : List S27) (hl : R.length < 1000) (h3 : ∀ x ∈ R, eqI x.f_Kind 3 = false) : ∀ (m i : Nat), i ≤ R.length → R.length - i < m → F13_L0 R m ((i : Int), (R.take i).map (·.f_Text)) = some (.out (R.map (·.f_Text)))
  | 0, i, _, hm => by omega
  | m + 1, i, hi, hm => by
    rw [F13_L0]
    simp only [len_nat, lt_nat]
    by_cases hlt : i < R.length
    · have e := List.getElem?_eq_getElem hlt
      simp only [hlt, decide_true, cond_true, getL_nat, e, ob_some, h3 _ (List.getElem_mem hlt), Bool.not_false]
      rw [show appL 16 ((R.take i).map (·.f_Text)) [R[i].f_Text] = some ((R.take i).map (·.f_Text) ++ [R[i].f_Text]) from appL_eq (by decide) (by simp; omega)]
      simp only [ob_some]
      rw [add_one (by omega), show (R.take i).map (·.f_Text) ++ [R[i].f_Text] = (R.take (i + 1)).map (·.f_Text) from by rw [List.take_add_one, e, List.map_append]; rfl]
      exact F13_loop R hl h3 m (i + 1) hlt (by omega)
    · simp only [hlt, decide_false, cond_false]
      rw [List.take_of_length_le (by omega)]
theorem join_len : ∀ (R : List S27), (∀ x ∈ R, x.f_Text.length ≤ 60) → (tl R).length ≤ 61 * R.length
  | [], _ => Nat.le_refl _
  | x :: R, h => by
    have := join_len R fun y hy => h y (by simp [hy])
    have := h x (by simp)
    rw [tl_cons]
    simp only [List.length_cons, List.length_append]; omega
theorem join_len2 (R : List S27) (h : ∀ x ∈ R, x.f_Text.length ≤ 60) : (Lib.join (R.map (·.f_Text)) [32]).length ≤ 61 * R.length := by
  cases R with
  | nil => exact Nat.le_refl _
  | cons x R =>
    rw [List.map_cons, Lib.join_cons]
    have h1 := join_len R fun y hy => h y (by simp [hy])
    have h2 := h x (by simp)
    have h3 : (Lib.joinTail [32] (R.map (·.f_Text))).length = (tl R).length := rfl
    simp only [List.length_append, List.length_cons]; omega
theorem F13_eq {n : Nat} {R : List S27} (hn : R.length < n) (hl : R.length < 1000) (h : ∀ x ∈ R, good n x ∧ x.f_Text.length ≤ 60) : F13 n R = some (Lib.join (R.map (·.f_Text)) [32]) := by
  have h3 : ∀ x ∈ R, eqI x.f_Kind 3 = false := fun x hx => by
    rw [eqI_eq]; simpa using (tok_text n (h x hx).1.2).2.2.1
  have h4 := join_len2 R fun x hx => (h x hx).2
  unfold F13
  have := F13_loop R hl h3 n 0 (Nat.zero_le _) (by omega)
  rw [show ((0 : Int), ([] : List (List UInt8))) = ((((0 : Nat)) : Int), (R.take 0).map (·.f_Text)) from rfl, this, ob_some]
  simp only [X26]
  rw [if_pos ⟨by rw [List.length_map]; omega, by omega⟩]; rfl
theorem L59_eq : F4_L59 = F4_L30 := by
  funext n t m
  induction m with
  | zero => rfl
  | succ m ih => funext s; rw [F4_L59, F4_L30, ih]
theorem L80_eq : F4_L80 = F4_L51 := by
  funext n t y m
  induction m with
  | zero => rfl
  | succ m ih => funext s; rw [F4_L80, F4_L51, ih]
theorem works_N : F6 5000 = some true := by decide +kernel
theorem F4_true (t0 : List UInt8) (t1 : List S27) : F4 5000 t0 t1 = some true := by
  unfold F4
  rw [L59_eq, L80_eq]
  simp only [works_N, ob_some, len_nat]
  rw [show (400 : Int) = ((400 : Nat) : Int) from rfl, show (30 : Int) = ((30 : Nat) : Int) from rfl, lt_nat, lt_nat]
  by_cases h1 : 400 < t0.length
  · simp [h1, obind]
  by_cases h2 : 30 < t1.length
  · simp [h2, obind]
  simp only [h1, h2, decide_false, cond_false, ob_some]
  obtain ⟨R, hR1, hR2, hR3⟩ := L30_loop (n := 5000) (by decide) t1 (by omega) 5000 0 [] (Nat.zero_le _) (by omega) (by simp) (Nat.le_refl _)
  have hj := join_len2 R fun x hx => (hR2 x hx).2
  obtain ⟨u, e, k1, k2, k3⟩ := all_join (n := 5000) (R := R) rfl (by omega) (by decide) (by omega) (by omega) (by omega) fun x hx => (hR2 x hx).1
  have hul := SameL_len k2
  have rest : (obind (F4_L30 5000 t1 5000 (0, ([] : List S27))) fun out30 => match out30 with | .ret _ => none | .out v43 => obind (F13 5000 v43) fun y44 => obind (F16 5000 y44) fun y45 => obind (cond ((!(eqI y45.2.f_Err 0))) (some true) (cond ((!(eqI ((y45.1.length : Int)) ((addI .i64 ((v43.length : Int)) 1))))) (some true) (obind (getL y45.1 ((v43.length : Int))) fun x49 => some ((!(eqI x49.f_Kind 3)))))) fun (v46 : (Bool)) => cond v46 (some false) (obind (F4_L51 5000 v43 y45 5000 0) fun out51 => match out51 with | .ret r => some r | .out v57 => some true)) = some true := by
    rw [show ((0 : Int), ([] : List S27)) = ((((0 : Nat)) : Int), []) from rfl, hR1, ob_some]
    simp only
    rw [F13_eq (by omega) (by omega) hR2, ob_some, k1, ob_some]
    simp only [f0]
    rw [show eqI 0 0 = true from rfl, add_one (by omega), eq_nat, show decide ((u ++ [e]).length = R.length + 1) = true from by simp [hul], getL_nat, show (u ++ [e])[R.length]? = some e from by rw [← hul]; simp, ob_some, k3, show eqI 3 3 = true from rfl]
    simp only [Bool.not_true, cond_false, ob_some]
    rw [show (0 : Int) = ((0 : Nat) : Int) from rfl, L51_loop 5000 R (u ++ [e], _) (by omega) (fun i b hb => by
      obtain ⟨a, ha, hs⟩ := SameL_get k2 i b hb
      have hi : i < u.length := (List.getElem?_eq_some_iff.1 ha).1
      exact ⟨a, by rw [List.getElem?_append_left hi]; exact ha, hs⟩) 5000 0 (Nat.zero_le _) (by omega)]
    rfl
  rcases F16_tot (n := 5000) (s := t0) (by omega) (by decide) (by omega) with ⟨f, h3, h4⟩ | ⟨l, h3, h4⟩
  · rw [h3, ob_some]
    simp only [h4, cond_false]
    exact rest
  · rw [h3, ob_some]
    simp only [f0]
    rw [show eqI 0 0 = true from rfl, cond_true]
    have hlen : l.length ≤ t0.length + 1 := by
      have : ∀ {p : Nat} {l : List S27}, Ch 5000 t0 p l → l.length ≤ t0.length - p + 1 := by
        intro p l h
        induction h with
        | fin hp h => simp
        | tok hq hp h ht hl k ih =>
          have := tok_len ht hq
          simp only [List.length_cons]; omega
      exact this h4
    have := L6_loop (n := 5000) (s := t0) (by omega) (by decide) (by omega) (l, f0) (by show l.length < _; omega) h4 [] 5000 rfl (by omega)
    simp only [f0] at this
    rw [show ((0 : Int), (0 : Int)) = ((([] : List S27).length : Int), ((0 : Nat) : Int)) from rfl, this, ob_some]
    simp only
    rw [eq_nat, show decide (t0.length = t0.length) = true from by simp]
    simp only [Bool.not_true, cond_false]
    exact rest
end Go.Gen
