/- Chapter 5: the next token; all tokens. -/
import Derived.Test.YtglnokfcjnnepaaDoorBP5d
namespace Go.Gen
open Go Go.Vm Go.Proofs
set_option maxRecDepth 100000

theorem clamp (s : List UInt8) (p : Nat) (hp : p ≤ s.length) : (bif ltI 0 ((bif ltI ((lenL s)) (p : Int) then (lenL s) else (p : Int))) then (bif ltI ((lenL s)) (p : Int) then (lenL s) else (p : Int)) else 0) = (p : Int) := by
  rw [len_nat, lt_nat, show decide (s.length < p) = false from by simp; omega]
  simp only [cond_false]
  rw [show (0 : Int) = ((0 : Nat) : Int) from rfl, lt_nat]
  by_cases h : 0 < p
  · simp [h]
  · simp [h]; omega
def f0 : S45 := ⟨p0, 0⟩
theorem F27_end {n : Nat} {s : List UInt8} (hn : s.length + 1 < n) (hs : s.length + 1 < 1000000) {p : Nat} (hp : p ≤ s.length) (h : F44 n s (p : Int) = some (s.length : Int)) :
    F27 n s (p : Int) = some (⟨3, [], 0, posOf s s.length⟩, (s.length : Int), f0) := by
  unfold F27
  rw [clamp s p hp, h, ob_some, F45_eq n s (by omega) (by omega) _ (Nat.le_refl _), ob_some, len_nat, eq_nat]
  simp only [decide_true, cond_true]; rfl
theorem F27_tok {n : Nat} {s : List UInt8} (hn : s.length + 1 < n) (hn2 : 100 < n) (hs : s.length + 1 < 1000000) {p q : Nat} (hp : p ≤ s.length) (hq : q < s.length) (h : F44 n s (p : Int) = some (q : Int)) {x : S27} {e : Int} (ht : tok n (s.drop q) = (x, e)) :
    F27 n s (p : Int) = some (bif eqI e 0 then (⟨x.f_Kind, x.f_Text, x.f_N, posOf s q⟩, addI .i64 (q : Int) (lenL x.f_Text), f0) else (⟨0, [], 0, p0⟩, (q : Int), ⟨posOf s q, e⟩)) := by
  have hd := List.drop_eq_getElem_cons hq
  have hl : (s.drop q).length ≤ s.length := by simp
  unfold F27
  rw [clamp s p hp, h, ob_some, F45_eq n s (by omega) (by omega) _ (by omega), ob_some, len_nat, eq_nat, show decide (q = s.length) = false from by simp; omega, cond_false, cutL_nat (by omega) (Nat.le_refl _), List.take_length, ob_some]
  rw [hd] at ht hl ⊢
  rw [F20_eq n _ _ (by omega) hn2 (by omega), ht, ob_some]
  simp only
  cases eqI e 0 <;> rfl
/-- Tokens that follow one another in a text. -/
inductive Ch (n : Nat) (s : List UInt8) : Nat → List S27 → Prop
  | fin {p : Nat} (hp : p ≤ s.length) (h : F44 n s (p : Int) = some (s.length : Int)) : Ch n s p [⟨3, [], 0, posOf s s.length⟩]
  | tok {p q : Nat} {x : S27} {l : List S27} (hq : q < s.length) (hp : p ≤ q) (h : F44 n s (p : Int) = some (q : Int)) (ht : tok n (s.drop q) = (x, 0)) (hl : q + x.f_Text.length ≤ s.length) (k : Ch n s (q + x.f_Text.length) l) :
      Ch n s p (⟨x.f_Kind, x.f_Text, x.f_N, posOf s q⟩ :: l)
def goes (acc : List S27) : Prop := acc = [] ∨ ∃ a z, acc = a ++ [z] ∧ z.f_Kind ≠ 3
theorem goes_head {acc : List S27} (h : goes acc) (hl : acc.length < 1000000) : obind (cond ((eqI ((lenL acc)) 0)) (some true) (obind (getL acc ((subI .i64 ((lenL acc)) 1))) fun x3 => some ((!(eqI x3.f_Kind 3))))) (fun v => some v) = some true := by
  rcases h with rfl | ⟨a, z, rfl, hz⟩
  · rfl
  · simp only [List.length_append, List.length_cons, List.length_nil] at hl
    rw [len_nat, show (0 : Int) = ((0 : Nat) : Int) from rfl, eq_nat, show (1 : Int) = ((1 : Nat) : Int) from rfl, sub_nat (by simp) (by simp; omega), getL_nat]
    have e1 : decide ((a ++ [z]).length = 0) = false := by simp
    have e2 : (a ++ [z])[(a ++ [z]).length - 1]? = some z := by simp
    have e3 : eqI z.f_Kind 3 = false := by rw [eqI_eq]; simpa using hz
    rw [e1, e2]
    simp only [cond_false, ob_some, e3, Bool.not_false]
theorem ob_id {α : Type} {o : Option α} {r : α} (h : obind o (fun v => some v) = some r) : o = some r := by
  obtain ⟨x, h1, h2⟩ := obind_some h
  rw [h1, h2]
theorem F16_step {n : Nat} {s : List UInt8} {m p : Nat} {acc : List S27} (h : goes acc) (hl : acc.length < 1000000) :
    F16_L0 n s (m + 1) ((p : Int), acc) = obind (F27 n s (p : Int)) fun y5 => cond ((!(eqI y5.2.2.f_Err 0))) (some (.ret (([] : (List S27)), y5.2.2))) (obind (appL 48 acc (([y5.1] : List S27))) fun x7 => F16_L0 n s m (y5.2.1, x7)) := by
  rw [F16_L0]
  rw [ob_id (goes_head h hl)]; rfl
theorem F16_stop {n : Nat} {s : List UInt8} {m : Nat} {p : Int} {acc : List S27} {z : S27} (hz : z.f_Kind = 3) (hl : acc.length < 1000000) : F16_L0 n s (m + 1) (p, acc ++ [z]) = some (.out (acc ++ [z])) := by
  rw [F16_L0]
  simp only
  rw [len_nat, show (0 : Int) = ((0 : Nat) : Int) from rfl, eq_nat, show (1 : Int) = ((1 : Nat) : Int) from rfl, sub_nat (by simp) (by simp; omega), getL_nat]
  have e1 : decide ((acc ++ [z]).length = 0) = false := by simp
  have e2 : (acc ++ [z])[(acc ++ [z]).length - 1]? = some z := by simp
  have e3 : eqI z.f_Kind 3 = true := by rw [eqI_eq, hz]; rfl
  rw [e1, e2]
  simp only [cond_false, ob_some, e3, Bool.not_true]
theorem F16_fin {n : Nat} {s : List UInt8} (hn : s.length + 1 < n) (hs : s.length + 1 < 1000000) {m p : Nat} {acc : List S27} (h : goes acc) (hl : acc.length < 900000) (hp : p ≤ s.length) (hf : F44 n s (p : Int) = some (s.length : Int)) :
    F16_L0 n s (m + 2) ((p : Int), acc) = some (.out (acc ++ [⟨3, [], 0, posOf s s.length⟩])) := by
  rw [F16_step h (by omega), F27_end hn hs hp hf]
  simp only [ob_some, f0]
  rw [show eqI 0 0 = true from rfl]
  simp only [Bool.not_true, cond_false]
  rw [show appL 48 acc [(⟨3, [], 0, posOf s s.length⟩ : S27)] = some (acc ++ [⟨3, [], 0, posOf s s.length⟩]) from appL_eq (by decide) (by simp; omega), ob_some]
  exact F16_stop rfl (by omega)
theorem tok_len {n : Nat} {s : List UInt8} {q : Nat} {x : S27} (h : tok n (s.drop q) = (x, 0)) (hq : q < s.length) : 0 < x.f_Text.length ∧ q + x.f_Text.length ≤ s.length := by
  obtain ⟨h1, h2, _, _⟩ := tok_text n h
  have := h2.length_le
  rw [List.length_drop] at this
  have := List.length_pos_iff.2 h1
  omega
theorem F16_tok {n : Nat} {s : List UInt8} (hn : s.length + 1 < n) (hn2 : 100 < n) (hs : s.length + 1 < 1000000) {m p q : Nat} {acc : List S27} (h : goes acc) (hl : acc.length < 900000) (hp : p ≤ s.length) (hq : q < s.length) (hf : F44 n s (p : Int) = some (q : Int)) {x : S27} (ht : tok n (s.drop q) = (x, 0)) :
    F16_L0 n s (m + 1) ((p : Int), acc) = F16_L0 n s m (((q + x.f_Text.length : Nat) : Int), acc ++ [⟨x.f_Kind, x.f_Text, x.f_N, posOf s q⟩]) := by
  have hx := tok_len ht hq
  rw [F16_step h (by omega), F27_tok hn hn2 hs hp hq hf ht]
  rw [show eqI 0 0 = true from rfl]
  simp only [cond_true, ob_some, f0]
  rw [show eqI 0 0 = true from rfl]
  simp only [Bool.not_true, cond_false]
  rw [show appL 48 acc [(⟨x.f_Kind, x.f_Text, x.f_N, posOf s q⟩ : S27)] = some (acc ++ [⟨x.f_Kind, x.f_Text, x.f_N, posOf s q⟩]) from appL_eq (by decide) (by simp; omega), ob_some, len_nat, add_nat (by omega)]
theorem goes_snoc {acc : List S27} {z : S27} (h : z.f_Kind ≠ 3) : goes (acc ++ [z]) := .inr ⟨acc, z, rfl, h⟩
theorem F16_loop {n : Nat} {s : List UInt8} (hn : s.length + 1 < n) (hn2 : 100 < n) (hs : s.length + 1 < 800000) : ∀ (m p : Nat) (acc : List S27), p ≤ s.length → s.length - p + 1 < m → goes acc → acc.length ≤ p →
    (∃ f : S45, F16_L0 n s m ((p : Int), acc) = some (.ret ([], f)) ∧ eqI f.f_Err 0 = false) ∨ ∃ l, F16_L0 n s m ((p : Int), acc) = some (.out (acc ++ l)) ∧ Ch n s p l
  | 0, _, _, _, h, _, _ => by omega
  | 1, _, _, _, h, _, _ => by omega
  | m + 2, p, acc, hp, h, hg, hl => by
    obtain ⟨q, k1, k2, k3, k4, k5⟩ := skip_ok n s (by omega) (by omega) p hp
    by_cases hq : q < s.length
    · cases ht : tok n (s.drop q) with
      | mk x e =>
        by_cases he : e = 0
        · subst he
          have hx := tok_len ht hq
          have hk := (tok_text n ht).2.2.1
          rw [F16_tok hn hn2 (by omega) hg (by omega) hp hq k3 ht]
          rcases F16_loop hn hn2 hs (m + 1) (q + x.f_Text.length) (acc ++ [⟨x.f_Kind, x.f_Text, x.f_N, posOf s q⟩]) hx.2 (by omega) (goes_snoc hk) (by simp; omega) with ⟨f, h1, h2⟩ | ⟨l, h1, h2⟩
          · exact .inl ⟨f, h1, h2⟩
          · exact .inr ⟨_, by rw [h1, List.append_assoc]; rfl, .tok hq k1 k3 ht hx.2 h2⟩
        · left
          have e0 : eqI e 0 = false := by rw [eqI_eq]; simpa using he
          refine ⟨⟨posOf s q, e⟩, ?_, e0⟩
          rw [F16_step hg (by omega), F27_tok hn hn2 (by omega) hp hq k3 ht, e0]
          simp only [cond_false, ob_some, e0, Bool.not_false, cond_true]
    · have : q = s.length := by omega
      subst this
      right
      exact ⟨_, F16_fin hn (by omega) hg (by omega) hp k3, .fin hp k3⟩
theorem F16_tot {n : Nat} {s : List UInt8} (hn : s.length + 2 < n) (hn2 : 100 < n) (hs : s.length + 1 < 800000) :
    (∃ f : S45, F16 n s = some ([], f) ∧ eqI f.f_Err 0 = false) ∨ ∃ l, F16 n s = some (l, f0) ∧ Ch n s 0 l := by
  unfold F16
  rcases F16_loop (by omega) hn2 hs n 0 [] (Nat.zero_le _) (by omega) (.inl rfl) (Nat.le_refl _) with ⟨f, h1, h2⟩ | ⟨l, h1, h2⟩
  · rw [show ((0 : Int), ([] : List S27)) = ((((0 : Nat)) : Int), []) from rfl, h1]; exact .inl ⟨f, rfl, h2⟩
  · rw [show ((0 : Int), ([] : List S27)) = ((((0 : Nat)) : Int), []) from rfl, h1]; exact .inr ⟨l, rfl, h2⟩
theorem F11_eq (n : Nat) (a b : S27) : F11 n a b = some (eqI a.f_Kind b.f_Kind && (eqS a.f_Text b.f_Text && eqI a.f_N b.f_N)) := by
  unfold F11
  cases eqI a.f_Kind b.f_Kind <;> cases eqS a.f_Text b.f_Text <;> rfl
theorem F8_nil (n : Nat) (x : S27) (h : x.f_Text = []) : F8 n x = some (eqI x.f_Kind 3 && eqI x.f_N 0) := by
  unfold F8
  rw [h]
  show cond (eqS [] []) _ _ = _
  cases eqI x.f_Kind 3 <;> rfl
theorem F8_eq (n : Nat) (x : S27) (h : x.f_Text ≠ []) (hn : x.f_Text.length < n) (hn2 : 100 < n) (hs : x.f_Text.length < 1000000) :
    F8 n x = some (eqI (tok n x.f_Text).2 0 && (eqI (tok n x.f_Text).1.f_Kind x.f_Kind && (eqS (tok n x.f_Text).1.f_Text x.f_Text && eqI (tok n x.f_Text).1.f_N x.f_N))) := by
  unfold F8
  have e : eqS x.f_Text [] = false := by rw [Bool.eq_false_iff]; intro k; exact h (eqS_iff.1 k)
  rw [e, cond_false]
  cases ht : x.f_Text with
  | nil => exact absurd ht h
  | cons c l =>
    rw [ht] at hn hs
    rw [F20_eq n c l hn hn2 hs, ob_some, F11_eq, ht]
    cases eqI (tok n (c :: l)).2 0 <;> rfl
end Go.Gen
