/- The faster evaluator: slots, data. -/
import Derived.Test.YtmdmacmkmdgeaaaGreatDoorNK1
namespace Go.N
open Go Go.RowKit

/-! ### Trees -/
theorem get4_lf : ∀ (p : List D4), get4 p .lf = .tup []
  | [] => rfl
  | _ :: _ => rfl
theorem get4_vl (d : D4) (p : List D4) (x : V) : get4 (d :: p) (.vl x) = .tup [] := rfl
theorem get4_same (x : V) : ∀ (p : List D4) (t : T4), get4 p (put4 x p t) = x
  | [], t => rfl
  | d :: p, .lf => by cases d <;> exact get4_same x p .lf
  | d :: p, .vl _ => by cases d <;> exact get4_same x p .lf
  | d :: p, .nd a b c e => by
    cases d
    · exact get4_same x p a
    · exact get4_same x p b
    · exact get4_same x p c
    · exact get4_same x p e
theorem get4_ne (x : V) : ∀ (p q : List D4) (t : T4), p.length = q.length → p ≠ q → get4 p (put4 x q t) = get4 p t
  | [], [], _, _, h => absurd rfl h
  | [], _ :: _, _, h, _ => by simp at h
  | _ :: _, [], _, h, _ => by simp at h
  | d :: p, d' :: q, t, hl, hne => by
    have hl' : p.length = q.length := by simpa using hl
    have hlf : ∀ (r : List D4), get4 p (put4 x r .lf) = get4 p .lf ∨ p = r ∨ p.length ≠ r.length := fun r => by
      by_cases h1 : p.length = r.length
      · by_cases h2 : p = r
        · exact .inr (.inl h2)
        · exact .inl (get4_ne x p r .lf h1 h2)
      · exact .inr (.inr h1)
    have hlfq : d = d' → get4 p (put4 x q .lf) = get4 p .lf := fun hd => by
      rcases hlf q with h | h | h
      · exact h
      · exact absurd (by rw [hd, h]) hne
      · exact absurd hl' h
    have hnd : ∀ s, d = d' → get4 p (put4 x q s) = get4 p s := fun s hd => get4_ne x p q s hl' fun h => hne (by rw [hd, h])
    cases t with
    | lf => cases d <;> cases d' <;> first | exact get4_lf p | exact (hlfq rfl).trans (get4_lf p)
    | vl y => cases d <;> cases d' <;> first | exact get4_lf p | exact (hlfq rfl).trans (get4_lf p)
    | nd a b c e => cases d <;> cases d' <;> first | rfl | exact hnd _ rfl

theorem path_length : ∀ (D k : Nat), (path D k).length = D
  | 0, _ => rfl
  | D + 1, k => by simp [path, path_length D k]
theorem dig_inj {a b : Nat} (ha : a < 4) (hb : b < 4) (h : dig a = dig b) : a = b := by
  match a, b, ha, hb with
  | 0, 0, _, _ => rfl
  | 0, 1, _, _ => cases h
  | 0, 2, _, _ => cases h
  | 0, 3, _, _ => cases h
  | 1, 0, _, _ => cases h
  | 1, 1, _, _ => rfl
  | 1, 2, _, _ => cases h
  | 1, 3, _, _ => cases h
  | 2, 0, _, _ => cases h
  | 2, 1, _, _ => cases h
  | 2, 2, _, _ => rfl
  | 2, 3, _, _ => cases h
  | 3, 0, _, _ => cases h
  | 3, 1, _, _ => cases h
  | 3, 2, _, _ => cases h
  | 3, 3, _, _ => rfl
theorem path_mod : ∀ (D k j : Nat), path D k = path D j → k % 4 ^ D = j % 4 ^ D
  | 0, k, j, _ => by simp [Nat.mod_one]
  | D + 1, k, j, h => by
    simp only [path, List.cons.injEq] at h
    have h1 := dig_inj (Nat.mod_lt _ (by decide)) (Nat.mod_lt _ (by decide)) h.1
    have h2 := path_mod D k j h.2
    rw [Nat.mod_pow_succ, Nat.mod_pow_succ, h1, h2]
theorem path_inj {D k j : Nat} (hk : k < 4 ^ D) (hj : j < 4 ^ D) (h : path D k = path D j) : k = j := by
  have := path_mod D k j h
  rwa [Nat.mod_eq_of_lt hk, Nat.mod_eq_of_lt hj] at this
theorem get_put {D k j : Nat} (hk : k < 4 ^ D) (hj : j < 4 ^ D) (x : V) (t : T4) : get4 (path D k) (put4 x (path D j) t) = if k = j then x else get4 (path D k) t := by
  by_cases h : k = j
  · subst h; rw [if_pos rfl]; exact get4_same x _ t
  · rw [if_neg h]; exact get4_ne x _ _ t (by rw [path_length, path_length]) fun e => h (path_inj hk hj e)

theorem toL_get (n D : Nat) (t : T4) (k : Nat) : (toL n D t)[k]? = if k < n then some (get4 (path D k) t) else none := by
  unfold toL
  rw [List.getElem?_map]
  by_cases h : k < n
  · rw [List.getElem?_range h, if_pos h]; rfl
  · rw [List.getElem?_eq_none (by simpa using h), if_neg h]; rfl
theorem toL_length (n D : Nat) (t : T4) : (toL n D t).length = n := by simp [toL]
theorem toL_getD {n D k : Nat} (t : T4) (h : k < n) : (toL n D t).getD k (.tup []) = get4 (path D k) t := by
  rw [List.getD_eq_getElem?_getD, toL_get, if_pos h]; rfl
theorem toL_put {n D d : Nat} (hD : n ≤ 4 ^ D) (hd : d < n) (x : V) (t : T4) : toL n D (put4 x (path D d) t) = (toL n D t).set d x := by
  apply List.ext_getElem?
  intro k
  rw [toL_get, List.getElem?_set, toL_get, toL_length]
  by_cases hk : k < n
  · rw [if_pos hk, get_put (by omega) (by omega)]
    by_cases e : k = d
    · subst e; simp [hk]
    · rw [if_neg e, if_neg (Ne.symm e), if_pos hk]
  · rw [if_neg hk]
    rw [if_neg (by omega), if_neg hk]
theorem ofL_get {D : Nat} : ∀ (l : List V) (i : Nat) (t : T4) (k : Nat), k < 4 ^ D → i + l.length ≤ 4 ^ D → get4 (path D k) (ofL D l i t) = if i ≤ k then (match l[k - i]? with | some x => x | none => get4 (path D k) t) else get4 (path D k) t
  | [], i, t, k, _, _ => by simp [ofL]
  | x :: l, i, t, k, hk, hl => by
    have hl : i + (l.length + 1) ≤ 4 ^ D := hl
    show get4 (path D k) (ofL D l (i + 1) (put4 x (path D i) t)) = _
    rw [ofL_get l (i + 1) _ k hk (by omega), get_put hk (by omega)]
    by_cases h1 : k = i
    · subst h1
      rw [if_neg (by omega), if_pos rfl, if_pos (Nat.le_refl _), Nat.sub_self]
      rfl
    · by_cases h2 : i ≤ k
      · rw [if_pos (by omega), if_neg h1, if_pos h2, show k - i = (k - (i + 1)) + 1 by omega]
        rfl
      · rw [if_neg (by omega), if_neg h1, if_neg h2]
theorem toL_ofL {n D : Nat} (l : List V) (hl : l.length ≤ n) (hD : n ≤ 4 ^ D) : toL n D (ofL D l 0 .lf) = l ++ List.replicate (n - l.length) (.tup []) := by
  apply List.ext_getElem?
  intro k
  rw [toL_get]
  by_cases hk : k < n
  · rw [if_pos hk, ofL_get l 0 .lf k (by omega) (by omega), if_pos (Nat.zero_le _), Nat.sub_zero, get4_lf]
    by_cases h : k < l.length
    · rw [List.getElem?_append_left h, List.getElem?_eq_getElem h]
    · rw [List.getElem?_append_right (by omega), List.getElem?_eq_none (Nat.not_lt.1 h), List.getElem?_replicate, if_pos (by omega)]
  · rw [if_neg hk, List.getElem?_eq_none (by simp; omega)]
theorem toL_ofL_same {n D : Nat} (l : List V) (hl : l.length = n) (hD : n ≤ 4 ^ D) : toL n D (ofL D l 0 .lf) = l := by
  rw [toL_ofL l (by omega) hD, hl, Nat.sub_self]; simp

/-! ### Operands -/
section
variable {Z : Nat → Bool} {n D : Nat}
theorem karg_ok (t : T4) {x : Operand} {a : KA} (h : karg Z n D x = some a) : opnd Z (toL n D t) x = some (arg a t) := by
  cases x with
  | tmp k =>
    simp only [karg] at h
    cases hb : Nat.blt k n with
    | false => simp [hb] at h
    | true =>
      simp only [hb, cond_true, Option.some.injEq] at h
      subst h
      have hk : k < n := by simpa using hb
      simp only [opnd, toL_getD t hk]
      rfl
  | const v =>
    simp only [karg] at h
    obtain ⟨x, hx, rfl⟩ := Option.map_eq_some_iff.1 h
    simp only [opnd, hx]
    rfl
  | func f =>
    simp only [karg, Option.some.injEq] at h
    subst h
    rfl
  | global k =>
    simp only [karg] at h
    cases hb : Z k with
    | false => simp [hb] at h
    | true =>
      simp only [hb, cond_true, Option.some.injEq] at h
      subst h
      simp only [opnd, hb, if_true]
      rfl
theorem kargs_ok (t : T4) : ∀ {l : List Operand} {as : List KA}, kargs Z n D l = some as → opndL Z (toL n D t) l = some (argL as t)
  | [], as, h => by simp only [kargs, Option.some.injEq] at h; subst h; rfl
  | x :: l, as, h => by
    simp only [kargs] at h
    split at h
    · rename_i a as' h1 h2
      simp only [Option.some.injEq] at h
      subst h
      simp only [opndL, karg_ok t h1, kargs_ok t h2]
      rfl
    · cases h
theorem kargO_ok (t : T4) {x : Option Operand} {a : Option KA} (h : kargO Z n D x = some a) : optE Z (toL n D t) x = some (argO a t) := by
  cases x with
  | none => simp only [kargO, Option.some.injEq] at h; subst h; rfl
  | some x =>
    simp only [kargO] at h
    obtain ⟨b, hb, rfl⟩ := Option.map_eq_some_iff.1 h
    simp only [optE, karg_ok t hb, Option.map_some]
    rfl
theorem parts_zip (t : T4) : ∀ {l : List (Nat × Operand)} {as : List KA}, kargs Z n D (l.map (·.2)) = some as → partsE Z (toL n D t) l = some ((l.map (·.1)).zip (argL as t))
  | [], as, h => by simp only [List.map_nil, kargs, Option.some.injEq] at h; subst h; rfl
  | (i, x) :: l, as, h => by
    simp only [List.map_cons, kargs] at h
    split at h
    · rename_i a as' h1 h2
      simp only [Option.some.injEq] at h
      subst h
      simp only [partsE, karg_ok t h1, parts_zip t h2]
      rfl
    · cases h
theorem opndL_append {fr : List V} : ∀ {a b : List Operand} {xs : List V}, opndL Z fr (a ++ b) = some xs → opndL Z fr a = some (xs.take a.length) ∧ opndL Z fr b = some (xs.drop a.length)
  | [], b, xs, h => by simpa [opndL] using h
  | x :: a, b, xs, h => by
    simp only [List.cons_append, opndL] at h
    split at h
    · rename_i s ss h1 h2
      simp only [Option.some.injEq] at h
      subst h
      obtain ⟨k1, k2⟩ := opndL_append h2
      simp only [opndL, h1, k1, List.length_cons, List.take_succ_cons, List.drop_succ_cons, k2, and_self]
    · cases h
end

/-! ### Data -/
theorem wrap_in (k : IntKind) {n : Int} (h1 : (if k.signed then -(topN k : Int) - 1 else 0) ≤ n) (h2 : n ≤ topN k) : k.wrap n = n := by
  cases k <;> simp [IntKind.wrap, IntKind.bits, IntKind.signed, topN] at * <;> omega
theorem sgn_eq (k : IntKind) : sgn k = k.signed := by cases k <;> rfl
theorem kI_eq (k : IntKind) (n : Int) : kI k n = .sc (.int k (k.wrap n)) := by
  cases n with
  | ofNat m =>
    show Bool.rec (motive := fun _ => V) _ _ (Nat.ble m (topN k)) = _
    cases h : Nat.ble m (topN k) with
    | false => rfl
    | true =>
      have hm := Nat.le_of_ble_eq_true h
      have hw : k.wrap (Int.ofNat m) = Int.ofNat m := wrap_in k (by have : (0 : Int) ≤ Int.ofNat m := Int.natCast_nonneg _; split <;> omega) (by show (m : Int) ≤ _; omega)
      rw [hw]
      cases m <;> rfl
  | negSucc m =>
    show Bool.rec (motive := fun _ => V) _ _ (sgn k && Nat.ble m (topN k)) = _
    cases h : (sgn k && Nat.ble m (topN k)) with
    | false => rfl
    | true =>
      simp only [Bool.and_eq_true] at h
      have hm := Nat.le_of_ble_eq_true h.2
      rw [sgn_eq] at h
      have hw : k.wrap (Int.negSucc m) = Int.negSucc m := wrap_in k (by rw [if_pos h.1]; omega) (by omega)
      rw [hw]
      cases m <;> rfl
theorem ltZ_eq (a b : Int) : ltZ a b = decide (a < b) := by
  cases a with
  | ofNat m =>
    cases b with
    | ofNat n =>
      show Nat.blt m n = _
      rw [Bool.eq_iff_iff, decide_eq_true_eq, Nat.blt_eq]
      exact Int.ofNat_lt.symm
    | negSucc n => show false = _; simp; omega
  | negSucc m =>
    cases b with
    | ofNat n => show true = _; simp; omega
    | negSucc n =>
      show Nat.blt n m = _
      rw [Bool.eq_iff_iff, decide_eq_true_eq, Nat.blt_eq]; omega
theorem eqZ_eq (a b : Int) : eqZ a b = (a == b) := by
  cases a with
  | ofNat m =>
    cases b with
    | ofNat n =>
      show Nat.beq m n = _
      rw [Bool.eq_iff_iff, Nat.beq_eq, beq_iff_eq]
      exact Int.ofNat_inj.symm
    | negSucc n => show false = _; rw [eq_comm, beq_eq_false_iff_ne]; simp
  | negSucc m =>
    cases b with
    | ofNat n => show false = _; rw [eq_comm, beq_eq_false_iff_ne]; simp
    | negSucc n =>
      show Nat.beq m n = _
      rw [Bool.eq_iff_iff, Nat.beq_eq, beq_iff_eq, Int.negSucc_inj]
theorem kNo_inj {a b : IntKind} (h : kNo a = kNo b) : a = b := by cases a <;> cases b <;> first | rfl | cases h
theorem vB_eq (b : Bool) : vB b = .sc (.bool b) := by cases b <;> rfl
theorem nB_eq (b : Bool) : nB b = .sc (.bool (!b)) := by cases b <;> rfl
theorem eqBs_eq : ∀ (x y : List UInt8), eqBs x y = (x == y)
  | [], [] => rfl
  | [], _ :: _ => rfl
  | _ :: _, [] => rfl
  | a :: x, b :: y => by
    show Bool.rec (motive := fun _ => Bool) false (eqBs x y) (Nat.beq a.toNat b.toNat) = _
    rw [List.cons_beq_cons, eqBs_eq x y]
    by_cases h : a = b
    · subst h
      rw [Nat.beq_refl]; simp
    · have h1 : Nat.beq a.toNat b.toNat = false := by
        cases hb : Nat.beq a.toNat b.toNat with
        | false => rfl
        | true => exact absurd (UInt8.toNat_inj.1 (Nat.eq_of_beq_eq_true hb)) h
      rw [h1]; simp [h]
theorem lenA_eq {α : Type} : ∀ (l : List α), lenA l = l.length
  | [] => rfl
  | _ :: l => by show Nat.succ (lenA l) = _; rw [lenA_eq l]; rfl
theorem nthA_eq {α : Type} : ∀ (l : List α) (i : Nat), nthA l i = l[i]?
  | [], _ => by simp [nthA]
  | x :: l, 0 => rfl
  | x :: l, i + 1 => by show nthA l i = _; rw [nthA_eq l i]; rfl
theorem dropA_eq {α : Type} : ∀ (n : Nat) (l : List α), dropA n l = l.drop n
  | 0, _ => rfl
  | n + 1, [] => rfl
  | n + 1, _ :: l => by show dropA n l = _; rw [dropA_eq n l]; rfl
theorem takeA_eq {α : Type} : ∀ (n : Nat) (l : List α), takeA n l = l.take n
  | 0, _ => rfl
  | n + 1, [] => rfl
  | n + 1, x :: l => by show x :: takeA n l = _; rw [takeA_eq n l]; rfl
theorem overA_eq (cs : List V) : ∀ (n : Nat) (row : List V), n ≤ row.length → overA cs n row = overC row cs n
  | 0, row, _ => by
    show cs ++ dropA (lenA cs) row = _
    rw [dropA_eq, lenA_eq]; simp [overC]
  | n + 1, [], h => by simp at h
  | n + 1, x :: row, h => by
    show x :: overA cs n row = _
    rw [overA_eq cs n row (by simpa using h)]
    simp [overC, Nat.add_right_comm]
theorem trGet_eq : ∀ (t : Tr Ob) (k : Nat), trGet t k = t.get k
  | .lf, _ => rfl
  | .nd l o r, 0 => rfl
  | .nd l o r, k + 1 => by
    show Bool.rec (motive := fun _ => Option Ob) (trGet r (Nat.div k 2)) (trGet l (Nat.div k 2)) (Nat.beq (Nat.mod k 2) 0) = (bif Nat.beq (k % 2) 0 then l.get (k / 2) else r.get (k / 2))
    rw [trGet_eq l, trGet_eq r]
    show _ = (bif Nat.beq (Nat.mod k 2) 0 then _ else _)
    cases Nat.beq (Nat.mod k 2) 0 <;> rfl
theorem trPut_eq (o : Option Ob) : ∀ (f : Nat) (t : Tr Ob) (k : Nat), trPut o f t k = Tr.put f t k o
  | 0, _, _ => rfl
  | f + 1, .lf, 0 => rfl
  | f + 1, .nd _ _ _, 0 => rfl
  | f + 1, .lf, k + 1 => by
    show Bool.rec (motive := fun _ => Tr Ob) (.nd .lf none (trPut o f .lf (Nat.div k 2))) (.nd (trPut o f .lf (Nat.div k 2)) none .lf) (Nat.beq (Nat.mod k 2) 0) = (bif Nat.beq (k % 2) 0 then _ else _)
    rw [trPut_eq o f]
    show _ = (bif Nat.beq (Nat.mod k 2) 0 then _ else _)
    cases Nat.beq (Nat.mod k 2) 0 <;> rfl
  | f + 1, .nd l p r, k + 1 => by
    show Bool.rec (motive := fun _ => Tr Ob) (.nd l p (trPut o f r (Nat.div k 2))) (.nd (trPut o f l (Nat.div k 2)) p r) (Nat.beq (Nat.mod k 2) 0) = (bif Nat.beq (k % 2) 0 then _ else _)
    rw [trPut_eq o f, trPut_eq o f]
    show _ = (bif Nat.beq (Nat.mod k 2) 0 then _ else _)
    cases Nat.beq (Nat.mod k 2) 0 <;> rfl
theorem hGet_eq (h : Hp) (id : Nat) : hGet h id = h.get id := by
  obtain ⟨nx, lim, hid, tr⟩ := h
  cases hid with
  | nil => show trGet tr id = _; rw [trGet_eq]; rfl
  | cons f l => show (bif vis (f :: l) id then trGet tr id else none) = _; rw [trGet_eq]; rfl
theorem force_eq {α : Type} (v : V) (f : V → α) : force v f = f v := by
  unfold force
  split
  · rename_i k n
    cases n with
    | ofNat m => cases m <;> rfl
    | negSucc m => cases m <;> rfl
  · rfl
end Go.N
