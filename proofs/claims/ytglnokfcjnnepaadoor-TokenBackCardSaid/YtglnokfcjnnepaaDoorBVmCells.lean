/- Rows of cells: from the tie to lists of values and back; loads and stores of rows. -/
import Derived.Test.YtglnokfcjnnepaaDoorBVmCore
namespace Go.Vm
open Go Go.RowKit

theorem CRL.length {g : G} : {xs : List D} → {vs : List Value} → CRL g xs vs → xs.length = vs.length
  | _, _, .nil => rfl
  | _, _, .cons _ _ _ _ _ k => by simp [CRL.length k]

theorem CRL.get {g : G} : {xs : List D} → {vs : List Value} → CRL g xs vs → ∀ (i : Nat) (x : D), xs[i]? = some x → ∃ v, vs[i]? = some v ∧ CR g x v
  | _, _, .nil, i, x, h => by simp at h
  | _, _, .cons x v xs vs h k, 0, y, e => by
    simp only [List.getElem?_cons_zero, Option.some.injEq] at e
    subst e; exact ⟨v, by simp, h⟩
  | _, _, .cons x v xs vs h k, i + 1, y, e => by
    simp only [List.getElem?_cons_succ] at e ⊢
    exact CRL.get k i y e

theorem CRL.append {g : G} {xs ys : List D} {vs us : List Value} (h : CRL g xs vs) (k : CRL g ys us) : CRL g (xs ++ ys) (vs ++ us) := by
  induction xs generalizing vs with
  | nil => cases h; exact k
  | cons x xs ih =>
    cases h with
    | cons _ v _ vs h1 h2 => exact .cons _ _ _ _ h1 (ih h2)

theorem CRL.take {g : G} {xs : List D} {vs : List Value} (h : CRL g xs vs) (n : Nat) : CRL g (xs.take n) (vs.take n) := by
  induction xs generalizing vs n with
  | nil => cases h; simp only [List.take_nil]; exact .nil
  | cons x xs ih =>
    cases h with
    | cons _ v _ vs h1 h2 =>
      cases n with
      | zero => exact .nil
      | succ n => exact .cons _ _ _ _ h1 (ih h2 n)

theorem CRL.drop {g : G} {xs : List D} {vs : List Value} (h : CRL g xs vs) (n : Nat) : CRL g (xs.drop n) (vs.drop n) := by
  induction xs generalizing vs n with
  | nil => cases h; simp only [List.drop_nil]; exact .nil
  | cons x xs ih =>
    cases h with
    | cons _ v _ vs h1 h2 =>
      cases n with
      | zero => exact .cons _ _ _ _ h1 h2
      | succ n => exact ih h2 n

/-- The cells of a block hold these values, all to stay. -/
def Holds (g : G) (b o : Nat) (vs : List Value) : Prop :=
  ∀ (j : Nat) (v : Value), vs[j]? = some v → g.w.cell? ⟨b, o + j, none⟩ = some v

theorem Holds.tail {g : G} {b o : Nat} {v : Value} {vs : List Value} (h : Holds g b o (v :: vs)) : Holds g b (o + 1) vs := fun j u hu => by
  have := h (j + 1) u (by simpa using hu)
  rwa [show o + (j + 1) = o + 1 + j from by omega] at this

theorem CRC.of {g : G} {b o : Nat} {xs : List D} {vs : List Value} (h : CRL g xs vs) (hc : Holds g b o vs) (hs : ∀ j, j < vs.length → g.S b (o + j))
    (h1 : ∀ u ∈ vs, u.oneCell' = true) : CRC g b o xs := by
  induction xs generalizing vs o with
  | nil => exact .nil _ _
  | cons x xs ih =>
    cases h with
    | cons _ v _ vs k1 k2 =>
      refine .cons _ _ _ v _ (by simpa using hc 0 v (by simp)) (by simpa using hs 0 (by simp)) (h1 v (by simp)) k1 (ih k2 hc.tail ?_ fun u hu => h1 u (by simp [hu]))
      intro j hj
      rw [show o + 1 + j = o + (j + 1) from by omega]
      exact hs (j + 1) (by simp; omega)

theorem CRC.vals {g : G} {b o : Nat} {xs : List D} (h : CRC g b o xs) : ∃ vs, CRL g xs vs ∧ Holds g b o vs ∧ (∀ u ∈ vs, u.oneCell' = true) ∧ ∀ j, j < vs.length → g.S b (o + j) := by
  induction xs generalizing o with
  | nil => exact ⟨[], .nil, fun j v h => by simp at h, by simp, by simp⟩
  | cons x xs ih =>
    cases h with
    | cons _ _ _ v _ hc hs h1 h k =>
      obtain ⟨vs, k1, k2, k3, k4⟩ := ih k
      refine ⟨v :: vs, .cons _ _ _ _ h k1, ?_, by simp only [List.mem_cons, forall_eq_or_imp]; exact ⟨h1, k3⟩, ?_⟩
      · intro j u hu
        cases j with
        | zero => simp only [List.getElem?_cons_zero, Option.some.injEq] at hu; subst hu; simpa using hc
        | succ j =>
          have := k2 j u (by simpa using hu)
          rwa [show o + 1 + j = o + (j + 1) from by omega] at this
      · intro j hj
        cases j with
        | zero => simpa using hs
        | succ j =>
          have := k4 j (by simpa using hj)
          rwa [show o + 1 + j = o + (j + 1) from by omega] at this

theorem CRC.append {g : G} {b o : Nat} {xs ys : List D} (h : CRC g b o xs) (k : CRC g b (o + xs.length) ys) : CRC g b o (xs ++ ys) := by
  induction xs generalizing o with
  | nil => simpa using k
  | cons x xs ih =>
    cases h with
    | cons _ _ _ v _ hc hs h1 h2 h3 =>
      refine .cons _ _ _ v _ hc hs h1 h2 (ih h3 ?_)
      simp only [List.length_cons] at k
      rwa [show o + 1 + xs.length = o + (xs.length + 1) from by omega]

theorem CRC.left {g : G} {b o : Nat} {xs ys : List D} (h : CRC g b o (xs ++ ys)) : CRC g b o xs := by
  induction xs generalizing o with
  | nil => exact .nil _ _
  | cons x xs ih =>
    cases h with
    | cons _ _ _ v _ hc hs h1 h2 h3 => exact .cons _ _ _ v _ hc hs h1 h2 (ih h3)

theorem CRC.right {g : G} {b o : Nat} {xs ys : List D} (h : CRC g b o (xs ++ ys)) : CRC g b (o + xs.length) ys := by
  induction xs generalizing o with
  | nil => simpa using h
  | cons x xs ih =>
    cases h with
    | cons _ _ _ v _ hc hs h1 h2 h3 =>
      have := ih h3
      simp only [List.length_cons]
      rwa [show o + (xs.length + 1) = o + 1 + xs.length from by omega]

theorem CRR.flat {g : G} {b o sz : Nat} {rows : List (List D)} (h : CRR g b o sz rows) : CRC g b o rows.flatten ∧ ∀ r ∈ rows, r.length = sz := by
  induction rows generalizing o with
  | nil => exact ⟨.nil _ _, by simp⟩
  | cons r rows ih =>
    cases h with
    | cons _ _ _ _ _ hl hc k =>
      obtain ⟨k1, k2⟩ := ih k
      refine ⟨?_, by simp only [List.mem_cons, forall_eq_or_imp]; exact ⟨hl, k2⟩⟩
      simp only [List.flatten_cons]
      exact hc.append (by rw [hl]; exact k1)

theorem CRR.of {g : G} {b o sz : Nat} {rows : List (List D)} (h : CRC g b o rows.flatten) (hl : ∀ r ∈ rows, r.length = sz) : CRR g b o sz rows := by
  induction rows generalizing o with
  | nil => exact .nil _ _ _
  | cons r rows ih =>
    simp only [List.flatten_cons] at h
    have hr := hl r (by simp)
    refine .cons _ _ _ _ _ hr h.left (ih ?_ fun r hr => hl r (by simp [hr]))
    have := h.right
    rwa [hr] at this

theorem CRR.row {g : G} {b o sz : Nat} {rows : List (List D)} (h : CRR g b o sz rows) (i : Nat) (r : List D) (hr : rows[i]? = some r) : CRC g b (o + i * sz) r ∧ r.length = sz := by
  induction rows generalizing o i with
  | nil => simp at hr
  | cons r0 rows ih =>
    cases h with
    | cons _ _ _ _ _ hl hc k =>
      cases i with
      | zero =>
        simp only [List.getElem?_cons_zero, Option.some.injEq] at hr
        subst hr
        exact ⟨by simpa using hc, hl⟩
      | succ i =>
        obtain ⟨k1, k2⟩ := ih k i (by simpa using hr)
        refine ⟨?_, k2⟩
        rwa [show o + (i + 1) * sz = o + sz + i * sz from by rw [Nat.succ_mul]; omega]

theorem CRR.drop {g : G} {b o sz : Nat} {rows : List (List D)} (h : CRR g b o sz rows) (n : Nat) : CRR g b (o + n * sz) sz (rows.drop n) := by
  induction rows generalizing o n with
  | nil => simp only [List.drop_nil]; exact .nil _ _ _
  | cons r rows ih =>
    cases n with
    | zero => simpa using h
    | succ n =>
      cases h with
      | cons _ _ _ _ _ hl hc k =>
        have := ih k n
        rwa [show o + (n + 1) * sz = o + sz + n * sz from by rw [Nat.succ_mul]; omega]

theorem CRR.take {g : G} {b o sz : Nat} {rows : List (List D)} (h : CRR g b o sz rows) (n : Nat) : CRR g b o sz (rows.take n) := by
  induction rows generalizing o n with
  | nil => simp only [List.take_nil]; exact .nil _ _ _
  | cons r rows ih =>
    cases n with
    | zero => exact .nil _ _ _
    | succ n =>
      cases h with
      | cons _ _ _ _ _ hl hc k => exact .cons _ _ _ _ _ hl hc (ih k n)

theorem CRC.drop {g : G} {b o : Nat} {xs : List D} (h : CRC g b o xs) (n : Nat) (hn : n ≤ xs.length) : CRC g b (o + n) (xs.drop n) := by
  have := h
  rw [← List.take_append_drop n xs] at this
  have := this.right
  rwa [List.length_take, Nat.min_eq_left hn] at this

theorem CRC.take {g : G} {b o : Nat} {xs : List D} (h : CRC g b o xs) (n : Nat) : CRC g b o (xs.take n) := by
  have := h
  rw [← List.take_append_drop n xs] at this
  exact this.left

theorem addr_add (b o j : Nat) : (⟨b, o, none⟩ : Addr).add j = ⟨b, o + j, none⟩ := by
  unfold Addr.add; split <;> simp_all

def isAggT (P : Program) (t : TypeId) : Bool := match P.underlying t with
  | some (.struct _) | some (.array ..) => true
  | _ => false
def szOf (P : Program) (t : TypeId) : Nat := ((P.info? t).map (·.size)).getD 0

theorem run_isAgg {P : Program} {t : TypeId} {d : TypeDesc} (h : P.underlying t = some d) (w : World) : (isAgg t).run P w = .ok (isAggT P t) w := by
  unfold isAgg isAggT
  simp only [Sem.run_bind, underlying, run_program, Result.andThen_ok, h, Sem.run_pure]
  cases d <;> rfl

theorem run_sizeOf {P : Program} {t : TypeId} {i : TypeInfo} (h : P.info? t = some i) (w : World) : (sizeOf t).run P w = .ok (szOf P t) w := by
  simp [sizeOf, typeInfo, szOf, h]

end Go.Vm
