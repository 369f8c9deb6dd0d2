/- The faster evaluator: operations. -/
import Derived.Test.YtmdmacmkmdgeaaaGreatDoorNK3
namespace Go.N
open Go Go.RowKit

theorem eqGuard_int (op : BinOp) (t : TypeId) (x y : Operand) (k k' : IntKind) (a b : Int) : eqGuard op t x y (.int k a) (.int k' b) = pure () := by
  unfold eqGuard; split <;> rfl
theorem eqGuard_str (op : BinOp) (t : TypeId) (x y : Operand) (a b : ByteArray) : eqGuard op t x y (.string a) (.string b) = pure () := by
  unfold eqGuard; split <;> rfl
theorem flat2_int {P : Program} {op : BinOp} {t : TypeId} {x y : Operand} {k : IntKind} {a b : Int} {u : Value} (h : eval0 P (binOp op t (.int k a) (.int k b)) = some u) {v : V} (hu : ofVal u = some v) :
    flat2 P op t x y (.sc (.int k a)) (.sc (.int k b)) = some v := by
  show (eval0 P (do eqGuard op t x y (.int k a) (.int k b); binOp op t (.int k a) (.int k b))).bind ofVal = some v
  rw [eqGuard_int, eval0_bind, eval0_pure]
  simp only [Option.bind_some, h, hu]
theorem flat2_str {P : Program} {op : BinOp} {t : TypeId} {x y : Operand} {a b : ByteArray} {u : Value} (h : eval0 P (binOp op t (.string a) (.string b)) = some u) {v : V} (hu : ofVal u = some v) :
    flat2 P op t x y (.sc (.string a)) (.sc (.string b)) = some v := by
  show (eval0 P (do eqGuard op t x y (.string a) (.string b); binOp op t (.string a) (.string b))).bind ofVal = some v
  rw [eqGuard_str, eval0_bind, eval0_pure]
  simp only [Option.bind_some, h, hu]
theorem bits_nat {k : IntKind} {m : Nat} (h : m ≤ topN k) : (BitVec.ofInt k.bits (Int.ofNat m)).toNat = m := by
  have hlt : m < 2 ^ k.bits := by cases k <;> simp [topN, IntKind.bits] at * <;> omega
  show (BitVec.ofInt k.bits (m : Int)).toNat = m
  rw [BitVec.ofInt_natCast, BitVec.toNat_ofNat, Nat.mod_eq_of_lt hlt]
theorem binZ_ok {P : Program} {op : BinOp} {t : TypeId} {x y : Operand} {k : IntKind} {a b : Int} {v : V} (h : binZ op k a b = some v) : flat2 P op t x y (.sc (.int k a)) (.sc (.int k b)) = some v := by
  have hk : ¬ (k ≠ k) := fun h => h rfl
  cases op with
  | add =>
    obtain rfl : kI k (Int.add a b) = v := Option.some.inj h
    rw [kI_eq]
    exact flat2_int (by simp only [binOp, if_neg hk, Op.intArith]; rfl) rfl
  | sub =>
    obtain rfl : kI k (Int.sub a b) = v := Option.some.inj h
    rw [kI_eq]
    exact flat2_int (by simp only [binOp, if_neg hk, Op.intArith]; rfl) rfl
  | mul =>
    obtain rfl : kI k (Int.mul a b) = v := Option.some.inj h
    rw [kI_eq]
    exact flat2_int (by simp only [binOp, if_neg hk, Op.intArith]; rfl) rfl
  | quo =>
    have h : Bool.rec (motive := fun _ => Option V) (some (kI k (Int.tdiv a b))) none (eqZ b 0) = some v := h
    cases hz : eqZ b 0 with
    | true => rw [hz] at h; cases h
    | false =>
      rw [hz] at h
      obtain rfl : kI k (Int.tdiv a b) = v := Option.some.inj h
      rw [eqZ_eq] at hz
      have hb : ¬ b = 0 := by simpa using hz
      rw [kI_eq]
      exact flat2_int (by simp only [binOp, if_neg hk, Op.intDiv, if_neg hb]; rfl) rfl
  | and =>
    have h : andZ k a b = some v := h
    cases a with
    | negSucc m => cases h
    | ofNat m =>
      cases b with
      | negSucc n => cases h
      | ofNat n =>
        have h : (bif Nat.ble m (topN k) && Nat.ble n (topN k) then some (kI k (.ofNat (Nat.land m n))) else none) = some v := h
        cases hb : (Nat.ble m (topN k) && Nat.ble n (topN k)) with
        | false => rw [hb] at h; cases h
        | true =>
          rw [hb] at h
          simp only [Bool.and_eq_true] at hb
          obtain rfl : kI k (.ofNat (Nat.land m n)) = v := Option.some.inj h
          rw [kI_eq]
          refine flat2_int (u := .int k (k.wrap (Int.ofNat (Nat.land m n)))) ?_ rfl
          simp only [binOp, if_neg hk, Op.intBits, BitVec.toNat_and, bits_nat (Nat.le_of_ble_eq_true hb.1), bits_nat (Nat.le_of_ble_eq_true hb.2)]
          rfl
  | or =>
    have h : orZ k a b = some v := h
    cases a with
    | negSucc m => cases h
    | ofNat m =>
      cases b with
      | negSucc n => cases h
      | ofNat n =>
        have h : (bif Nat.ble m (topN k) && Nat.ble n (topN k) then some (kI k (.ofNat (Nat.lor m n))) else none) = some v := h
        cases hb : (Nat.ble m (topN k) && Nat.ble n (topN k)) with
        | false => rw [hb] at h; cases h
        | true =>
          rw [hb] at h
          simp only [Bool.and_eq_true] at hb
          obtain rfl : kI k (.ofNat (Nat.lor m n)) = v := Option.some.inj h
          rw [kI_eq]
          refine flat2_int (u := .int k (k.wrap (Int.ofNat (Nat.lor m n)))) ?_ rfl
          simp only [binOp, if_neg hk, Op.intBits, BitVec.toNat_or, bits_nat (Nat.le_of_ble_eq_true hb.1), bits_nat (Nat.le_of_ble_eq_true hb.2)]
          rfl
  | eql =>
    obtain rfl : vB (eqZ a b) = v := Option.some.inj h
    rw [vB_eq, eqZ_eq]
    exact flat2_int (by simp only [binOp, if_neg hk, Op.intCmp]; rfl) rfl
  | neq =>
    obtain rfl : nB (eqZ a b) = v := Option.some.inj h
    rw [nB_eq, eqZ_eq]
    exact flat2_int (by simp only [binOp, if_neg hk, Op.intCmp]; rfl) rfl
  | lss =>
    obtain rfl : vB (ltZ a b) = v := Option.some.inj h
    rw [vB_eq, ltZ_eq]
    exact flat2_int (by simp only [binOp, if_neg hk, Op.intCmp]; rfl) rfl
  | leq =>
    obtain rfl : nB (ltZ b a) = v := Option.some.inj h
    rw [nB_eq, ltZ_eq]
    refine flat2_int (u := .bool (decide (a ≤ b))) (by simp only [binOp, if_neg hk, Op.intCmp]; rfl) ?_
    rw [show (!decide (b < a)) = decide (a ≤ b) by rw [← decide_not]; congr 1; exact propext (by omega)]
    rfl
  | gtr =>
    obtain rfl : vB (ltZ b a) = v := Option.some.inj h
    rw [vB_eq, ltZ_eq]
    exact flat2_int (by simp only [binOp, if_neg hk, Op.intCmp]; rfl) rfl
  | geq =>
    obtain rfl : nB (ltZ a b) = v := Option.some.inj h
    rw [nB_eq, ltZ_eq]
    refine flat2_int (u := .bool (decide (a ≥ b))) (by simp only [binOp, if_neg hk, Op.intCmp]; rfl) ?_
    rw [show (!decide (a < b)) = decide (a ≥ b) by rw [← decide_not]; congr 1; exact propext (by omega)]
    rfl
  | _ => cases h
theorem binB_ok {P : Program} {op : BinOp} {t : TypeId} {x y : Operand} {a b : ByteArray} {v : V} (h : binB op a.data.toList b.data.toList = some v) : flat2 P op t x y (.sc (.string a)) (.sc (.string b)) = some v := by
  have hsz : ∀ s : ByteArray, s.data.toList.length = s.size := fun s => rfl
  unfold binB at h
  split at h
  · cases hb : Nat.ble (Nat.add (lenA a.data.toList) (lenA b.data.toList)) 9223372036854775807 with
    | false => rw [hb] at h; cases h
    | true =>
      rw [hb] at h
      simp only [cond_true, Option.some.injEq] at h
      subst h
      have hle := Nat.le_of_ble_eq_true hb
      rw [lenA_eq, lenA_eq, hsz, hsz] at hle
      have hle : a.size + b.size ≤ 9223372036854775807 := hle
      clear hb
      refine flat2_str (u := .string (a ++ b)) ?_ ?_
      · have hmax : IntKind.i64.max = 9223372036854775807 := rfl
        have hn : ¬ (((a.size + b.size : Nat) : Int) > IntKind.i64.max) := by rw [hmax]; omega
        have e : binOp .add t (.string a) (.string b) = pure (.string (a ++ b)) := by
          show Op.stringOp .add a b = _
          unfold Op.stringOp
          exact if_neg hn
        rw [e]
        rfl
      · have e : (⟨⟨a.data.toList ++ b.data.toList⟩⟩ : ByteArray) = a ++ b := by
          apply ByteArray.ext
          apply Array.ext'
          simp [ByteArray.data_append]
        rw [e]
        rfl
  · simp only [Option.some.injEq] at h
    subst h
    rw [vB_eq, eqBs_eq]
    refine flat2_str (u := .bool (a.toList == b.toList)) (by rfl) ?_
    rw [ByteArray.toList_eq, ByteArray.toList_eq]
    rfl
  · simp only [Option.some.injEq] at h
    subst h
    rw [nB_eq, eqBs_eq]
    refine flat2_str (u := .bool (!(a.toList == b.toList))) (by rfl) ?_
    rw [ByteArray.toList_eq, ByteArray.toList_eq]
    rfl
  · cases h
theorem nilCmp_sc {P : Program} {op : BinOp} {t : TypeId} (u : Value) (b : V) : nilCmp P op t (.sc u) b = none := by
  unfold nilCmp
  split
  · rename_i h; cases h
  · rfl
theorem binN_ok {P : Program} {op : BinOp} {t : TypeId} {x y : Operand} {a b v : V} (h : binN op (typeKind P t) a b = some v) : bin2 P op t x y a b = some v := by
  have key : ∀ (i j k : Nat), typeKind P t = some i → nonNil a = some j → nilOf b = some k → Nat.beq i j = true → Nat.beq j k = true → nilCmp P op t a b = eqB op false := by
    intro i j k h1 h2 h3 h4 h5
    obtain rfl := Nat.eq_of_beq_eq_true h4
    obtain rfl := Nat.eq_of_beq_eq_true h5
    unfold nilCmp
    split
    · simp [nilOf] at h3
    · rw [h2, h3]
      simp only [h1, and_self, if_true]
  unfold binN at h
  split at h
  · split at h
    · rename_i i j k h1 h2 h3
      cases hb : (Nat.beq i j && Nat.beq j k) with
      | false => rw [hb] at h; cases h
      | true =>
        rw [hb] at h
        simp only [Bool.and_eq_true] at hb
        simp only [cond_true, Option.some.injEq] at h
        subst h
        unfold bin2
        rw [key i j k h1 h2 h3 hb.1 hb.2]
        rfl
    · cases h
  · split at h
    · rename_i i j k h1 h2 h3
      cases hb : (Nat.beq i j && Nat.beq j k) with
      | false => rw [hb] at h; cases h
      | true =>
        rw [hb] at h
        simp only [Bool.and_eq_true] at hb
        simp only [cond_true, Option.some.injEq] at h
        subst h
        unfold bin2
        rw [key i j k h1 h2 h3 hb.1 hb.2]
        rfl
    · cases h
  · cases h
theorem fastBin_ok {P : Program} {op : BinOp} {t : TypeId} {x y : Operand} {a b v : V} (h : fastBin op (typeKind P t) a b = some v) : bin2 P op t x y a b = some v := by
  unfold fastBin at h
  split at h
  · rename_i k m
    split at h
    · rename_i k' m'
      cases hb : Nat.beq (kNo k) (kNo k') with
      | false => rw [hb] at h; cases h
      | true =>
        rw [hb] at h
        obtain rfl := kNo_inj (Nat.eq_of_beq_eq_true hb)
        unfold bin2
        rw [nilCmp_sc]
        exact binZ_ok h
    · cases h
  · split at h
    · unfold bin2
      rw [nilCmp_sc]
      exact binB_ok h
    · cases h
  · exact binN_ok h
end Go.N
