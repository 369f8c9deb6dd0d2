/- The VM at symbols: what operations yield at strings, numbers and lists that are not known. -/
import Derived.Test.YtglnokfcjnnepaaDoorBVmFunc
import Derived.Lib.Strings
namespace Go.Vm
open Go Go.RowKit

abbrev str (l : List UInt8) : D := .sc (.string ⟨⟨l⟩⟩)
abbrev i64 (n : Int) : D := .sc (.int .i64 n)
abbrev tb (b : Bool) : D := .sc (.bool b)

theorem eval0_bind {α β : Type} (P : Program) : (x : Sem α) → (f : α → Sem β) → eval0 P (x >>= f) = (eval0 P x).bind fun a => eval0 P (f a)
  | .pure a, f => rfl
  | .program k, f => eval0_bind P (k P) f
  | .mark _ k, f => eval0_bind P k f
  | .load .., f | .store .., f | .new .., f | .shape .., f | .freeze .., f | .frozen .., f | .getObj .., f | .setObj .., f | .choose .., f | .sys .., f | .halt .., f => rfl
theorem eval0_pure {α : Type} (P : Program) (a : α) : eval0 P (pure a : Sem α) = some a := rfl
theorem eval0_underlying {P : Program} {t : TypeId} {d : TypeDesc} (h : P.underlying t = some d) : eval0 P (underlying t) = some d := by
  unfold underlying
  simp only [eval0_bind]
  have : eval0 P (program : Sem Program) = some P := rfl
  rw [this]
  simp only [Option.bind_some, h]
  rfl

theorem ba_get (l : List UInt8) (i : Nat) : (⟨⟨l⟩⟩ : ByteArray)[i]? = l[i]? := by
  by_cases h : i < l.length
  · rw [List.getElem?_eq_getElem h]
    exact getElem?_pos (⟨⟨l⟩⟩ : ByteArray) i h
  · rw [List.getElem?_eq_none (by omega)]
    exact getElem?_neg (⟨⟨l⟩⟩ : ByteArray) i h
theorem ba_size (l : List UInt8) : (⟨⟨l⟩⟩ : ByteArray).size = l.length := rfl
theorem ba_extract (l : List UInt8) (a b : Nat) : (⟨⟨l⟩⟩ : ByteArray).extract a b = ⟨⟨(l.drop a).take (b - a)⟩⟩ := by
  rw [Go.Lib.extract_eq]

/-- 's[i]' -/
theorem idx_str {P : Program} {T : TypeId} (hT : P.underlying T = some .string) {l : List UInt8} {i : Nat} {b : UInt8} (h : l[i]? = some b) :
    eval0 P (Instr.index T (.string ⟨⟨l⟩⟩) (.int .i64 i)) = some (.int .u8 b.toNat) := by
  unfold Instr.index
  have e : (asIntOf (.int .i64 (i : Int))) = pure (.i64, (i : Int)) := rfl
  simp only [e, pure_bind, eval0_bind, eval0_underlying hT, Option.bind_some]
  simp only [Int.natCast_nonneg, if_true, Int.toNat_natCast, ba_get, h]
  rfl

/-- 's[a:b]' -/
theorem slice_str {P : Program} {T : TypeId} (hT : P.underlying T = some .string) {l : List UInt8} {a b : Nat} (h1 : a ≤ b) (h2 : b ≤ l.length) :
    eval0 P (Instr.sliceAt T (.string ⟨⟨l⟩⟩) (some (.int .i64 a)) (some (.int .i64 b)) none) = some (.string ⟨⟨(l.drop a).take (b - a)⟩⟩) := by
  unfold Instr.sliceAt
  simp only [eval0_bind, eval0_underlying hT, Option.bind_some]
  unfold Instr.slice
  simp only [eval0_bind, eval0_underlying hT, Option.bind_some, Option.isSome_none, Bool.false_eq_true, if_false]
  have hb : (Instr.sliceBounds false (⟨⟨l⟩⟩ : ByteArray).size (⟨⟨l⟩⟩ : ByteArray).size (some (.int .i64 a)) (some (.int .i64 b)) none) = pure (a, b, l.length) := by
    unfold Instr.sliceBounds Instr.sliceBound
    have e : ∀ n : Nat, (asIntOf (.int .i64 (n : Int))) = pure (.i64, (n : Int)) := fun _ => rfl
    simp only [e, pure_bind, ba_size]
    rw [if_pos ⟨Int.natCast_nonneg _, by omega⟩]
    simp only [Int.toNat_natCast, pure_bind]
    rw [if_pos ⟨Int.natCast_nonneg _, by omega⟩]
    simp
  rw [hb]
  simp only [pure_bind, eval0_pure, Option.bind_some, ba_extract]
/-- 's[:b]' -/
theorem slice_str_to {P : Program} {T : TypeId} (hT : P.underlying T = some .string) {l : List UInt8} {b : Nat} (h2 : b ≤ l.length) :
    eval0 P (Instr.sliceAt T (.string ⟨⟨l⟩⟩) none (some (.int .i64 b)) none) = some (.string ⟨⟨l.take b⟩⟩) := by
  unfold Instr.sliceAt
  simp only [eval0_bind, eval0_underlying hT, Option.bind_some]
  unfold Instr.slice
  simp only [eval0_bind, eval0_underlying hT, Option.bind_some, Option.isSome_none, Bool.false_eq_true, if_false]
  have hb : (Instr.sliceBounds false (⟨⟨l⟩⟩ : ByteArray).size (⟨⟨l⟩⟩ : ByteArray).size none (some (.int .i64 b)) none) = pure (0, b, l.length) := by
    unfold Instr.sliceBounds Instr.sliceBound
    have e : ∀ n : Nat, (asIntOf (.int .i64 (n : Int))) = pure (.i64, (n : Int)) := fun _ => rfl
    simp only [e, pure_bind, ba_size]
    rw [if_pos ⟨Int.natCast_nonneg _, by omega⟩]
    simp only [Int.toNat_natCast, pure_bind]
  rw [hb]
  simp only [pure_bind, eval0_pure, Option.bind_some, ba_extract, List.drop_zero, Nat.sub_zero]
/-- 's[a:]' -/
theorem slice_str_from {P : Program} {T : TypeId} (hT : P.underlying T = some .string) {l : List UInt8} {a : Nat} (h1 : a ≤ l.length) :
    eval0 P (Instr.sliceAt T (.string ⟨⟨l⟩⟩) (some (.int .i64 a)) none none) = some (.string ⟨⟨l.drop a⟩⟩) := by
  unfold Instr.sliceAt
  simp only [eval0_bind, eval0_underlying hT, Option.bind_some]
  unfold Instr.slice
  simp only [eval0_bind, eval0_underlying hT, Option.bind_some, Option.isSome_none, Bool.false_eq_true, if_false]
  have hb : (Instr.sliceBounds false (⟨⟨l⟩⟩ : ByteArray).size (⟨⟨l⟩⟩ : ByteArray).size (some (.int .i64 a)) none none) = pure (a, l.length, l.length) := by
    unfold Instr.sliceBounds Instr.sliceBound
    have e : ∀ n : Nat, (asIntOf (.int .i64 (n : Int))) = pure (.i64, (n : Int)) := fun _ => rfl
    simp only [e, pure_bind, ba_size]
    rw [if_pos ⟨Int.natCast_nonneg _, by omega⟩]
    simp only [Int.toNat_natCast, pure_bind]
  rw [hb]
  simp only [pure_bind, eval0_pure, Option.bind_some, ba_extract]
  rw [List.take_of_length_le (by simp)]

/-! Comparisons, sums, differences and products of integers. -/
theorem i_geq (P : Program) (t : TypeId) (x y : Operand) (k : IntKind) (a b : Int) : bin2 P .geq t x y (.d (.sc (.int k a))) (.d (.sc (.int k b))) = some (tb (decide (b ≤ a))) := by
  unfold bin2 nilCmp nonNil flat2 valOf; simp [eval0, eqGuard, binOp, Op.intCmp, Op.intArith, bind, Sem.bind, pure, ofVF]
theorem i_leq (P : Program) (t : TypeId) (x y : Operand) (k : IntKind) (a b : Int) : bin2 P .leq t x y (.d (.sc (.int k a))) (.d (.sc (.int k b))) = some (tb (decide (a ≤ b))) := by
  unfold bin2 nilCmp nonNil flat2 valOf; simp [eval0, eqGuard, binOp, Op.intCmp, Op.intArith, bind, Sem.bind, pure, ofVF]
theorem i_lss (P : Program) (t : TypeId) (x y : Operand) (k : IntKind) (a b : Int) : bin2 P .lss t x y (.d (.sc (.int k a))) (.d (.sc (.int k b))) = some (tb (decide (a < b))) := by
  unfold bin2 nilCmp nonNil flat2 valOf; simp [eval0, eqGuard, binOp, Op.intCmp, Op.intArith, bind, Sem.bind, pure, ofVF]
theorem i_gtr (P : Program) (t : TypeId) (x y : Operand) (k : IntKind) (a b : Int) : bin2 P .gtr t x y (.d (.sc (.int k a))) (.d (.sc (.int k b))) = some (tb (decide (b < a))) := by
  unfold bin2 nilCmp nonNil flat2 valOf; simp [eval0, eqGuard, binOp, Op.intCmp, Op.intArith, bind, Sem.bind, pure, ofVF]
theorem i_eql (P : Program) (t : TypeId) (x y : Operand) (k : IntKind) (a b : Int) : bin2 P .eql t x y (.d (.sc (.int k a))) (.d (.sc (.int k b))) = some (tb (a == b)) := by
  unfold bin2 nilCmp nonNil flat2 valOf; simp [eval0, eqGuard, binOp, Op.intCmp, Op.intArith, bind, Sem.bind, pure, ofVF]
theorem i_neq (P : Program) (t : TypeId) (x y : Operand) (k : IntKind) (a b : Int) : bin2 P .neq t x y (.d (.sc (.int k a))) (.d (.sc (.int k b))) = some (tb (a != b)) := by
  unfold bin2 nilCmp nonNil flat2 valOf; simp [eval0, eqGuard, binOp, Op.intCmp, Op.intArith, bind, Sem.bind, pure, ofVF]
theorem i_add (P : Program) (t : TypeId) (x y : Operand) (k : IntKind) (a b : Int) : bin2 P .add t x y (.d (.sc (.int k a))) (.d (.sc (.int k b))) = some (.sc (.int k (k.wrap (a + b)))) := by
  unfold bin2 nilCmp nonNil flat2 valOf; simp [eval0, eqGuard, binOp, Op.intCmp, Op.intArith, bind, Sem.bind, pure, ofVF]
theorem i_sub (P : Program) (t : TypeId) (x y : Operand) (k : IntKind) (a b : Int) : bin2 P .sub t x y (.d (.sc (.int k a))) (.d (.sc (.int k b))) = some (.sc (.int k (k.wrap (a - b)))) := by
  unfold bin2 nilCmp nonNil flat2 valOf; simp [eval0, eqGuard, binOp, Op.intCmp, Op.intArith, bind, Sem.bind, pure, ofVF]
theorem i_mul (P : Program) (t : TypeId) (x y : Operand) (k : IntKind) (a b : Int) : bin2 P .mul t x y (.d (.sc (.int k a))) (.d (.sc (.int k b))) = some (.sc (.int k (k.wrap (a * b)))) := by
  unfold bin2 nilCmp nonNil flat2 valOf; simp [eval0, eqGuard, binOp, Op.intCmp, Op.intArith, bind, Sem.bind, pure, ofVF]
theorem i_quo (P : Program) (t : TypeId) (x y : Operand) (k : IntKind) (a b : Int) (hb : b ≠ 0) : bin2 P .quo t x y (.d (.sc (.int k a))) (.d (.sc (.int k b))) = some (.sc (.int k (k.wrap (a.tdiv b)))) := by
  unfold bin2 nilCmp nonNil flat2 valOf; simp [eval0, eqGuard, binOp, Op.intDiv, hb, bind, Sem.bind, pure, ofVF]
theorem i_rem (P : Program) (t : TypeId) (x y : Operand) (k : IntKind) (a b : Int) (hb : b ≠ 0) : bin2 P .rem t x y (.d (.sc (.int k a))) (.d (.sc (.int k b))) = some (.sc (.int k (a.tmod b))) := by
  unfold bin2 nilCmp nonNil flat2 valOf; simp [eval0, eqGuard, binOp, Op.intDiv, hb, bind, Sem.bind, pure, ofVF]
theorem wi64 {n : Int} (h1 : -9223372036854775808 ≤ n) (h2 : n < 9223372036854775808) : IntKind.i64.wrap n = n := by
  have : IntKind.i64.wrap n = (n + 9223372036854775808) % 18446744073709551616 - 9223372036854775808 := by
    simp [IntKind.wrap, IntKind.bits, IntKind.signed]
    omega
  rw [this]; omega
theorem wi64s {k : Nat} (h : k < 9223372036854775807) : IntKind.i64.wrap ((k : Int) + 1) = ((k + 1 : Nat) : Int) := by
  rw [wi64 (by omega) (by omega)]; rfl

theorem ba_beq (a b : List UInt8) : ((⟨⟨a⟩⟩ : ByteArray).toList == (⟨⟨b⟩⟩ : ByteArray).toList) = (a == b) := by
  rw [Go.Lib.toList_data, Go.Lib.toList_data]
/-! Comparisons of strings. -/
theorem ba_list (l : List UInt8) : (⟨⟨l⟩⟩ : ByteArray).toList = l := by rw [Go.Lib.toList_data]
theorem s_eql (P : Program) (t : TypeId) (x y : Operand) (a b : List UInt8) : bin2 P .eql t x y (.d (str a)) (.d (str b)) = some (tb (a == b)) := by
  unfold bin2 nilCmp nonNil flat2 valOf; simp [eval0, eqGuard, binOp, Op.stringOp, bind, Sem.bind, pure, ofVF, ba_list]
theorem s_neq (P : Program) (t : TypeId) (x y : Operand) (a b : List UInt8) : bin2 P .neq t x y (.d (str a)) (.d (str b)) = some (tb (!(a == b))) := by
  unfold bin2 nilCmp nonNil flat2 valOf; simp [eval0, eqGuard, binOp, Op.stringOp, bind, Sem.bind, pure, ofVF, ba_list]
theorem s_gtr (P : Program) (t : TypeId) (x y : Operand) (a b : List UInt8) : bin2 P .gtr t x y (.d (str a)) (.d (str b)) = some (tb (!(Op.bytesLess a b || a == b))) := by
  unfold bin2 nilCmp nonNil flat2 valOf; simp [eval0, eqGuard, binOp, Op.stringOp, bind, Sem.bind, pure, ofVF, ba_list]
theorem s_lss (P : Program) (t : TypeId) (x y : Operand) (a b : List UInt8) : bin2 P .lss t x y (.d (str a)) (.d (str b)) = some (tb (Op.bytesLess a b)) := by
  unfold bin2 nilCmp nonNil flat2 valOf; simp [eval0, eqGuard, binOp, Op.stringOp, bind, Sem.bind, pure, ofVF, ba_list]
theorem s_add (P : Program) (t : TypeId) (x y : Operand) (a b : List UInt8) (h : a.length + b.length < 9223372036854775808) : bin2 P .add t x y (.d (str a)) (.d (str b)) = some (str (a ++ b)) := by
  have h2 : ¬ (((a.length + b.length : Nat) : Int) > IntKind.i64.max) := by simp [IntKind.max, IntKind.bits, IntKind.signed]; omega
  unfold bin2 nilCmp nonNil flat2 valOf
  simp only [eqGuard, binOp, Op.stringOp, ba_size, if_neg h2]
  rfl
/-- Booleans. -/
theorem flat1_not (P : Program) (b : Bool) : flat1 P (Op.unary .not) (.d (tb b)) = some (tb (!b)) := rfl
/-- Conversions between integers. -/
theorem flat1_int {P : Program} {s t : TypeId} {k k' : IntKind} {a : Int} {d : TypeDesc} (hs : P.underlying s = some d) (ht : P.underlying t = some (.int k')) :
    flat1 P (convert s t) (.d (.sc (.int k a))) = some (.sc (.int k' (k'.wrap a))) := by
  unfold flat1 valOf convert
  simp only [eval0_bind, eval0_underlying hs, eval0_underlying ht, Option.bind_some, Conv.intToInt, eval0_pure]
  cases d <;> rfl

theorem D_of_O {P : Program} {Z : GTab} {O : Orc} {f : FuncId} {ds : List D} {r : D} (h : O f ds = some r) : ∀ n, (evalF P Z O n).D f ds = some r
  | 0 => h
  | n + 1 => by simp only [evalF, h]
theorem X_of_O {P : Program} {Z : GTab} {O : Orc} {f : FuncId} {ds : List D} : ∀ n, (evalF P Z O n).X f ds = O f ds
  | 0 => rfl
  | n + 1 => rfl
end Go.Vm
