/- Chapter 5: tokens that are the document's. -/
import Derived.Test.YtglnokfcjnnepaaDoorVmT10
open Go Go.Vm Go.Proofs
namespace Go.Vm
set_option maxRecDepth 100000
set_option linter.unusedSimpArgs false
variable {E : Env} {Z : GTab}
theorem u3 : Tryd.prog.underlying 3 = some (.int .i64) := rfl
theorem toV_tok (k n a b : Int) (t : List UInt8) : toV (tokD k t n a b) = some (.agg #[.int .i64 k, .string ⟨⟨t⟩⟩, .int .i64 n, .int .i64 a, .int .i64 b]) := rfl
theorem eqI (T : TypeId) (hT : Tryd.prog.underlying T = some (.int .i64)) (d : Nat) (x y : Int) : eval0 Tryd.prog (Op.equalIn (d + 1) T (.int .i64 x) (.int .i64 y)) = some (x == y) := by
  unfold Op.equalIn
  simp only [eval0_bind, eval0_underlying hT, Option.bind_some, if_true]
  rfl
theorem eqS (d : Nat) (x y : ByteArray) : eval0 Tryd.prog (Op.equalIn (d + 1) 9 (.string x) (.string y)) = some (x == y) := by
  unfold Op.equalIn
  simp only [eval0_bind, eval0_underlying u9, Option.bind_some]
  rfl
theorem pa3 (cs : Array Value) (off : Nat) {v : Value} (h : cs[off]? = some v) : eval0 Tryd.prog (part 3 cs off) = some v := by
  unfold part
  have : eval0 Tryd.prog (isAgg 3) = some false := rfl
  simp only [eval0_bind, this, Option.bind_some, Bool.false_eq_true, if_false, h]
  rfl
theorem pa9 (cs : Array Value) (off : Nat) {v : Value} (h : cs[off]? = some v) : eval0 Tryd.prog (part 9 cs off) = some v := by
  unfold part
  have : eval0 Tryd.prog (isAgg 9) = some false := rfl
  simp only [eval0_bind, this, Option.bind_some, Bool.false_eq_true, if_false, h]
  rfl
theorem pa2 (cs : Array Value) (off : Nat) {v : Value} (h : cs[off]? = some v) : eval0 Tryd.prog (part 2 cs off) = some v := by
  unfold part
  have : eval0 Tryd.prog (isAgg 2) = some false := rfl
  simp only [eval0_bind, this, Option.bind_some, Bool.false_eq_true, if_false, h]
  rfl
theorem pa33 (cs : Array Value) (off : Nat) : eval0 Tryd.prog (part 33 cs off) = some (.agg (cs.extract off (off + 2))) := by
  unfold part
  have : eval0 Tryd.prog (isAgg 33) = some true := rfl
  have h2 : eval0 Tryd.prog (sizeOf 33) = some 2 := rfl
  simp only [eval0_bind, this, Option.bind_some, if_true, h2]
  rfl
theorem u33 : ∃ f0 f1, Tryd.prog.underlying 33 = some (.struct #[f0, f1]) ∧ f0.type = 3 ∧ f1.type = 3 ∧ f0.offset = 0 ∧ f1.offset = 1 ∧ f0.name ≠ "_" ∧ f1.name ≠ "_" := ⟨_, _, rfl, rfl, rfl, rfl, rfl, by decide, by decide⟩
theorem eq33 (d : Nat) (a b a' b' : Int) : eval0 Tryd.prog (Op.equalIn (d + 2) 33 (.agg #[.int .i64 a, .int .i64 b]) (.agg #[.int .i64 a', .int .i64 b'])) = some (a == a' && b == b') := by
  obtain ⟨f0, f1, hT, t0, t1, o0, o1, n0, n1⟩ := u33
  unfold Op.equalIn
  simp only [eval0_bind, eval0_underlying hT, Option.bind_some]
  have hst : Tryd.prog.stoodInHeld 33 = false := by decide +kernel
  have hp : eval0 Tryd.prog (program : Sem Program) = some Tryd.prog := rfl
  simp only [hp, Option.bind_some, hst, Bool.false_eq_true, if_false]
  simp
  cases h1 : (a == a') <;> cases h2 : (b == b') <;>
  simp [n0, n1, t0, t1, o0, o1, eval0_bind, eval0_pure, pa3 (v := .int .i64 a), pa3 (v := .int .i64 a'), pa3 (v := .int .i64 b), pa3 (v := .int .i64 b'), eqI 3 u3, h1, h2]

theorem u35 : ∃ f0 f1 f2 f3, Tryd.prog.underlying 35 = some (.struct #[f0, f1, f2, f3]) ∧ f0.type = 3 ∧ f1.type = 9 ∧ f2.type = 2 ∧ f3.type = 33 ∧ f0.offset = 0 ∧ f1.offset = 1 ∧ f2.offset = 2 ∧ f3.offset = 3 ∧ f0.name ≠ "_" ∧ f1.name ≠ "_" ∧ f2.name ≠ "_" ∧ f3.name ≠ "_" :=
  ⟨_, _, _, _, rfl, rfl, rfl, rfl, rfl, rfl, rfl, rfl, rfl, by decide, by decide, by decide, by decide⟩
theorem eq35 (d : Nat) (k n a b k' n' a' b' : Int) (t t' : List UInt8) :
    eval0 Tryd.prog (Op.equalIn (d + 3) 35 (.agg #[.int .i64 k, .string ⟨⟨t⟩⟩, .int .i64 n, .int .i64 a, .int .i64 b]) (.agg #[.int .i64 k', .string ⟨⟨t'⟩⟩, .int .i64 n', .int .i64 a', .int .i64 b'])) =
      some (k == k' && t == t' && n == n' && a == a' && b == b') := by
  obtain ⟨f0, f1, f2, f3, hT, t0, t1, t2, t3, o0, o1, o2, o3, n0, n1, n2, n3⟩ := u35
  unfold Op.equalIn
  simp only [eval0_bind, eval0_underlying hT, Option.bind_some]
  have hst : Tryd.prog.stoodInHeld 35 = false := by decide +kernel
  have hp : eval0 Tryd.prog (program : Sem Program) = some Tryd.prog := rfl
  simp only [hp, Option.bind_some, hst, Bool.false_eq_true, if_false]
  have hs : ((⟨⟨t⟩⟩ : ByteArray) == ⟨⟨t'⟩⟩) = (t == t') := by
    show ((⟨t⟩ : Array UInt8) == ⟨t'⟩) = (t == t')
    simp
  have e33 := eq33 d a b a' b'
  simp
  cases h1 : (k == k') <;> cases h2 : (t == t') <;> cases h3 : (n == n') <;> cases h4 : (a == a' && b == b') <;>
  simp [n0, n1, n2, n3, t0, t1, t2, t3, o0, o1, o2, o3, eval0_bind, eval0_pure, pa3 (v := .int .i64 k), pa3 (v := .int .i64 k'), pa9 (v := .string ⟨⟨t⟩⟩), pa9 (v := .string ⟨⟨t'⟩⟩), pa2 (v := .int .i64 n), pa2 (v := .int .i64 n'), pa33, eqI 3 u3, eqI 2 u2, eqS, hs, e33, h1, h2, h3, h4]

theorem eval0_map {α β : Type} (P : Program) (f : α → β) (x : Sem α) : eval0 P (f <$> x) = (eval0 P x).map f := by
  have : f <$> x = (x >>= fun a => pure (f a)) := rfl
  rw [this, eval0_bind]
  cases eval0 P x <;> rfl
theorem neq35 (x y : Operand) (k n a b k' n' a' b' : Int) (t t' : List UInt8) :
    bin2 Tryd.prog .neq 35 x y (.d (tokD k t n a b)) (.d (tokD k' t' n' a' b')) = some (tb (!(k == k' && t == t' && n == n' && a == a' && b == b'))) := by
  have hg : Tryd.prog.eqGuardType Tryd.prog.depth 35 = false := by decide +kernel
  have hp : eval0 Tryd.prog (program : Sem Program) = some Tryd.prog := rfl
  have hd : Op.maxDepth = 9997 + 3 := rfl
  have h1 : nilCmp Tryd.prog .neq 35 (.d (tokD k t n a b)) (.d (tokD k' t' n' a' b')) = none := rfl
  have h2 : valOf (.d (tokD k t n a b)) = some (.agg #[.int .i64 k, .string ⟨⟨t⟩⟩, .int .i64 n, .int .i64 a, .int .i64 b]) := rfl
  have h3 : valOf (.d (tokD k' t' n' a' b')) = some (.agg #[.int .i64 k', .string ⟨⟨t'⟩⟩, .int .i64 n', .int .i64 a', .int .i64 b']) := rfl
  unfold bin2
  rw [h1]
  unfold flat2
  rw [h2, h3]
  simp only [eqGuard, binOp, Op.equal, hd]
  have h35 := eq35 9997 k n a b k' n' a' b' t t'
  simp only [Nat.reduceAdd] at h35
  simp [eval0_bind, eval0_pure, eval0_map, hp, hg, h35, ofVF]
end Go.Vm
