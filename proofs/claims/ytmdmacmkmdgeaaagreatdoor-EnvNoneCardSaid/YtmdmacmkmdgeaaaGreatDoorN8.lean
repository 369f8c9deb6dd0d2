/- Operations hang on what their operands are alone. -/
import Derived.Test.YtmdmacmkmdgeaaaGreatDoorN7
namespace Go.N
open Go Go.RowKit

section
variable {P : Program} {Z : Nat → Bool} {E : Env} {fr fr' : List V}
theorem opndL_congr : ∀ {l : List Operand}, (∀ x ∈ l, opnd Z fr x = opnd Z fr' x) → opndL Z fr l = opndL Z fr' l
  | [], _ => rfl
  | x :: l, h => by rw [opndL, opndL, h x (by simp), opndL_congr fun y hy => h y (by simp [hy])]
theorem partsE_congr : ∀ {l : List (Nat × Operand)}, (∀ x ∈ l.map (·.2), opnd Z fr x = opnd Z fr' x) → partsE Z fr l = partsE Z fr' l
  | [], _ => rfl
  | (i, x) :: l, h => by rw [partsE, partsE, h x (by simp), partsE_congr fun y hy => h y (by simp only [List.map_cons, List.mem_cons]; exact .inr hy)]
theorem optE_congr {x : Option Operand} (h : ∀ y ∈ x.toArray, opnd Z fr y = opnd Z fr' y) : optE Z fr x = optE Z fr' x := by
  cases x with
  | none => rfl
  | some y => simp only [optE]; rw [h y (by simp)]

theorem stepOp_congr {o : Oper} {h : Hp} (H : ∀ x ∈ o.op.operands, opnd Z fr x = opnd Z fr' x) : stepOp P Z o fr h = stepOp P Z o fr' h := by
  unfold stepOp
  cases ho : o.op with
  | move x => simp only [ho, Op.operands] at H ⊢; rw [H x (by simp)]
  | assign x => simp only [ho, Op.operands] at H ⊢; rw [H x (by simp)]
  | pick c x y => simp only [ho, Op.operands] at H ⊢; rw [H c (by simp), H x (by simp), H y (by simp)]
  | binOp op t x y yt => simp only [ho, Op.operands] at H ⊢; rw [H x (by simp), H y (by simp)]
  | unOp op t x => simp only [ho, Op.operands] at H ⊢; rw [H x (by simp)]
  | convert s t x => simp only [ho, Op.operands] at H ⊢; rw [H x (by simp)]
  | load t x => simp only [ho, Op.operands] at H ⊢; rw [H x (by simp)]
  | nilCheck x => simp only [ho, Op.operands] at H ⊢; rw [H x (by simp)]
  | fieldAddr s x f => simp only [ho, Op.operands] at H ⊢; rw [H x (by simp)]
  | field s x f => simp only [ho, Op.operands] at H ⊢; rw [H x (by simp)]
  | indexAddr t x y => simp only [ho, Op.operands] at H ⊢; rw [H x (by simp), H y (by simp)]
  | index t x y => simp only [ho, Op.operands] at H ⊢; rw [H x (by simp), H y (by simp)]
  | slice t x lo hi mx =>
    simp only [ho, Op.operands] at H ⊢
    rw [H x (by simp), optE_congr (x := lo) fun y hy => H y (by simp only [Array.mem_append]; exact .inl (.inl (.inr hy))), optE_congr (x := hi) fun y hy => H y (by simp only [Array.mem_append]; exact .inl (.inr hy)),
      optE_congr (x := mx) fun y hy => H y (by simp only [Array.mem_append]; exact .inr hy)]
  | extract x i => simp only [ho, Op.operands] at H ⊢; rw [H x (by simp)]
  | makeFunc fn a b =>
    simp only [ho, Op.operands] at H
    cases fn <;> try rfl
    simp only
    rw [opndL_congr (l := a.toList) fun x hx => H x (by simp only [Array.mem_append]; exact .inl (by simpa using hx)), opndL_congr (l := b.toList) fun x hx => H x (by simp only [Array.mem_append]; exact .inr (by simpa using hx))]
  | build t ps =>
    simp only [ho, Op.operands] at H ⊢
    rw [partsE_congr (l := ps.toList) fun x hx => H x (by simpa using hx)]
  | buildSlice t n ps =>
    simp only [ho, Op.operands] at H ⊢
    rw [partsE_congr (l := ps.toList) fun x hx => H x (by simpa using hx)]
  | makeInterface t x => simp only [ho, Op.operands] at H ⊢; rw [H x (by simp)]
  | typeAssert x t a k => simp only [ho, Op.operands] at H ⊢; rw [H x (by simp)]
  | box t x => simp only [ho, Op.operands] at H ⊢; rw [H x (by simp)]
  | range t x => simp only [ho, Op.operands] at H ⊢; rw [H x (by simp)]
  | entry x => simp only [ho, Op.operands] at H ⊢; rw [H x (by simp)]
  | store t x y => simp only [ho, Op.operands] at H ⊢; rw [H x (by simp), H y (by simp)]
  | makeSlice t x y => simp only [ho, Op.operands] at H ⊢; rw [H x (by simp), H y (by simp)]
  | makeMap t r => simp only [ho, Op.operands] at H ⊢; rw [optE_congr H]
  | lookup t x y k => simp only [ho, Op.operands] at H ⊢; rw [H x (by simp), H y (by simp)]
  | mapUpdate t x y z => simp only [ho, Op.operands] at H ⊢; rw [H x (by simp), H y (by simp), H z (by simp)]
  | insert t x y z => simp only [ho, Op.operands] at H ⊢; rw [H x (by simp), H y (by simp), H z (by simp)]
  | mapEntry t x y => simp only [ho, Op.operands] at H ⊢; rw [H x (by simp), H y (by simp)]
  | entryStore t x y z => simp only [ho, Op.operands] at H ⊢; rw [H x (by simp), H y (by simp), H z (by simp)]
  | call c =>
    obtain ⟨callee, args, argTypes⟩ := c
    cases callee <;> try rfl
    simp only [ho, Op.operands, Call.operands] at H
    simp only
    rw [opndL_congr (l := args.toList) fun x hx => H x (by simpa using hx)]
  | _ => rfl

theorem oneOp_congr {o : Oper} {h : Hp} (H : ∀ x ∈ o.op.operands, opnd Z fr x = opnd Z fr' x) : oneOp P Z E o fr h = oneOp P Z E o fr' h := by
  unfold oneOp
  split
  · rename_i f args argTypes ho
    simp only [ho, Op.operands, Call.operands] at H
    unfold callOp
    rw [ho]
    simp only
    rw [H f (by simp), opndL_congr (l := args.toList) fun x hx => H x (by simp only [Array.mem_append]; exact .inr (by simpa using hx))]
  · rename_i x ho
    unfold panicE
    rw [ho] at H ⊢
    simp only [Op.operands] at H ⊢
    rw [H x (by simp)]
  · rw [stepOp_congr H]
end
end Go.N
