/- Chapter 5: what bytes are; runs of bytes; numbers. -/
import Derived.Test.YtglnokfcjnnepaaDoorVmW
import Derived.Test.YtglnokfcjnnepaaDoorProg
open Go Go.Vm Go.Proofs
namespace Go.Vm
set_option maxRecDepth 100000
set_option linter.unusedSimpArgs false
theorem u9 : Tryd.prog.underlying 9 = some .string := rfl
theorem se9 : sliceElem Tryd.prog 9 = none := rfl
theorem fn32 : Tryd.prog.funcs[32]? = some Tryd.f32 := rfl
theorem fn33 : Tryd.prog.funcs[33]? = some Tryd.f33 := rfl
theorem fn34 : Tryd.prog.funcs[34]? = some Tryd.f34 := rfl
theorem fn35 : Tryd.prog.funcs[35]? = some Tryd.f35 := rfl
theorem fn36 : Tryd.prog.funcs[36]? = some Tryd.f36 := rfl
theorem fn39 : Tryd.prog.funcs[39]? = some Tryd.f39 := rfl
theorem fn40 : Tryd.prog.funcs[40]? = some Tryd.f40 := rfl

def isDigit (c : UInt8) : Bool := decide (48 ≤ c.toNat) && decide (c.toNat ≤ 57)
def isLetter (c : UInt8) : Bool := (decide (97 ≤ c.toNat) && decide (c.toNat ≤ 122)) || (decide (65 ≤ c.toNat) && decide (c.toNat ≤ 90)) || c.toNat == 95
abbrev u8 (c : UInt8) : D := .sc (.int .u8 c.toNat)

variable {E : Env} {Z : GTab}

theorem digit_ev (hm : Tryd.prog.follows .mixedOrders = true) (hE : EnvOk Tryd.prog Z E) (c : UInt8) : PureC Tryd.prog Z 32 [u8 c] (tb (isDigit c)) := by
  refine pure_of_W hE hm fn32 rfl 1 ?_
  simp only [Tryd.f32, List.map, List.length, List.cons_append, List.nil_append, List.replicate]
  apply W_seq
  refine W_ops (by simp [execOps, wantedE, isCall, stepOp, valOp, callOp, calleeE, datumL, datum, opnd, opndL, ofVF, putF, i_geq, i_leq, i_lss, i_gtr, i_eql, i_neq, i_add, i_sub, i_mul, s_eql, s_neq, s_gtr, s_lss, pickSV, noGl, lenE, valOf, ba_size, flat1_not, optE, u9, se9]; exact rfl) ?_
  apply W_seq
  by_cases h1 : 48 ≤ c.toNat <;> by_cases h2 : c.toNat ≤ 57 <;>
  · have g1 : ((48 : Int) ≤ (c.toNat : Int)) = (48 ≤ c.toNat) := by apply propext; omega
    have g2 : ((c.toNat : Int) ≤ 57) = (c.toNat ≤ 57) := by apply propext; omega
    refine W_ops (by simp [execOps, wantedE, isCall, stepOp, valOp, callOp, calleeE, datumL, datum, opnd, opndL, ofVF, putF, i_geq, i_leq, i_lss, i_gtr, i_eql, i_neq, i_add, i_sub, i_mul, s_eql, s_neq, s_gtr, s_lss, pickSV, noGl, lenE, valOf, ba_size, flat1_not, optE, u9, se9, g1, g2, h1, h2]; exact rfl) ?_
    apply W_ret
    refine ⟨by simp, _, rfl, ?_⟩
    simp [resultE, noGl, snapR, snap, isDigit, h1, h2]
theorem rdigit_ev (hm : Tryd.prog.follows .mixedOrders = true) (hE : EnvOk Tryd.prog Z E) (c : UInt8) : PureC Tryd.prog Z 40 [u8 c] (tb (isDigit c)) := by
  refine pure_of_W hE hm fn40 rfl 1 ?_
  simp only [Tryd.f40, List.map, List.length, List.cons_append, List.nil_append, List.replicate]
  apply W_seq
  refine W_ops (by simp [execOps, wantedE, isCall, stepOp, valOp, callOp, calleeE, datumL, datum, opnd, opndL, ofVF, putF, i_geq, i_leq, i_lss, i_gtr, i_eql, i_neq, i_add, i_sub, i_mul, s_eql, s_neq, s_gtr, s_lss, pickSV, noGl, lenE, valOf, ba_size, flat1_not, optE, u9, se9]; exact rfl) ?_
  apply W_seq
  by_cases h1 : 48 ≤ c.toNat <;> by_cases h2 : c.toNat ≤ 57 <;>
  · have g1 : ((48 : Int) ≤ (c.toNat : Int)) = (48 ≤ c.toNat) := by apply propext; omega
    have g2 : ((c.toNat : Int) ≤ 57) = (c.toNat ≤ 57) := by apply propext; omega
    refine W_ops (by simp [execOps, wantedE, isCall, stepOp, valOp, callOp, calleeE, datumL, datum, opnd, opndL, ofVF, putF, i_geq, i_leq, i_lss, i_gtr, i_eql, i_neq, i_add, i_sub, i_mul, s_eql, s_neq, s_gtr, s_lss, pickSV, noGl, lenE, valOf, ba_size, flat1_not, optE, u9, se9, g1, g2, h1, h2]; exact rfl) ?_
    apply W_ret
    refine ⟨by simp, _, rfl, ?_⟩
    simp [resultE, noGl, snapR, snap, isDigit, h1, h2]
theorem letter_ev (hm : Tryd.prog.follows .mixedOrders = true) (hE : EnvOk Tryd.prog Z E) (c : UInt8) : PureC Tryd.prog Z 35 [u8 c] (tb (isLetter c)) := by
  refine pure_of_W hE hm fn35 rfl 1 ?_
  simp only [Tryd.f35, List.map, List.length, List.cons_append, List.nil_append, List.replicate]
  apply W_seq
  refine W_ops (by simp [execOps, wantedE, isCall, stepOp, valOp, callOp, calleeE, datumL, datum, opnd, opndL, ofVF, putF, i_geq, i_leq, i_lss, i_gtr, i_eql, i_neq, i_add, i_sub, i_mul, s_eql, s_neq, s_gtr, s_lss, pickSV, noGl, lenE, valOf, ba_size, flat1_not, optE, u9, se9]; exact rfl) ?_
  apply W_seq
  have g1 : ((97 : Int) ≤ (c.toNat : Int)) = (97 ≤ c.toNat) := by apply propext; omega
  have g2 : ((c.toNat : Int) ≤ 122) = (c.toNat ≤ 122) := by apply propext; omega
  have g3 : ((65 : Int) ≤ (c.toNat : Int)) = (65 ≤ c.toNat) := by apply propext; omega
  have g4 : ((c.toNat : Int) ≤ 90) = (c.toNat ≤ 90) := by apply propext; omega
  have g5 : ((c.toNat : Int) == 95) = (c.toNat == 95) := by rw [Bool.eq_iff_iff]; simp only [beq_iff_eq]; omega
  by_cases h1 : 97 ≤ c.toNat <;> by_cases h2 : c.toNat ≤ 122 <;> by_cases h3 : 65 ≤ c.toNat <;> by_cases h4 : c.toNat ≤ 90 <;>
  first
  | omega
  | · refine W_ops (by simp [execOps, wantedE, isCall, stepOp, valOp, callOp, calleeE, datumL, datum, opnd, opndL, ofVF, putF, i_geq, i_leq, i_lss, i_gtr, i_eql, i_neq, i_add, i_sub, i_mul, s_eql, s_neq, s_gtr, s_lss, pickSV, noGl, lenE, valOf, ba_size, flat1_not, optE, u9, se9, g1, g2, g3, g4, g5, h1, h2, h3, h4]; exact rfl) ?_
      apply W_ret
      refine ⟨by simp, _, rfl, ?_⟩
      simp [resultE, noGl, snapR, snap, isLetter, h1, h2, h3, h4]
theorem rletter_ev (hm : Tryd.prog.follows .mixedOrders = true) (hE : EnvOk Tryd.prog Z E) (c : UInt8) : PureC Tryd.prog Z 39 [u8 c] (tb (isLetter c)) := by
  refine pure_of_W hE hm fn39 rfl 1 ?_
  simp only [Tryd.f39, List.map, List.length, List.cons_append, List.nil_append, List.replicate]
  apply W_seq
  refine W_ops (by simp [execOps, wantedE, isCall, stepOp, valOp, callOp, calleeE, datumL, datum, opnd, opndL, ofVF, putF, i_geq, i_leq, i_lss, i_gtr, i_eql, i_neq, i_add, i_sub, i_mul, s_eql, s_neq, s_gtr, s_lss, pickSV, noGl, lenE, valOf, ba_size, flat1_not, optE, u9, se9]; exact rfl) ?_
  apply W_seq
  have g1 : ((97 : Int) ≤ (c.toNat : Int)) = (97 ≤ c.toNat) := by apply propext; omega
  have g2 : ((c.toNat : Int) ≤ 122) = (c.toNat ≤ 122) := by apply propext; omega
  have g3 : ((65 : Int) ≤ (c.toNat : Int)) = (65 ≤ c.toNat) := by apply propext; omega
  have g4 : ((c.toNat : Int) ≤ 90) = (c.toNat ≤ 90) := by apply propext; omega
  have g5 : ((c.toNat : Int) == 95) = (c.toNat == 95) := by rw [Bool.eq_iff_iff]; simp only [beq_iff_eq]; omega
  by_cases h1 : 97 ≤ c.toNat <;> by_cases h2 : c.toNat ≤ 122 <;> by_cases h3 : 65 ≤ c.toNat <;> by_cases h4 : c.toNat ≤ 90 <;>
  first
  | omega
  | · refine W_ops (by simp [execOps, wantedE, isCall, stepOp, valOp, callOp, calleeE, datumL, datum, opnd, opndL, ofVF, putF, i_geq, i_leq, i_lss, i_gtr, i_eql, i_neq, i_add, i_sub, i_mul, s_eql, s_neq, s_gtr, s_lss, pickSV, noGl, lenE, valOf, ba_size, flat1_not, optE, u9, se9, g1, g2, g3, g4, g5, h1, h2, h3, h4]; exact rfl) ?_
      apply W_ret
      refine ⟨by simp, _, rfl, ?_⟩
      simp [resultE, noGl, snapR, snap, isLetter, h1, h2, h3, h4]
theorem wordByte_ev (hm : Tryd.prog.follows .mixedOrders = true) (hE : EnvOk Tryd.prog Z E) (c : UInt8)
    (k1 : E.D 35 [u8 c] = some (tb (isLetter c))) (k2 : E.D 32 [u8 c] = some (tb (isDigit c))) : PureC Tryd.prog Z 36 [u8 c] (tb (isLetter c || isDigit c)) := by
  refine pure_of_W hE hm fn36 rfl 1 ?_
  simp only [Tryd.f36, List.map, List.length, List.cons_append, List.nil_append, List.replicate]
  apply W_seq
  refine W_ops (by simp [execOps, wantedE, isCall, stepOp, valOp, callOp, calleeE, datumL, datum, opnd, opndL, ofVF, putF, i_geq, i_leq, i_lss, i_gtr, i_eql, i_neq, i_add, i_sub, i_mul, s_eql, s_neq, s_gtr, s_lss, pickSV, noGl, lenE, valOf, ba_size, flat1_not, optE, u9, se9]; exact rfl) ?_
  apply W_seq
  cases h1 : isLetter c <;> rw [h1] at k1 <;>
  · refine W_ops (by simp [execOps, wantedE, isCall, stepOp, valOp, callOp, calleeE, datumL, datum, opnd, opndL, ofVF, putF, i_geq, i_leq, i_lss, i_gtr, i_eql, i_neq, i_add, i_sub, i_mul, s_eql, s_neq, s_gtr, s_lss, pickSV, noGl, lenE, valOf, ba_size, flat1_not, optE, u9, se9, k1, k2, fn35, fn32, Tryd.f35, Tryd.f32]; exact rfl) ?_
    apply W_ret
    refine ⟨by simp, _, rfl, ?_⟩
    simp [resultE, noGl, snapR, snap]
end Go.Vm
