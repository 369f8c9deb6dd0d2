/- Chapter 5: the document's words, ints, signs and numbers. -/
import Derived.Test.YtglnokfcjnnepaaDoorVmT2
open Go Go.Vm Go.Proofs
namespace Go.Vm
set_option maxRecDepth 100000
set_option linter.unusedSimpArgs false
variable {E : Env} {Z : GTab}
theorem fn21 : Tryd.prog.funcs[21]? = some Tryd.f21 := rfl
theorem fn22 : Tryd.prog.funcs[22]? = some Tryd.f22 := rfl
theorem fn23 : Tryd.prog.funcs[23]? = some Tryd.f23 := rfl
theorem fn24 : Tryd.prog.funcs[24]? = some Tryd.f24 := rfl
theorem se52 : sliceElem Tryd.prog 52 = some 9 := rfl
theorem sz9 : szOf Tryd.prog 9 = 1 := rfl
theorem ok9 : okT Tryd.prog 9 = true := rfl
theorem ag9 : isAggT Tryd.prog 9 = false := rfl
theorem if9 : (Tryd.prog.info? 9).isSome = true := rfl
theorem zr9 : (zeroRow Tryd.prog 9).isSome = true := rfl

theorem natLt0 (k : Nat) : ((k : Int) == 0) = (k == 0) := by rw [Bool.eq_iff_iff]; simp only [beq_iff_eq]; omega

def iwGo : Bool → List UInt8 → Bool
  | _, [] => true
  | later, c :: l => (isLetter c || (later && isDigit c)) && iwGo true l
def isWord (l : List UInt8) : Bool := iwGo false l && decide (0 < l.length)
def isInt (l : List UInt8) : Bool := l.all isDigit && decide (0 < l.length)

theorem isWord_ev (hm : Tryd.prog.follows .mixedOrders = true) (hE : EnvOk Tryd.prog Z E) (l : List UInt8) (hl : l.length < 2 ^ 62)
    (k1 : ∀ c, E.D 39 [u8 c] = some (tb (isLetter c))) (k2 : ∀ c, E.D 40 [u8 c] = some (tb (isDigit c))) : PureC Tryd.prog Z 21 [str l] (tb (isWord l)) := by
  refine pure_of_W hE hm fn21 rfl (l.length + 1) ?_
  simp only [Tryd.f21, List.map, List.length, List.cons_append, List.nil_append, List.replicate]
  (repeat (show W _ _ _ _ _ _ _ _; with_reducible apply W_seq)); refine W_ops (by simp [execOps, wantedE, isCall, stepOp, valOp, callOp, calleeE, datumL, datum, opnd, opndL, ofVF, putF, i_geq, i_leq, i_lss, i_gtr, i_eql, i_neq, i_add, i_sub, i_mul, s_eql, s_neq, s_gtr, s_lss, pickSV, noGl, lenE, valOf, ba_size, flat1_not, optE, u9, se9]; exact rfl) ?_
  (repeat (show W _ _ _ _ _ _ _ _; with_reducible apply W_seq)); refine W_ops (by simp [execOps, wantedE, isCall, stepOp, valOp, callOp, calleeE, datumL, datum, opnd, opndL, ofVF, putF, i_geq, i_leq, i_lss, i_gtr, i_eql, i_neq, i_add, i_sub, i_mul, s_eql, s_neq, s_gtr, s_lss, pickSV, noGl, lenE, valOf, ba_size, flat1_not, optE, u9, se9]; exact rfl) ?_
  (repeat (show W _ _ _ _ _ _ _ _; with_reducible apply W_seq)); apply W_block
  apply W_loop (α := Nat) (fun k fr σ => σ = [] ∧ fr.length = 29 ∧ fr.getD 0 (.d (.tup [])) = .d (str l) ∧ fr.getD 3 (.d (.tup [])) = .d (i64 k) ∧ k ≤ l.length ∧ iwGo false l = iwGo (decide (0 < k)) (l.drop k)) (fun k => l.length - k) (a := 0)
  · exact ⟨rfl, rfl, rfl, rfl, by omega, by simp⟩
  · rintro k fr σ ⟨rfl, hlen, h0, h3, hk, hg⟩
    rw [fr_explicit fr 29 hlen]
    simp only [List.range, List.range.loop, List.map, h0, h3]
    by_cases hlt : k < l.length
    · have hc : l[k]? = some l[k] := List.getElem?_eq_getElem hlt
      have hdr : l.drop k = l[k] :: l.drop (k + 1) := List.drop_eq_getElem_cons hlt
      generalize hcc : l[k] = c at *
      rw [hdr] at hg
      simp only [iwGo] at hg
      (repeat (show W _ _ _ _ _ _ _ _; with_reducible apply W_seq)); refine W_ops (by simp [execOps, wantedE, isCall, stepOp, valOp, callOp, calleeE, datumL, datum, opnd, opndL, ofVF, putF, i_geq, i_leq, i_lss, i_gtr, i_eql, i_neq, i_add, i_sub, i_mul, s_eql, s_neq, s_gtr, s_lss, pickSV, noGl, lenE, valOf, ba_size, flat1_not, optE, u9, se9, hlt]; exact rfl) ?_
      show W _ _ _ _ _ _ _ _; (repeat (show W _ _ _ _ _ _ _ _; with_reducible apply W_seq)); refine W_cond (b := true) ?_ ?_ ?_; (focus simp [opnd]); rotate_left; (focus simp); intro _
      (repeat (show W _ _ _ _ _ _ _ _; with_reducible apply W_seq)); apply W_skip
      (repeat (show W _ _ _ _ _ _ _ _; with_reducible apply W_seq)); apply W_block
      have k1 := k1 c
      have k2 := k2 c
      cases c1 : isLetter c <;> cases c2 : isDigit c <;> rcases c3 : (k == 0) with _ | _ <;> rw [c1] at k1 hg <;> rw [c2] at k2 hg <;>
      first
      | (have h30 : 0 < k := by simpa using (Nat.pos_of_ne_zero (by simpa using c3))
         simp only [h30, decide_true, Bool.true_and, Bool.false_or, Bool.true_or, Bool.or_true] at hg
         (repeat (show W _ _ _ _ _ _ _ _; with_reducible apply W_seq)); refine W_ops (by simp [execOps, wantedE, isCall, stepOp, valOp, callOp, calleeE, datumL, datum, opnd, opndL, ofVF, putF, i_geq, i_leq, i_lss, i_gtr, i_eql, i_neq, i_add, i_sub, i_mul, s_eql, s_neq, s_gtr, s_lss, pickSV, noGl, lenE, valOf, ba_size, flat1_not, optE, u9, se9, idx_str u9 hc, k1, k2, fn39, fn40, Tryd.f39, Tryd.f40, natLt0, c3]; exact rfl) ?_
         show W _ _ _ _ _ _ _ _; (repeat (show W _ _ _ _ _ _ _ _; with_reducible apply W_seq)); refine W_cond (b := false) ?_ ?_ ?_; (focus simp [opnd]); (focus simp); intro _
         (repeat (show W _ _ _ _ _ _ _ _; with_reducible apply W_seq)); apply W_skip
         (repeat (show W _ _ _ _ _ _ _ _; with_reducible apply W_seq)); refine W_ops (by simp [execOps, wantedE, isCall, stepOp, valOp, callOp, calleeE, datumL, datum, opnd, opndL, ofVF, putF, i_geq, i_leq, i_lss, i_gtr, i_eql, i_neq, i_add, i_sub, i_mul, s_eql, s_neq, s_gtr, s_lss, pickSV, noGl, lenE, valOf, ba_size, flat1_not, optE, u9, se9]; exact rfl) ?_
         refine ⟨k + 1, ⟨rfl, rfl, rfl, ?_, hlt, ?_⟩, by omega⟩
         · simp [wi64s (show k < 9223372036854775807 by omega)]
         · rw [hg]; simp
         done)
      | (have h30 : k = 0 := by simpa using c3
         simp only [h30, Nat.lt_irrefl, decide_false, Bool.false_and, Bool.true_and, Bool.false_or, Bool.true_or, Bool.or_true, Bool.or_false] at hg
         (repeat (show W _ _ _ _ _ _ _ _; with_reducible apply W_seq)); refine W_ops (by simp [execOps, wantedE, isCall, stepOp, valOp, callOp, calleeE, datumL, datum, opnd, opndL, ofVF, putF, i_geq, i_leq, i_lss, i_gtr, i_eql, i_neq, i_add, i_sub, i_mul, s_eql, s_neq, s_gtr, s_lss, pickSV, noGl, lenE, valOf, ba_size, flat1_not, optE, u9, se9, idx_str u9 hc, k1, k2, fn39, fn40, Tryd.f39, Tryd.f40, natLt0, c3]; exact rfl) ?_
         show W _ _ _ _ _ _ _ _; (repeat (show W _ _ _ _ _ _ _ _; with_reducible apply W_seq)); refine W_cond (b := false) ?_ ?_ ?_; (focus simp [opnd]); (focus simp); intro _
         (repeat (show W _ _ _ _ _ _ _ _; with_reducible apply W_seq)); apply W_skip
         (repeat (show W _ _ _ _ _ _ _ _; with_reducible apply W_seq)); refine W_ops (by simp [execOps, wantedE, isCall, stepOp, valOp, callOp, calleeE, datumL, datum, opnd, opndL, ofVF, putF, i_geq, i_leq, i_lss, i_gtr, i_eql, i_neq, i_add, i_sub, i_mul, s_eql, s_neq, s_gtr, s_lss, pickSV, noGl, lenE, valOf, ba_size, flat1_not, optE, u9, se9]; exact rfl) ?_
         refine ⟨k + 1, ⟨rfl, rfl, rfl, ?_, hlt, ?_⟩, by omega⟩
         · simp [wi64s (show k < 9223372036854775807 by omega)]
         · rw [hg]; simp [h30]
         done)
      | (simp only [Bool.and_false, Bool.false_and, Bool.or_false, Bool.false_or] at hg
         (repeat (show W _ _ _ _ _ _ _ _; with_reducible apply W_seq)); refine W_ops (by simp [execOps, wantedE, isCall, stepOp, valOp, callOp, calleeE, datumL, datum, opnd, opndL, ofVF, putF, i_geq, i_leq, i_lss, i_gtr, i_eql, i_neq, i_add, i_sub, i_mul, s_eql, s_neq, s_gtr, s_lss, pickSV, noGl, lenE, valOf, ba_size, flat1_not, optE, u9, se9, idx_str u9 hc, k1, k2, fn39, fn40, Tryd.f39, Tryd.f40, natLt0, c3]; exact rfl) ?_
         show W _ _ _ _ _ _ _ _; (repeat (show W _ _ _ _ _ _ _ _; with_reducible apply W_seq)); refine W_cond (b := true) ?_ ?_ ?_; (focus simp [opnd]); rotate_left; (focus simp); intro _
         (repeat (show W _ _ _ _ _ _ _ _; with_reducible apply W_seq)); refine W_ops (by simp [execOps, wantedE, isCall, stepOp, valOp, callOp, calleeE, datumL, datum, opnd, opndL, ofVF, putF, i_geq, i_leq, i_lss, i_gtr, i_eql, i_neq, i_add, i_sub, i_mul, s_eql, s_neq, s_gtr, s_lss, pickSV, noGl, lenE, valOf, ba_size, flat1_not, optE, u9, se9]; exact rfl) ?_
         (repeat (show W _ _ _ _ _ _ _ _; with_reducible apply W_seq)); apply W_ret
         refine ⟨by simp, _, rfl, ?_⟩
         simp [resultE, noGl, snapR, snap, isWord, hg]
         done)
      | (have h30 : k = 0 := by simpa using c3
         simp only [h30, Nat.lt_irrefl, decide_false, Bool.and_false, Bool.false_and, Bool.or_false, Bool.false_or] at hg
         (repeat (show W _ _ _ _ _ _ _ _; with_reducible apply W_seq)); refine W_ops (by simp [execOps, wantedE, isCall, stepOp, valOp, callOp, calleeE, datumL, datum, opnd, opndL, ofVF, putF, i_geq, i_leq, i_lss, i_gtr, i_eql, i_neq, i_add, i_sub, i_mul, s_eql, s_neq, s_gtr, s_lss, pickSV, noGl, lenE, valOf, ba_size, flat1_not, optE, u9, se9, idx_str u9 hc, k1, k2, fn39, fn40, Tryd.f39, Tryd.f40, natLt0, c3]; exact rfl) ?_
         show W _ _ _ _ _ _ _ _; (repeat (show W _ _ _ _ _ _ _ _; with_reducible apply W_seq)); refine W_cond (b := true) ?_ ?_ ?_; (focus simp [opnd]); rotate_left; (focus simp); intro _
         (repeat (show W _ _ _ _ _ _ _ _; with_reducible apply W_seq)); refine W_ops (by simp [execOps, wantedE, isCall, stepOp, valOp, callOp, calleeE, datumL, datum, opnd, opndL, ofVF, putF, i_geq, i_leq, i_lss, i_gtr, i_eql, i_neq, i_add, i_sub, i_mul, s_eql, s_neq, s_gtr, s_lss, pickSV, noGl, lenE, valOf, ba_size, flat1_not, optE, u9, se9]; exact rfl) ?_
         (repeat (show W _ _ _ _ _ _ _ _; with_reducible apply W_seq)); apply W_ret
         refine ⟨by simp, _, rfl, ?_⟩
         simp [resultE, noGl, snapR, snap, isWord, hg])
    · (repeat (show W _ _ _ _ _ _ _ _; with_reducible apply W_seq)); refine W_ops (by simp [execOps, wantedE, isCall, stepOp, valOp, callOp, calleeE, datumL, datum, opnd, opndL, ofVF, putF, i_geq, i_leq, i_lss, i_gtr, i_eql, i_neq, i_add, i_sub, i_mul, s_eql, s_neq, s_gtr, s_lss, pickSV, noGl, lenE, valOf, ba_size, flat1_not, optE, u9, se9, hlt]; exact rfl) ?_
      show W _ _ _ _ _ _ _ _; (repeat (show W _ _ _ _ _ _ _ _; with_reducible apply W_seq)); refine W_cond (b := false) ?_ ?_ ?_; (focus simp [opnd]); (focus simp); intro _
      apply W_exit
      simp only [inBlock, if_true, andThen]
      have e : l.drop k = [] := List.drop_eq_nil_of_le (by omega)
      rw [e] at hg
      simp only [iwGo] at hg
      (repeat (show W _ _ _ _ _ _ _ _; with_reducible apply W_seq)); refine W_ops (by simp [execOps, wantedE, isCall, stepOp, valOp, callOp, calleeE, datumL, datum, opnd, opndL, ofVF, putF, i_geq, i_leq, i_lss, i_gtr, i_eql, i_neq, i_add, i_sub, i_mul, s_eql, s_neq, s_gtr, s_lss, pickSV, noGl, lenE, valOf, ba_size, flat1_not, optE, u9, se9]; exact rfl) ?_
      (repeat (show W _ _ _ _ _ _ _ _; with_reducible apply W_seq)); apply W_ret
      refine ⟨by simp, _, rfl, ?_⟩
      simp [resultE, noGl, snapR, snap, isWord, hg]
  · simp

theorem isInt_ev (hm : Tryd.prog.follows .mixedOrders = true) (hE : EnvOk Tryd.prog Z E) (l : List UInt8) (hl : l.length < 2 ^ 62)
    (k2 : ∀ c, E.D 40 [u8 c] = some (tb (isDigit c))) : PureC Tryd.prog Z 23 [str l] (tb (isInt l)) := by
  refine pure_of_W hE hm fn23 rfl (l.length + 1) ?_
  simp only [Tryd.f23, List.map, List.length, List.cons_append, List.nil_append, List.replicate]
  (repeat (show W _ _ _ _ _ _ _ _; with_reducible apply W_seq)); refine W_ops (by simp [execOps, wantedE, isCall, stepOp, valOp, callOp, calleeE, datumL, datum, opnd, opndL, ofVF, putF, i_geq, i_leq, i_lss, i_gtr, i_eql, i_neq, i_add, i_sub, i_mul, s_eql, s_neq, s_gtr, s_lss, pickSV, noGl, lenE, valOf, ba_size, flat1_not, optE, u9, se9]; exact rfl) ?_
  (repeat (show W _ _ _ _ _ _ _ _; with_reducible apply W_seq)); refine W_ops (by simp [execOps, wantedE, isCall, stepOp, valOp, callOp, calleeE, datumL, datum, opnd, opndL, ofVF, putF, i_geq, i_leq, i_lss, i_gtr, i_eql, i_neq, i_add, i_sub, i_mul, s_eql, s_neq, s_gtr, s_lss, pickSV, noGl, lenE, valOf, ba_size, flat1_not, optE, u9, se9]; exact rfl) ?_
  (repeat (show W _ _ _ _ _ _ _ _; with_reducible apply W_seq)); apply W_block
  apply W_loop (α := Nat) (fun k fr σ => σ = [] ∧ fr.length = 18 ∧ fr.getD 0 (.d (.tup [])) = .d (str l) ∧ fr.getD 3 (.d (.tup [])) = .d (i64 k) ∧ k ≤ l.length ∧ l.all isDigit = (l.drop k).all isDigit) (fun k => l.length - k) (a := 0)
  · exact ⟨rfl, rfl, rfl, rfl, by omega, by simp⟩
  · rintro k fr σ ⟨rfl, hlen, h0, h3, hk, hg⟩
    rw [fr_explicit fr 18 hlen]
    simp only [List.range, List.range.loop, List.map, h0, h3]
    by_cases hlt : k < l.length
    · have hc : l[k]? = some l[k] := List.getElem?_eq_getElem hlt
      have hdr : l.drop k = l[k] :: l.drop (k + 1) := List.drop_eq_getElem_cons hlt
      generalize hcc : l[k] = c at *
      rw [hdr, List.all_cons] at hg
      (repeat (show W _ _ _ _ _ _ _ _; with_reducible apply W_seq)); refine W_ops (by simp [execOps, wantedE, isCall, stepOp, valOp, callOp, calleeE, datumL, datum, opnd, opndL, ofVF, putF, i_geq, i_leq, i_lss, i_gtr, i_eql, i_neq, i_add, i_sub, i_mul, s_eql, s_neq, s_gtr, s_lss, pickSV, noGl, lenE, valOf, ba_size, flat1_not, optE, u9, se9, hlt]; exact rfl) ?_
      show W _ _ _ _ _ _ _ _; (repeat (show W _ _ _ _ _ _ _ _; with_reducible apply W_seq)); refine W_cond (b := true) ?_ ?_ ?_; (focus simp [opnd]); rotate_left; (focus simp); intro _
      (repeat (show W _ _ _ _ _ _ _ _; with_reducible apply W_seq)); apply W_skip
      (repeat (show W _ _ _ _ _ _ _ _; with_reducible apply W_seq)); apply W_block
      have k2 := k2 c
      (repeat (show W _ _ _ _ _ _ _ _; with_reducible apply W_seq)); refine W_ops (by simp [execOps, wantedE, isCall, stepOp, valOp, callOp, calleeE, datumL, datum, opnd, opndL, ofVF, putF, i_geq, i_leq, i_lss, i_gtr, i_eql, i_neq, i_add, i_sub, i_mul, s_eql, s_neq, s_gtr, s_lss, pickSV, noGl, lenE, valOf, ba_size, flat1_not, optE, u9, se9, idx_str u9 hc, k2, fn40, Tryd.f40]; exact rfl) ?_
      show W _ _ _ _ _ _ _ _; (repeat (show W _ _ _ _ _ _ _ _; with_reducible apply W_seq)); refine W_cond (b := !isDigit c) ?_ ?_ ?_; (focus simp [opnd])
      · intro hd
        have hd : isDigit c = false := by simpa using hd
        rw [hd, Bool.false_and] at hg
        (repeat (show W _ _ _ _ _ _ _ _; with_reducible apply W_seq)); refine W_ops (by simp [execOps, wantedE, isCall, stepOp, valOp, callOp, calleeE, datumL, datum, opnd, opndL, ofVF, putF, i_geq, i_leq, i_lss, i_gtr, i_eql, i_neq, i_add, i_sub, i_mul, s_eql, s_neq, s_gtr, s_lss, pickSV, noGl, lenE, valOf, ba_size, flat1_not, optE, u9, se9]; exact rfl) ?_
        (repeat (show W _ _ _ _ _ _ _ _; with_reducible apply W_seq)); apply W_ret
        refine ⟨by simp, _, rfl, ?_⟩
        simp [resultE, noGl, snapR, snap, isInt, hg]
      · intro hd
        have hd : isDigit c = true := by simpa using hd
        rw [hd, Bool.true_and] at hg
        (repeat (show W _ _ _ _ _ _ _ _; with_reducible apply W_seq)); apply W_skip
        (repeat (show W _ _ _ _ _ _ _ _; with_reducible apply W_seq)); refine W_ops (by simp [execOps, wantedE, isCall, stepOp, valOp, callOp, calleeE, datumL, datum, opnd, opndL, ofVF, putF, i_geq, i_leq, i_lss, i_gtr, i_eql, i_neq, i_add, i_sub, i_mul, s_eql, s_neq, s_gtr, s_lss, pickSV, noGl, lenE, valOf, ba_size, flat1_not, optE, u9, se9]; exact rfl) ?_
        refine ⟨k + 1, ⟨rfl, rfl, rfl, ?_, hlt, hg⟩, by omega⟩
        simp [wi64s (show k < 9223372036854775807 by omega)]
    · (repeat (show W _ _ _ _ _ _ _ _; with_reducible apply W_seq)); refine W_ops (by simp [execOps, wantedE, isCall, stepOp, valOp, callOp, calleeE, datumL, datum, opnd, opndL, ofVF, putF, i_geq, i_leq, i_lss, i_gtr, i_eql, i_neq, i_add, i_sub, i_mul, s_eql, s_neq, s_gtr, s_lss, pickSV, noGl, lenE, valOf, ba_size, flat1_not, optE, u9, se9, hlt]; exact rfl) ?_
      show W _ _ _ _ _ _ _ _; (repeat (show W _ _ _ _ _ _ _ _; with_reducible apply W_seq)); refine W_cond (b := false) ?_ ?_ ?_; (focus simp [opnd]); (focus simp); intro _
      apply W_exit
      simp only [inBlock, if_true, andThen]
      have e : l.drop k = [] := List.drop_eq_nil_of_le (by omega)
      rw [e, List.all_nil] at hg
      (repeat (show W _ _ _ _ _ _ _ _; with_reducible apply W_seq)); refine W_ops (by simp [execOps, wantedE, isCall, stepOp, valOp, callOp, calleeE, datumL, datum, opnd, opndL, ofVF, putF, i_geq, i_leq, i_lss, i_gtr, i_eql, i_neq, i_add, i_sub, i_mul, s_eql, s_neq, s_gtr, s_lss, pickSV, noGl, lenE, valOf, ba_size, flat1_not, optE, u9, se9]; exact rfl) ?_
      (repeat (show W _ _ _ _ _ _ _ _; with_reducible apply W_seq)); apply W_ret
      refine ⟨by simp, _, rfl, ?_⟩
      simp [resultE, noGl, snapR, snap, isInt, hg]
  · simp

def topDigits : List UInt8 := [57, 50, 50, 51, 51, 55, 50, 48, 51, 54, 56, 53, 52, 55, 55, 53, 56, 48, 56]
def badNum (l : List UInt8) : Bool := (decide (1 < l.length) && l.head? == some 48) || decide (19 < l.length) || (l.length == 19 && !(Op.bytesLess l topDigits || l == topDigits))
def valU : Nat → List UInt8 → Nat
  | n, [] => n
  | n, c :: l => valU ((10 * n % 18446744073709551616 + (c.toNat + 208) % 256) % 18446744073709551616) l
def numRef (l : List UInt8) : D := if badNum l then .tup [i64 0, tb false] else .tup [i64 (IntKind.i64.wrap (valU 0 l)), tb true]

set_option maxHeartbeats 2000000 in
theorem numRef_ev (hm : Tryd.prog.follows .mixedOrders = true) (hE : EnvOk Tryd.prog Z E) (l : List UInt8) (hl : l.length < 2 ^ 62) : PureC Tryd.prog Z 22 [str l] (numRef l) := by
  refine pure_of_W hE hm fn22 rfl (l.length + 1) ?_
  simp only [Tryd.f22, List.map, List.length, List.cons_append, List.nil_append, List.replicate]
  (repeat (show W _ _ _ _ _ _ _ _; with_reducible apply W_seq)); refine W_ops (by simp [execOps, wantedE, isCall, stepOp, valOp, callOp, calleeE, datumL, datum, opnd, opndL, ofVF, putF, i_geq, i_leq, i_lss, i_gtr, i_eql, i_neq, i_add, i_sub, i_mul, s_eql, s_neq, s_gtr, s_lss, pickSV, noGl, lenE, valOf, ba_size, flat1_not, optE, u9, se9]; exact rfl) ?_
  (repeat (show W _ _ _ _ _ _ _ _; with_reducible apply W_seq)); refine W_ops (by simp [execOps, wantedE, isCall, stepOp, valOp, callOp, calleeE, datumL, datum, opnd, opndL, ofVF, putF, i_geq, i_leq, i_lss, i_gtr, i_eql, i_neq, i_add, i_sub, i_mul, s_eql, s_neq, s_gtr, s_lss, pickSV, noGl, lenE, valOf, ba_size, flat1_not, optE, u9, se9]; exact rfl) ?_
  have e0 : (⟨#[57, 50, 50, 51, 51, 55, 50, 48, 51, 54, 56, 53, 52, 55, 55, 53, 56, 48, 56]⟩ : ByteArray) = ⟨⟨topDigits⟩⟩ := rfl
  have e1 : topDigits.length = 19 := rfl
  have e2 : ((l.length : Int) == 19) = (l.length == 19) := by rw [Bool.eq_iff_iff]; simp only [beq_iff_eq]; omega
  obtain ⟨b, hb⟩ : ∃ b, badNum l = b := ⟨_, rfl⟩
  apply W_seq
  refine W_then (fun fr σ => σ = [] ∧ fr.length = 50 ∧ fr.getD 0 (.d (.tup [])) = .d (str l) ∧ fr.getD 33 (.d (.tup [])) = .d (tb b)) ?_ ?_
  · cases hl0 : l with
    | nil =>
      rw [hl0] at hb
      have hb : false = b := hb
      (repeat (show W _ _ _ _ _ _ _ _; with_reducible apply W_seq)); refine W_ops (by simp [execOps, wantedE, isCall, stepOp, valOp, callOp, calleeE, datumL, datum, opnd, opndL, ofVF, putF, i_geq, i_leq, i_lss, i_gtr, i_eql, i_neq, i_add, i_sub, i_mul, s_eql, s_neq, s_gtr, s_lss, pickSV, noGl, lenE, valOf, ba_size, flat1_not, optE, u9, se9, e0, e1]; exact rfl) ?_
      exact ⟨rfl, rfl, rfl, by simp [← hb]⟩
    | cons c l' =>
      rw [← hl0]
      have hc : l[0]? = some c := by rw [hl0]; rfl
      have hh : l.head? = some c := by rw [hl0]; rfl
      have hi := idx_str u9 (i := 0) hc
      simp only [Int.natCast_zero] at hi
      have e3 : ((c.toNat : Int) == 48) = (some c == some (48 : UInt8)) := by
        rw [Bool.eq_iff_iff]; simp only [beq_iff_eq, Option.some.injEq]
        constructor
        · intro h; apply UInt8.toNat_inj.1; simpa using (by omega : c.toNat = 48)
        · rintro rfl; rfl
      unfold badNum at hb
      rw [hh, ← e3] at hb
      by_cases c1 : 1 < l.length <;> rcases c2 : ((c.toNat : Int) == 48) with _ | _ <;> by_cases c3 : 19 < l.length <;> rcases c4 : (l.length == 19) with _ | _ <;>
      · have d1 : decide ((1 : Int) < (l.length : Int)) = decide (1 < l.length) := by apply decide_eq_decide.2; omega
        have d3 : decide ((19 : Int) < (l.length : Int)) = decide (19 < l.length) := by apply decide_eq_decide.2; omega
        simp only [c1, c2, c3, c4, decide_true, decide_false, Bool.true_and, Bool.false_and, Bool.or_true, Bool.true_or, Bool.or_false, Bool.false_or] at hb
        (repeat (show W _ _ _ _ _ _ _ _; with_reducible apply W_seq)); refine W_ops (by simp [execOps, wantedE, isCall, stepOp, valOp, callOp, calleeE, datumL, datum, opnd, opndL, ofVF, putF, i_geq, i_leq, i_lss, i_gtr, i_eql, i_neq, i_add, i_sub, i_mul, s_eql, s_neq, s_gtr, s_lss, pickSV, noGl, lenE, valOf, ba_size, flat1_not, optE, u9, se9, hi, e0, e1, e2, d1, d3, c1, c2, c3, c4]; exact rfl) ?_
        exact ⟨rfl, rfl, rfl, by simp [← hb]⟩
  · rintro fr σ ⟨rfl, hlen, h0, h33⟩
    rw [fr_explicit fr 50 hlen]
    simp only [List.range, List.range.loop, List.map, h0, h33]
    show W _ _ _ _ _ _ _ _; (repeat (show W _ _ _ _ _ _ _ _; with_reducible apply W_seq)); refine W_cond (b := b) ?_ ?_ ?_; (focus simp [opnd])
    · intro hbt
      (repeat (show W _ _ _ _ _ _ _ _; with_reducible apply W_seq)); refine W_ops (by simp [execOps, wantedE, isCall, stepOp, valOp, callOp, calleeE, datumL, datum, opnd, opndL, ofVF, putF, i_geq, i_leq, i_lss, i_gtr, i_eql, i_neq, i_add, i_sub, i_mul, s_eql, s_neq, s_gtr, s_lss, pickSV, noGl, lenE, valOf, ba_size, flat1_not, optE, u9, se9]; exact rfl) ?_
      (repeat (show W _ _ _ _ _ _ _ _; with_reducible apply W_seq)); apply W_ret
      refine ⟨by simp, _, rfl, ?_⟩
      simp [resultE, noGl, snapR, snap, snapL, numRef, hb, hbt]
    · intro hbf
      (repeat (show W _ _ _ _ _ _ _ _; with_reducible apply W_seq)); apply W_skip
      (repeat (show W _ _ _ _ _ _ _ _; with_reducible apply W_seq)); refine W_ops (by simp [execOps, wantedE, isCall, stepOp, valOp, callOp, calleeE, datumL, datum, opnd, opndL, ofVF, putF, i_geq, i_leq, i_lss, i_gtr, i_eql, i_neq, i_add, i_sub, i_mul, s_eql, s_neq, s_gtr, s_lss, pickSV, noGl, lenE, valOf, ba_size, flat1_not, optE, u9, se9]; exact rfl) ?_
      (repeat (show W _ _ _ _ _ _ _ _; with_reducible apply W_seq)); refine W_ops (by simp [execOps, wantedE, isCall, stepOp, valOp, callOp, calleeE, datumL, datum, opnd, opndL, ofVF, putF, i_geq, i_leq, i_lss, i_gtr, i_eql, i_neq, i_add, i_sub, i_mul, s_eql, s_neq, s_gtr, s_lss, pickSV, noGl, lenE, valOf, ba_size, flat1_not, optE, u9, se9]; exact rfl) ?_
      (repeat (show W _ _ _ _ _ _ _ _; with_reducible apply W_seq)); apply W_block
      apply W_loop (α := Nat) (fun k fr σ => σ = [] ∧ fr.length = 50 ∧ fr.getD 0 (.d (.tup [])) = .d (str l) ∧ fr.getD 6 (.d (.tup [])) = .d (i64 k) ∧ k ≤ l.length ∧
        ∃ n : Nat, fr.getD 5 (.d (.tup [])) = .d (.sc (.int .u64 n)) ∧ valU 0 l = valU n (l.drop k)) (fun k => l.length - k) (a := 0)
      · exact ⟨rfl, rfl, rfl, rfl, by omega, 0, rfl, by simp⟩
      · rintro k fr σ ⟨rfl, hlen, h0, h6, hk, n, h5, hg⟩
        rw [fr_explicit fr 50 hlen]
        simp only [List.range, List.range.loop, List.map, h0, h6, h5]
        by_cases hlt : k < l.length
        · have hc : l[k]? = some l[k] := List.getElem?_eq_getElem hlt
          have hdr : l.drop k = l[k] :: l.drop (k + 1) := List.drop_eq_getElem_cons hlt
          generalize hcc : l[k] = c at *
          rw [hdr] at hg
          simp only [valU] at hg
          (repeat (show W _ _ _ _ _ _ _ _; with_reducible apply W_seq)); refine W_ops (by simp [execOps, wantedE, isCall, stepOp, valOp, callOp, calleeE, datumL, datum, opnd, opndL, ofVF, putF, i_geq, i_leq, i_lss, i_gtr, i_eql, i_neq, i_add, i_sub, i_mul, s_eql, s_neq, s_gtr, s_lss, pickSV, noGl, lenE, valOf, ba_size, flat1_not, optE, u9, se9, hlt]; exact rfl) ?_
          show W _ _ _ _ _ _ _ _; (repeat (show W _ _ _ _ _ _ _ _; with_reducible apply W_seq)); refine W_cond (b := true) ?_ ?_ ?_; (focus simp [opnd]); rotate_left; (focus simp); intro _
          (repeat (show W _ _ _ _ _ _ _ _; with_reducible apply W_seq)); apply W_skip
          (repeat (show W _ _ _ _ _ _ _ _; with_reducible apply W_seq)); apply W_block
          have g1 : IntKind.u64.wrap (10 * (n : Int)) = ((10 * n % 18446744073709551616 : Nat) : Int) := by
            rw [show IntKind.u64.wrap (10 * (n : Int)) = (10 * (n : Int)) % 18446744073709551616 by simp [IntKind.wrap, IntKind.bits, IntKind.signed]]; omega
          have g2 : IntKind.u8.wrap ((c.toNat : Int) - 48) = (((c.toNat + 208) % 256 : Nat) : Int) := by
            rw [show IntKind.u8.wrap ((c.toNat : Int) - 48) = ((c.toNat : Int) - 48) % 256 by simp [IntKind.wrap, IntKind.bits, IntKind.signed]]; omega
          obtain ⟨x, hx⟩ : ∃ x : Nat, 10 * n % 18446744073709551616 = x := ⟨_, rfl⟩
          obtain ⟨y, hy⟩ : ∃ y : Nat, (c.toNat + 208) % 256 = y := ⟨_, rfl⟩
          have hy2 : y < 256 := by omega
          rw [hx] at g1 hg
          rw [hy] at g2 hg
          have g3 : IntKind.u64.wrap (y : Int) = y := wu64 (by omega) (by omega)
          have g4 : IntKind.u64.wrap ((x : Int) + (y : Int)) = (((x + y) % 18446744073709551616 : Nat) : Int) := by
            rw [show IntKind.u64.wrap ((x : Int) + (y : Int)) = ((x : Int) + (y : Int)) % 18446744073709551616 by simp [IntKind.wrap, IntKind.bits, IntKind.signed]]; omega
          obtain ⟨z, hz⟩ : ∃ z : Nat, (x + y) % 18446744073709551616 = z := ⟨_, rfl⟩
          rw [hz] at g4 hg
          (repeat (show W _ _ _ _ _ _ _ _; with_reducible apply W_seq)); refine W_ops (by simp [execOps, wantedE, isCall, stepOp, valOp, callOp, calleeE, datumL, datum, opnd, opndL, ofVF, putF, i_geq, i_leq, i_lss, i_gtr, i_eql, i_neq, i_add, i_sub, i_mul, s_eql, s_neq, s_gtr, s_lss, pickSV, noGl, lenE, valOf, ba_size, flat1_not, optE, u9, se9, idx_str u9 hc, g1, g2, g3, g4, flat1_int u5 u77]; exact rfl) ?_
          (repeat (show W _ _ _ _ _ _ _ _; with_reducible apply W_seq)); refine W_ops (by simp [execOps, wantedE, isCall, stepOp, valOp, callOp, calleeE, datumL, datum, opnd, opndL, ofVF, putF, i_geq, i_leq, i_lss, i_gtr, i_eql, i_neq, i_add, i_sub, i_mul, s_eql, s_neq, s_gtr, s_lss, pickSV, noGl, lenE, valOf, ba_size, flat1_not, optE, u9, se9]; exact rfl) ?_
          refine ⟨k + 1, ⟨rfl, rfl, rfl, ?_, hlt, z, rfl, hg⟩, by omega⟩
          simp [wi64s (show k < 9223372036854775807 by omega)]
        · (repeat (show W _ _ _ _ _ _ _ _; with_reducible apply W_seq)); refine W_ops (by simp [execOps, wantedE, isCall, stepOp, valOp, callOp, calleeE, datumL, datum, opnd, opndL, ofVF, putF, i_geq, i_leq, i_lss, i_gtr, i_eql, i_neq, i_add, i_sub, i_mul, s_eql, s_neq, s_gtr, s_lss, pickSV, noGl, lenE, valOf, ba_size, flat1_not, optE, u9, se9, hlt]; exact rfl) ?_
          show W _ _ _ _ _ _ _ _; (repeat (show W _ _ _ _ _ _ _ _; with_reducible apply W_seq)); refine W_cond (b := false) ?_ ?_ ?_; (focus simp [opnd]); (focus simp); intro _
          apply W_exit
          simp only [inBlock, if_true, andThen]
          have e : l.drop k = [] := List.drop_eq_nil_of_le (by omega)
          rw [e] at hg
          simp only [valU] at hg
          (repeat (show W _ _ _ _ _ _ _ _; with_reducible apply W_seq)); refine W_ops (by simp [execOps, wantedE, isCall, stepOp, valOp, callOp, calleeE, datumL, datum, opnd, opndL, ofVF, putF, i_geq, i_leq, i_lss, i_gtr, i_eql, i_neq, i_add, i_sub, i_mul, s_eql, s_neq, s_gtr, s_lss, pickSV, noGl, lenE, valOf, ba_size, flat1_not, optE, u9, se9, flat1_int u77 u2]; exact rfl) ?_
          (repeat (show W _ _ _ _ _ _ _ _; with_reducible apply W_seq)); apply W_ret
          refine ⟨by simp, _, rfl, ?_⟩
          simp [resultE, noGl, snapR, snap, snapL, numRef, hb, hbf, hg]
      · simp
end Go.Vm
