/- Chapter 5: lists of tokens that are the document's. -/
import Derived.Test.YtglnokfcjnnepaaDoorVmT11
open Go Go.Vm Go.Proofs
namespace Go.Vm
set_option maxRecDepth 100000
set_option linter.unusedSimpArgs false
variable {E : Env} {Z : GTab}

def eqTok (x y : Tok) : Bool := x.k == y.k && x.t == y.t && x.n == y.n && x.a == y.a && x.b == y.b
theorem neq35x (x y : Tok) (p q : Operand) : bin2 Tryd.prog .neq 35 p q (.d (tokD x.k x.t x.n x.a x.b)) (.d (tokD y.k y.t y.n y.a y.b)) = some (tb (!eqTok x y)) := neq35 ..
def sameGo : List Tok → List Tok → Bool
  | x :: xs, y :: ys => eqTok x y && sameGo xs ys
  | _, _ => true

set_option maxHeartbeats 1000000 in
theorem sameL_ev (hm : Tryd.prog.follows .mixedOrders = true) (hE : EnvOk Tryd.prog Z E) (L R : List Tok) (hl : L.length < 1000000)
    (k10 : ∀ k t n a b, E.D 10 [tokD k t n a b] = some (tokD k t n a b)) : PureC Tryd.prog Z 15 [toksD L, toksD R] (tb (L.length == R.length && sameGo L R)) := by
  refine pure_of_W hE hm fn15 rfl (L.length + 1) ?_
  simp only [Tryd.f15, List.map, List.length, List.cons_append, List.nil_append, List.replicate]
  have e1 : ((L.length : Int) != (R.length : Int)) = (L.length != R.length) := by
    rw [Bool.eq_iff_iff]; simp only [bne_iff_ne]; omega
  (repeat (show W _ _ _ _ _ _ _ _; with_reducible apply W_seq)); refine W_ops (by simp [execOps, wantedE, isCall, stepOp, valOp, callOp, calleeE, datumL, datum, opnd, opndL, ofVF, putF, i_geq, i_leq, i_lss, i_gtr, i_eql, i_neq, i_add, i_sub, i_mul, s_eql, s_neq, s_gtr, s_lss, pickSV, noGl, lenE, valOf, ba_size, flat1_not, optE, u9, se9, sz9, ok9, ag9, if9, zr9, lb9, lb2, lb3, lb23, ld9, ld3, ld23, lb27, lb35, lb25, lb33, ld27, ld35, fa27_0, fa27_1, fa27_2, fa27_3, fa35_0, fa35_1, fa35_2, fa25_0, fa25_1, fp35_0, fp35_1, fp27_1, sz27, sz35, sz33, if27, if35, if33, se22, se29, zr27, zr35, set_last, se52]; exact rfl) ?_
  (repeat (show W _ _ _ _ _ _ _ _; with_reducible apply W_seq)); refine W_ops (by simp [execOps, wantedE, isCall, stepOp, valOp, callOp, calleeE, datumL, datum, opnd, opndL, ofVF, putF, i_geq, i_leq, i_lss, i_gtr, i_eql, i_neq, i_add, i_sub, i_mul, s_eql, s_neq, s_gtr, s_lss, pickSV, noGl, lenE, valOf, ba_size, flat1_not, optE, u9, se9, sz9, ok9, ag9, if9, zr9, lb9, lb2, lb3, lb23, ld9, ld3, ld23, lb27, lb35, lb25, lb33, ld27, ld35, fa27_0, fa27_1, fa27_2, fa27_3, fa35_0, fa35_1, fa35_2, fa25_0, fa25_1, fp35_0, fp35_1, fp27_1, sz27, sz35, sz33, if27, if35, if33, se22, se29, zr27, zr35, set_last, se52, toksD, rowsOf, e1]; exact rfl) ?_
  by_cases hLR : L.length = R.length
  · show W _ _ _ _ _ _ _ _; (repeat (show W _ _ _ _ _ _ _ _; with_reducible apply W_seq)); refine W_cond (b := false) ?_ ?_ ?_; (focus simp [opnd, hLR]); (focus simp); intro _
    (repeat (show W _ _ _ _ _ _ _ _; with_reducible apply W_seq)); apply W_skip
    (repeat (show W _ _ _ _ _ _ _ _; with_reducible apply W_seq)); refine W_ops (by simp [execOps, wantedE, isCall, stepOp, valOp, callOp, calleeE, datumL, datum, opnd, opndL, ofVF, putF, i_geq, i_leq, i_lss, i_gtr, i_eql, i_neq, i_add, i_sub, i_mul, s_eql, s_neq, s_gtr, s_lss, pickSV, noGl, lenE, valOf, ba_size, flat1_not, optE, u9, se9, sz9, ok9, ag9, if9, zr9, lb9, lb2, lb3, lb23, ld9, ld3, ld23, lb27, lb35, lb25, lb33, ld27, ld35, fa27_0, fa27_1, fa27_2, fa27_3, fa35_0, fa35_1, fa35_2, fa25_0, fa25_1, fp35_0, fp35_1, fp27_1, sz27, sz35, sz33, if27, if35, if33, se22, se29, zr27, zr35, set_last, se52]; exact rfl) ?_
    (repeat (show W _ _ _ _ _ _ _ _; with_reducible apply W_seq)); apply W_block
    apply W_loop (α := Nat) (fun k fr σ => σ = [] ∧ fr.length = 27 ∧ fr.getD 0 (.d (.tup [])) = .d (toksD L) ∧ fr.getD 1 (.d (.tup [])) = .d (toksD R) ∧ fr.getD 5 (.d (.tup [])) = .d (i64 k) ∧ k ≤ L.length ∧
      sameGo L R = sameGo (L.drop k) (R.drop k)) (fun k => L.length - k) (a := 0)
    · exact ⟨rfl, rfl, rfl, rfl, rfl, by omega, rfl⟩
    · rintro k fr σ ⟨rfl, hlen, h0, h1, h5, hk, hg⟩
      rw [fr_explicit fr 27 hlen]
      simp only [List.range, List.range.loop, List.map, h0, h1, h5]
      by_cases hlt : k < L.length
      · have hr := row_get hlt
        have hlt2 : k < R.length := by omega
        have hr2 := row_get hlt2
        rw [List.drop_eq_getElem_cons hlt, List.drop_eq_getElem_cons hlt2] at hg
        generalize hx : L[k] = x at *
        generalize hy : R[k] = y at *
        simp only [sameGo] at hg
        (repeat (show W _ _ _ _ _ _ _ _; with_reducible apply W_seq)); refine W_ops (by simp [execOps, wantedE, isCall, stepOp, valOp, callOp, calleeE, datumL, datum, opnd, opndL, ofVF, putF, i_geq, i_leq, i_lss, i_gtr, i_eql, i_neq, i_add, i_sub, i_mul, s_eql, s_neq, s_gtr, s_lss, pickSV, noGl, lenE, valOf, ba_size, flat1_not, optE, u9, se9, sz9, ok9, ag9, if9, zr9, lb9, lb2, lb3, lb23, ld9, ld3, ld23, lb27, lb35, lb25, lb33, ld27, ld35, fa27_0, fa27_1, fa27_2, fa27_3, fa35_0, fa35_1, fa35_2, fa25_0, fa25_1, fp35_0, fp35_1, fp27_1, sz27, sz35, sz33, if27, if35, if33, se22, se29, zr27, zr35, set_last, se52, toksD, rowsOf, hlt]; exact rfl) ?_
        show W _ _ _ _ _ _ _ _; (repeat (show W _ _ _ _ _ _ _ _; with_reducible apply W_seq)); refine W_cond (b := true) ?_ ?_ ?_; (focus simp [opnd, hlt]); rotate_left; (focus simp); intro _
        (repeat (show W _ _ _ _ _ _ _ _; with_reducible apply W_seq)); apply W_skip
        (repeat (show W _ _ _ _ _ _ _ _; with_reducible apply W_seq)); apply W_block
        (repeat (show W _ _ _ _ _ _ _ _; with_reducible apply W_seq)); refine W_draw (by simp [runD, stepD, pureCall, footE, execOps, wantedE, isCall, stepOp, valOp, callOp, calleeE, datumL, datum, opnd, opndL, ofVF, putF, i_geq, i_leq, i_lss, i_gtr, i_eql, i_neq, i_add, i_sub, i_mul, s_eql, s_neq, s_gtr, s_lss, pickSV, noGl, lenE, valOf, ba_size, flat1_not, optE, u9, se9, sz9, ok9, ag9, if9, zr9, lb9, lb2, lb3, lb23, ld9, ld3, ld23, lb27, lb35, lb25, lb33, ld27, ld35, fa27_0, fa27_1, fa27_2, fa27_3, fa35_0, fa35_1, fa35_2, fa25_0, fa25_1, fp35_0, fp35_1, fp27_1, sz27, sz35, sz33, if27, if35, if33, se22, se29, zr27, zr35, set_last, se52, toksD, Tok.row, rowsOf, indexAddrE, asI, hr, hr2, k10, fn10, Tryd.f10, neq35x x y]; exact rfl) (by decide) (by rfl) ?_
        simp only [List.length_nil, List.range, List.range.loop, List.drop, settleIds]
        rcases c1 : eqTok x y with _ | _
        · rw [c1, Bool.false_and] at hg
          show W _ _ _ _ _ _ _ _; (repeat (show W _ _ _ _ _ _ _ _; with_reducible apply W_seq)); refine W_cond (b := true) ?_ ?_ ?_; (focus simp [opnd, c1]); rotate_left; (focus simp); intro _
          (repeat (show W _ _ _ _ _ _ _ _; with_reducible apply W_seq)); refine W_ops (by simp [execOps, wantedE, isCall, stepOp, valOp, callOp, calleeE, datumL, datum, opnd, opndL, ofVF, putF, i_geq, i_leq, i_lss, i_gtr, i_eql, i_neq, i_add, i_sub, i_mul, s_eql, s_neq, s_gtr, s_lss, pickSV, noGl, lenE, valOf, ba_size, flat1_not, optE, u9, se9, sz9, ok9, ag9, if9, zr9, lb9, lb2, lb3, lb23, ld9, ld3, ld23, lb27, lb35, lb25, lb33, ld27, ld35, fa27_0, fa27_1, fa27_2, fa27_3, fa35_0, fa35_1, fa35_2, fa25_0, fa25_1, fp35_0, fp35_1, fp27_1, sz27, sz35, sz33, if27, if35, if33, se22, se29, zr27, zr35, set_last, se52]; exact rfl) ?_
          (repeat (show W _ _ _ _ _ _ _ _; with_reducible apply W_seq)); apply W_ret
          refine ⟨by simp, _, rfl, ?_⟩
          simp [resultE, noGl, snapR, snap, hg]
        · rw [c1, Bool.true_and] at hg
          show W _ _ _ _ _ _ _ _; (repeat (show W _ _ _ _ _ _ _ _; with_reducible apply W_seq)); refine W_cond (b := false) ?_ ?_ ?_; (focus simp [opnd, c1]); (focus simp); intro _
          (repeat (show W _ _ _ _ _ _ _ _; with_reducible apply W_seq)); apply W_skip
          (repeat (show W _ _ _ _ _ _ _ _; with_reducible apply W_seq)); refine W_ops (by simp [execOps, wantedE, isCall, stepOp, valOp, callOp, calleeE, datumL, datum, opnd, opndL, ofVF, putF, i_geq, i_leq, i_lss, i_gtr, i_eql, i_neq, i_add, i_sub, i_mul, s_eql, s_neq, s_gtr, s_lss, pickSV, noGl, lenE, valOf, ba_size, flat1_not, optE, u9, se9, sz9, ok9, ag9, if9, zr9, lb9, lb2, lb3, lb23, ld9, ld3, ld23, lb27, lb35, lb25, lb33, ld27, ld35, fa27_0, fa27_1, fa27_2, fa27_3, fa35_0, fa35_1, fa35_2, fa25_0, fa25_1, fp35_0, fp35_1, fp27_1, sz27, sz35, sz33, if27, if35, if33, se22, se29, zr27, zr35, set_last, se52]; exact rfl) ?_
          refine ⟨k + 1, ⟨rfl, rfl, rfl, rfl, ?_, hlt, hg⟩, by omega⟩
          simp [wi64s (show k < 9223372036854775807 by omega)]
      · (repeat (show W _ _ _ _ _ _ _ _; with_reducible apply W_seq)); refine W_ops (by simp [execOps, wantedE, isCall, stepOp, valOp, callOp, calleeE, datumL, datum, opnd, opndL, ofVF, putF, i_geq, i_leq, i_lss, i_gtr, i_eql, i_neq, i_add, i_sub, i_mul, s_eql, s_neq, s_gtr, s_lss, pickSV, noGl, lenE, valOf, ba_size, flat1_not, optE, u9, se9, sz9, ok9, ag9, if9, zr9, lb9, lb2, lb3, lb23, ld9, ld3, ld23, lb27, lb35, lb25, lb33, ld27, ld35, fa27_0, fa27_1, fa27_2, fa27_3, fa35_0, fa35_1, fa35_2, fa25_0, fa25_1, fp35_0, fp35_1, fp27_1, sz27, sz35, sz33, if27, if35, if33, se22, se29, zr27, zr35, set_last, se52, toksD, rowsOf, hlt]; exact rfl) ?_
        show W _ _ _ _ _ _ _ _; (repeat (show W _ _ _ _ _ _ _ _; with_reducible apply W_seq)); refine W_cond (b := false) ?_ ?_ ?_; (focus simp [opnd, hlt]); (focus simp); intro _
        apply W_exit
        simp only [inBlock, if_true, andThen]
        have e : L.drop k = [] := List.drop_eq_nil_of_le (by omega)
        rw [e] at hg
        simp only [sameGo] at hg
        (repeat (show W _ _ _ _ _ _ _ _; with_reducible apply W_seq)); refine W_ops (by simp [execOps, wantedE, isCall, stepOp, valOp, callOp, calleeE, datumL, datum, opnd, opndL, ofVF, putF, i_geq, i_leq, i_lss, i_gtr, i_eql, i_neq, i_add, i_sub, i_mul, s_eql, s_neq, s_gtr, s_lss, pickSV, noGl, lenE, valOf, ba_size, flat1_not, optE, u9, se9, sz9, ok9, ag9, if9, zr9, lb9, lb2, lb3, lb23, ld9, ld3, ld23, lb27, lb35, lb25, lb33, ld27, ld35, fa27_0, fa27_1, fa27_2, fa27_3, fa35_0, fa35_1, fa35_2, fa25_0, fa25_1, fp35_0, fp35_1, fp27_1, sz27, sz35, sz33, if27, if35, if33, se22, se29, zr27, zr35, set_last, se52]; exact rfl) ?_
        (repeat (show W _ _ _ _ _ _ _ _; with_reducible apply W_seq)); apply W_ret
        refine ⟨by simp, _, rfl, ?_⟩
        simp [resultE, noGl, snapR, snap, hg, hLR]
    · simp
  · show W _ _ _ _ _ _ _ _; (repeat (show W _ _ _ _ _ _ _ _; with_reducible apply W_seq)); refine W_cond (b := true) ?_ ?_ ?_; (focus simp [opnd, hLR]); rotate_left; (focus simp); intro _
    (repeat (show W _ _ _ _ _ _ _ _; with_reducible apply W_seq)); refine W_ops (by simp [execOps, wantedE, isCall, stepOp, valOp, callOp, calleeE, datumL, datum, opnd, opndL, ofVF, putF, i_geq, i_leq, i_lss, i_gtr, i_eql, i_neq, i_add, i_sub, i_mul, s_eql, s_neq, s_gtr, s_lss, pickSV, noGl, lenE, valOf, ba_size, flat1_not, optE, u9, se9, sz9, ok9, ag9, if9, zr9, lb9, lb2, lb3, lb23, ld9, ld3, ld23, lb27, lb35, lb25, lb33, ld27, ld35, fa27_0, fa27_1, fa27_2, fa27_3, fa35_0, fa35_1, fa35_2, fa25_0, fa25_1, fp35_0, fp35_1, fp27_1, sz27, sz35, sz33, if27, if35, if33, se22, se29, zr27, zr35, set_last, se52]; exact rfl) ?_
    (repeat (show W _ _ _ _ _ _ _ _; with_reducible apply W_seq)); apply W_ret
    refine ⟨by simp, _, rfl, ?_⟩
    simp [resultE, noGl, snapR, snap, hLR]
end Go.Vm
