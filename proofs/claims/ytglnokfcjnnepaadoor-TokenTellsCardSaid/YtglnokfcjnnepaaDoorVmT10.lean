/- Chapter 5: the program's join; tokens that are the document's. -/
import Derived.Test.YtglnokfcjnnepaaDoorVmT9
open Go Go.Vm Go.Proofs
namespace Go.Vm
set_option maxRecDepth 100000
set_option linter.unusedSimpArgs false
variable {E : Env} {Z : GTab}
theorem fn26 : Tryd.prog.funcs[26]? = some Tryd.f26 := rfl

def wordsOf (L : List Tok) : List (List UInt8) := (L.filter fun x => x.k != 3).map (·.t)

set_option maxHeartbeats 1000000 in
theorem join_ev (hm : Tryd.prog.follows .mixedOrders = true) (hE : EnvOk Tryd.prog Z E) (L : List Tok) (hl : L.length < 1000000) (r : List UInt8)
    (k26 : E.D 26 [.sl ((wordsOf L).map fun s => [str s]), str [32]] = some (str r)) : PureC Tryd.prog Z 13 [toksD L] (str r) := by
  obtain ⟨I27, in27, zc27⟩ := x27
  refine pure_of_W hE hm fn13 rfl (L.length + 1) ?_
  simp only [Tryd.f13, List.map, List.length, List.cons_append, List.nil_append, List.replicate]
  (repeat (show W _ _ _ _ _ _ _ _; with_reducible apply W_seq)); refine W_ops (by simp [execOps, wantedE, isCall, stepOp, valOp, callOp, calleeE, datumL, datum, opnd, opndL, ofVF, putF, i_geq, i_leq, i_lss, i_gtr, i_eql, i_neq, i_add, i_sub, i_mul, s_eql, s_neq, s_gtr, s_lss, pickSV, noGl, lenE, valOf, ba_size, flat1_not, optE, u9, se9, sz9, ok9, ag9, if9, zr9, lb9, lb2, lb3, lb23, ld9, ld3, ld23, lb27, lb35, lb25, lb33, ld27, ld35, fa27_0, fa27_1, fa27_2, fa27_3, fa35_0, fa35_1, fa35_2, fa25_0, fa25_1, fp35_0, fp35_1, fp27_1, sz27, sz35, sz33, if27, if35, if33, se22, se29, zr27, zr35, set_last, se52]; exact rfl) ?_
  (repeat (show W _ _ _ _ _ _ _ _; with_reducible apply W_seq)); refine W_ops (by simp [execOps, wantedE, isCall, stepOp, valOp, callOp, calleeE, datumL, datum, opnd, opndL, ofVF, putF, i_geq, i_leq, i_lss, i_gtr, i_eql, i_neq, i_add, i_sub, i_mul, s_eql, s_neq, s_gtr, s_lss, pickSV, noGl, lenE, valOf, ba_size, flat1_not, optE, u9, se9, sz9, ok9, ag9, if9, zr9, lb9, lb2, lb3, lb23, ld9, ld3, ld23, lb27, lb35, lb25, lb33, ld27, ld35, fa27_0, fa27_1, fa27_2, fa27_3, fa35_0, fa35_1, fa35_2, fa25_0, fa25_1, fp35_0, fp35_1, fp27_1, sz27, sz35, sz33, if27, if35, if33, se22, se29, zr27, zr35, set_last, se52, demoteL, demote]; exact rfl) ?_
  (repeat (show W _ _ _ _ _ _ _ _; with_reducible apply W_seq)); refine W_ops (by simp [execOps, wantedE, isCall, stepOp, valOp, callOp, calleeE, datumL, datum, opnd, opndL, ofVF, putF, i_geq, i_leq, i_lss, i_gtr, i_eql, i_neq, i_add, i_sub, i_mul, s_eql, s_neq, s_gtr, s_lss, pickSV, noGl, lenE, valOf, ba_size, flat1_not, optE, u9, se9, sz9, ok9, ag9, if9, zr9, lb9, lb2, lb3, lb23, ld9, ld3, ld23, lb27, lb35, lb25, lb33, ld27, ld35, fa27_0, fa27_1, fa27_2, fa27_3, fa35_0, fa35_1, fa35_2, fa25_0, fa25_1, fp35_0, fp35_1, fp27_1, sz27, sz35, sz33, if27, if35, if33, se22, se29, zr27, zr35, set_last, se52, toksD, rowsOf]; exact rfl) ?_
  (repeat (show W _ _ _ _ _ _ _ _; with_reducible apply W_seq)); apply W_block
  apply W_loop (α := Nat) (fun k fr σ => fr.length = 23 ∧ fr.getD 3 (.d (.tup [])) = .gl 3 9 ((wordsOf (L.take k)).map fun s => [str s]) ∧ fr.getD 6 (.d (.tup [])) = .d (toksD L) ∧ fr.getD 7 (.d (.tup [])) = .d (i64 L.length) ∧
    fr.getD 8 (.d (.tup [])) = .d (i64 k) ∧ k ≤ L.length) (fun k => L.length - k) (a := 0)
  · exact ⟨rfl, rfl, rfl, by simp, rfl, by omega⟩
  · rintro k fr σ ⟨hlen, h3, h6, h7, h8, hk⟩
    rw [fr_explicit fr 23 hlen]
    simp only [List.range, List.range.loop, List.map, h3, h6, h7, h8]
    by_cases hlt : k < L.length
    · have hr := row_get hlt
      have ht : L.take (k + 1) = L.take k ++ [L[k]] := by rw [List.take_add_one, List.getElem?_eq_getElem hlt]; rfl
      generalize hx : L[k] = x at *
      have hw : (wordsOf (L.take k)).length ≤ k := by
        unfold wordsOf
        have := List.length_filter_le (fun x : Tok => x.k != 3) (L.take k)
        simp only [List.length_map]
        have h2 : (L.take k).length ≤ k := by simp; omega
        omega
      (repeat (show W _ _ _ _ _ _ _ _; with_reducible apply W_seq)); refine W_ops (by simp [execOps, wantedE, isCall, stepOp, valOp, callOp, calleeE, datumL, datum, opnd, opndL, ofVF, putF, i_geq, i_leq, i_lss, i_gtr, i_eql, i_neq, i_add, i_sub, i_mul, s_eql, s_neq, s_gtr, s_lss, pickSV, noGl, lenE, valOf, ba_size, flat1_not, optE, u9, se9, sz9, ok9, ag9, if9, zr9, lb9, lb2, lb3, lb23, ld9, ld3, ld23, lb27, lb35, lb25, lb33, ld27, ld35, fa27_0, fa27_1, fa27_2, fa27_3, fa35_0, fa35_1, fa35_2, fa25_0, fa25_1, fp35_0, fp35_1, fp27_1, sz27, sz35, sz33, if27, if35, if33, se22, se29, zr27, zr35, set_last, se52, hlt]; exact rfl) ?_
      show W _ _ _ _ _ _ _ _; (repeat (show W _ _ _ _ _ _ _ _; with_reducible apply W_seq)); refine W_cond (b := true) ?_ ?_ ?_; (focus simp [opnd, hlt]); rotate_left; (focus simp); intro _
      (repeat (show W _ _ _ _ _ _ _ _; with_reducible apply W_seq)); apply W_skip
      (repeat (show W _ _ _ _ _ _ _ _; with_reducible apply W_seq)); apply W_block
      (repeat (show W _ _ _ _ _ _ _ _; with_reducible apply W_seq)); refine W_ops (by simp [execOps, wantedE, isCall, stepOp, valOp, callOp, calleeE, datumL, datum, opnd, opndL, ofVF, putF, i_geq, i_leq, i_lss, i_gtr, i_eql, i_neq, i_add, i_sub, i_mul, s_eql, s_neq, s_gtr, s_lss, pickSV, noGl, lenE, valOf, ba_size, flat1_not, optE, u9, se9, sz9, ok9, ag9, if9, zr9, lb9, lb2, lb3, lb23, ld9, ld3, ld23, lb27, lb35, lb25, lb33, ld27, ld35, fa27_0, fa27_1, fa27_2, fa27_3, fa35_0, fa35_1, fa35_2, fa25_0, fa25_1, fp35_0, fp35_1, fp27_1, sz27, sz35, sz33, if27, if35, if33, se22, se29, zr27, zr35, set_last, se52, toksD, Tok.row, rowsOf, indexAddrE, asI, hr, in27, zc27, cellsS, settle, overS, List.range, List.range.loop]; exact rfl) ?_
      (repeat (show W _ _ _ _ _ _ _ _; with_reducible apply W_seq)); refine W_ops (by simp [execOps, wantedE, isCall, stepOp, valOp, callOp, calleeE, datumL, datum, opnd, opndL, ofVF, putF, i_geq, i_leq, i_lss, i_gtr, i_eql, i_neq, i_add, i_sub, i_mul, s_eql, s_neq, s_gtr, s_lss, pickSV, noGl, lenE, valOf, ba_size, flat1_not, optE, u9, se9, sz9, ok9, ag9, if9, zr9, lb9, lb2, lb3, lb23, ld9, ld3, ld23, lb27, lb35, lb25, lb33, ld27, ld35, fa27_0, fa27_1, fa27_2, fa27_3, fa35_0, fa35_1, fa35_2, fa25_0, fa25_1, fp35_0, fp35_1, fp27_1, sz27, sz35, sz33, if27, if35, if33, se22, se29, zr27, zr35, set_last, se52]; exact rfl) ?_
      by_cases h3k : x.k = 3
      · have hw2 : wordsOf (L.take (k + 1)) = wordsOf (L.take k) := by rw [ht]; simp [wordsOf, h3k]
        show W _ _ _ _ _ _ _ _; (repeat (show W _ _ _ _ _ _ _ _; with_reducible apply W_seq)); refine W_cond (b := false) ?_ ?_ ?_; (focus simp [opnd, h3k]); (focus simp); intro _
        (repeat (show W _ _ _ _ _ _ _ _; with_reducible apply W_seq)); apply W_skip
        (repeat (show W _ _ _ _ _ _ _ _; with_reducible apply W_seq)); refine W_ops (by simp [execOps, wantedE, isCall, stepOp, valOp, callOp, calleeE, datumL, datum, opnd, opndL, ofVF, putF, i_geq, i_leq, i_lss, i_gtr, i_eql, i_neq, i_add, i_sub, i_mul, s_eql, s_neq, s_gtr, s_lss, pickSV, noGl, lenE, valOf, ba_size, flat1_not, optE, u9, se9, sz9, ok9, ag9, if9, zr9, lb9, lb2, lb3, lb23, ld9, ld3, ld23, lb27, lb35, lb25, lb33, ld27, ld35, fa27_0, fa27_1, fa27_2, fa27_3, fa35_0, fa35_1, fa35_2, fa25_0, fa25_1, fp35_0, fp35_1, fp27_1, sz27, sz35, sz33, if27, if35, if33, se22, se29, zr27, zr35, set_last, se52]; exact rfl) ?_
        refine ⟨k + 1, ⟨rfl, ?_, rfl, rfl, ?_, hlt⟩, by omega⟩
        · rw [hw2]; rfl
        · simp [wi64s (show k < 9223372036854775807 by omega)]
      · have hw2 : wordsOf (L.take (k + 1)) = wordsOf (L.take k) ++ [x.t] := by rw [ht]; simp [wordsOf, h3k]
        have hrl : ((wordsOf (L.take k)).map fun s => [str s]).length ≤ k := by simpa using hw
        generalize hR : ((wordsOf (L.take k)).map fun s => [str s]) = R at *
        have ha : (R.length + 1) * 16 ≤ 140737488355328 := by omega
        show W _ _ _ _ _ _ _ _; (repeat (show W _ _ _ _ _ _ _ _; with_reducible apply W_seq)); refine W_cond (b := true) ?_ ?_ ?_; (focus simp [opnd, h3k]); rotate_left; (focus simp); intro _
        (repeat (show W _ _ _ _ _ _ _ _; with_reducible apply W_seq)); refine W_ops (by simp [execOps, wantedE, isCall, stepOp, valOp, callOp, calleeE, datumL, datum, opnd, opndL, ofVF, putF, i_geq, i_leq, i_lss, i_gtr, i_eql, i_neq, i_add, i_sub, i_mul, s_eql, s_neq, s_gtr, s_lss, pickSV, noGl, lenE, valOf, ba_size, flat1_not, optE, u9, se9, sz9, ok9, ag9, if9, zr9, lb9, lb2, lb3, lb23, ld9, ld3, ld23, lb27, lb35, lb25, lb33, ld27, ld35, fa27_0, fa27_1, fa27_2, fa27_3, fa35_0, fa35_1, fa35_2, fa25_0, fa25_1, fp35_0, fp35_1, fp27_1, sz27, sz35, sz33, if27, if35, if33, se22, se29, zr27, zr35, set_last, se52, rowsOf, rowsLit, cellsD, demoteL, demote, srcRows, ap9, ha, demoteB]; exact rfl) ?_
        (repeat (show W _ _ _ _ _ _ _ _; with_reducible apply W_seq)); refine W_ops (by simp [execOps, wantedE, isCall, stepOp, valOp, callOp, calleeE, datumL, datum, opnd, opndL, ofVF, putF, i_geq, i_leq, i_lss, i_gtr, i_eql, i_neq, i_add, i_sub, i_mul, s_eql, s_neq, s_gtr, s_lss, pickSV, noGl, lenE, valOf, ba_size, flat1_not, optE, u9, se9, sz9, ok9, ag9, if9, zr9, lb9, lb2, lb3, lb23, ld9, ld3, ld23, lb27, lb35, lb25, lb33, ld27, ld35, fa27_0, fa27_1, fa27_2, fa27_3, fa35_0, fa35_1, fa35_2, fa25_0, fa25_1, fp35_0, fp35_1, fp27_1, sz27, sz35, sz33, if27, if35, if33, se22, se29, zr27, zr35, set_last, se52]; exact rfl) ?_
        refine ⟨k + 1, ⟨rfl, ?_, rfl, rfl, ?_, hlt⟩, by omega⟩
        · rw [hw2, List.map_append, hR]; rfl
        · simp [wi64s (show k < 9223372036854775807 by omega)]
    · (repeat (show W _ _ _ _ _ _ _ _; with_reducible apply W_seq)); refine W_ops (by simp [execOps, wantedE, isCall, stepOp, valOp, callOp, calleeE, datumL, datum, opnd, opndL, ofVF, putF, i_geq, i_leq, i_lss, i_gtr, i_eql, i_neq, i_add, i_sub, i_mul, s_eql, s_neq, s_gtr, s_lss, pickSV, noGl, lenE, valOf, ba_size, flat1_not, optE, u9, se9, sz9, ok9, ag9, if9, zr9, lb9, lb2, lb3, lb23, ld9, ld3, ld23, lb27, lb35, lb25, lb33, ld27, ld35, fa27_0, fa27_1, fa27_2, fa27_3, fa35_0, fa35_1, fa35_2, fa25_0, fa25_1, fp35_0, fp35_1, fp27_1, sz27, sz35, sz33, if27, if35, if33, se22, se29, zr27, zr35, set_last, se52, hlt]; exact rfl) ?_
      show W _ _ _ _ _ _ _ _; (repeat (show W _ _ _ _ _ _ _ _; with_reducible apply W_seq)); refine W_cond (b := false) ?_ ?_ ?_; (focus simp [opnd, hlt]); (focus simp); intro _
      apply W_exit
      simp only [inBlock, if_true, andThen]
      have e : L.take k = L := List.take_of_length_le (by omega)
      simp only [e]
      have e0 : (⟨#[32]⟩ : ByteArray) = ⟨⟨[32]⟩⟩ := rfl
      (repeat (show W _ _ _ _ _ _ _ _; with_reducible apply W_seq)); refine W_ops (by simp [execOps, wantedE, isCall, stepOp, valOp, callOp, calleeE, datumL, datum, opnd, opndL, ofVF, putF, i_geq, i_leq, i_lss, i_gtr, i_eql, i_neq, i_add, i_sub, i_mul, s_eql, s_neq, s_gtr, s_lss, pickSV, noGl, lenE, valOf, ba_size, flat1_not, optE, u9, se9, sz9, ok9, ag9, if9, zr9, lb9, lb2, lb3, lb23, ld9, ld3, ld23, lb27, lb35, lb25, lb33, ld27, ld35, fa27_0, fa27_1, fa27_2, fa27_3, fa35_0, fa35_1, fa35_2, fa25_0, fa25_1, fp35_0, fp35_1, fp27_1, sz27, sz35, sz33, if27, if35, if33, se22, se29, zr27, zr35, set_last, se52, e0, k26, fn26, Tryd.f26]; exact rfl) ?_
      (repeat (show W _ _ _ _ _ _ _ _; with_reducible apply W_seq)); apply W_ret
      refine ⟨by simp, _, rfl, ?_⟩
      simp [resultE, noGl, snapR, snap]
  · simp
end Go.Vm
