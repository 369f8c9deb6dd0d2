/- Chapter 5: signs; the document's form of a token; what is right. -/
import Derived.Test.YtglnokfcjnnepaaDoorVmT4
open Go Go.Vm Go.Proofs
namespace Go.Vm
set_option maxRecDepth 100000
set_option linter.unusedSimpArgs false
variable {E : Env} {Z : GTab}

def signsL : List (List UInt8) := [[124, 124], [38, 38], [61, 61], [33, 61], [60, 61], [62, 61], [60, 60], [62, 62], [60], [62], [61], [43], [45], [42], [47], [37], [38], [124], [94], [33], [126], [40], [41], [123], [125], [91], [93], [44], [59]]
def isSign (l : List UInt8) : Bool := signsL.any fun s => s == l

theorem b35 (k n a b : Int) (t : List UInt8) : buildE Tryd.prog 35 [(0, .d (i64 k)), (1, .d (str t)), (2, .d (i64 n)), (3, .d (.agg [i64 a, i64 b]))] = some (tokD k t n a b) := rfl
theorem ref_ev (hm : Tryd.prog.follows .mixedOrders = true) (hE : EnvOk Tryd.prog Z E) (k n a b : Int) (t : List UInt8) (k1 : ∀ a b, E.D 25 [.agg [i64 a, i64 b]] = some (.agg [i64 a, i64 b])) :
    PureC Tryd.prog Z 10 [tokD k t n a b] (tokD k t n a b) := by
  refine pure_of_W hE hm fn10 rfl 1 ?_
  obtain ⟨I35, in35, zc35⟩ := x35
  simp only [Tryd.f10, List.map, List.length, List.cons_append, List.nil_append, List.replicate]
  (repeat (show W _ _ _ _ _ _ _ _; with_reducible apply W_seq)); refine W_ops (by simp [execOps, wantedE, isCall, stepOp, valOp, callOp, calleeE, datumL, datum, opnd, opndL, ofVF, putF, i_geq, i_leq, i_lss, i_gtr, i_eql, i_neq, i_add, i_sub, i_mul, s_eql, s_neq, s_gtr, s_lss, pickSV, noGl, lenE, valOf, ba_size, flat1_not, optE, u9, se9, sz9, ok9, ag9, if9, zr9, lb9, lb2, lb3, lb23, ld9, ld3, ld23, lb27, lb35, lb25, lb33, ld27, ld35, fa27_0, fa27_1, fa27_2, fa27_3, fa35_0, fa35_1, fa35_2, fa25_0, fa25_1, fp35_0, fp35_1, fp27_1, sz27, sz35, sz33, if27, if35, if33, se22, se29, zr27, zr35, set_last, se52, in35, zc35, cellsS, settle, List.range, List.range.loop]; exact rfl) ?_
  (repeat (show W _ _ _ _ _ _ _ _; with_reducible apply W_seq)); refine W_draw (by simp [runD, stepD, pureCall, footE, execOps, wantedE, isCall, stepOp, valOp, callOp, calleeE, datumL, datum, opnd, opndL, ofVF, putF, i_geq, i_leq, i_lss, i_gtr, i_eql, i_neq, i_add, i_sub, i_mul, s_eql, s_neq, s_gtr, s_lss, pickSV, noGl, lenE, valOf, ba_size, flat1_not, optE, u9, se9, sz9, ok9, ag9, if9, zr9, lb9, lb2, lb3, lb23, ld9, ld3, ld23, lb27, lb35, lb25, lb33, ld27, ld35, fa27_0, fa27_1, fa27_2, fa27_3, fa35_0, fa35_1, fa35_2, fa25_0, fa25_1, fp35_0, fp35_1, fp27_1, sz27, sz35, sz33, if27, if35, if33, se22, se29, zr27, zr35, set_last, se52, cellsS, partsE, b35, overS, k1, fn25, Tryd.f25]; exact rfl) (by decide) (by rfl) ?_
  (repeat (show W _ _ _ _ _ _ _ _; with_reducible apply W_seq)); apply W_ret
  refine ⟨by simp, _, rfl, ?_⟩
  simp [resultE, noGl, snapR, snap]

theorem signs_row {k : Nat} (h : k < signsL.length) : (signsL.map fun s => [str s])[k]? = some [str signsL[k]] := by
  rw [List.getElem?_map, List.getElem?_eq_getElem h]; rfl

set_option maxHeartbeats 1000000 in
theorem isSign_ev (hm : Tryd.prog.follows .mixedOrders = true) (hE : EnvOk Tryd.prog Z E) (l : List UInt8) : PureC Tryd.prog Z 24 [str l] (tb (isSign l)) := by
  refine pure_of_W hE hm fn24 rfl 30 ?_
  simp only [Tryd.f24, List.map, List.length, List.cons_append, List.nil_append, List.replicate]
  (repeat (show W _ _ _ _ _ _ _ _; with_reducible apply W_seq)); refine W_ops (by simp [execOps, wantedE, isCall, stepOp, valOp, callOp, calleeE, datumL, datum, opnd, opndL, ofVF, putF, i_geq, i_leq, i_lss, i_gtr, i_eql, i_neq, i_add, i_sub, i_mul, s_eql, s_neq, s_gtr, s_lss, pickSV, noGl, lenE, valOf, ba_size, flat1_not, optE, u9, se9, sz9, ok9, ag9, if9, zr9, lb9, lb2, lb3, lb23, ld9, ld3, ld23, lb27, lb35, lb25, lb33, ld27, ld35, fa27_0, fa27_1, fa27_2, fa27_3, fa35_0, fa35_1, fa35_2, fa25_0, fa25_1, fp35_0, fp35_1, fp27_1, sz27, sz35, sz33, if27, if35, if33, se22, se29, zr27, zr35, set_last, se52]; exact rfl) ?_
  refine W_then (fun fr σ => σ = [] ∧ fr.length = 18 ∧ fr.getD 0 (.d (.tup [])) = .d (str l) ∧ fr.getD 3 (.d (.tup [])) = .gl 5 9 (signsL.map fun s => [str s])) ?_ ?_
  · (repeat (show W _ _ _ _ _ _ _ _; with_reducible apply W_seq)); refine W_ops (by simp [execOps, wantedE, isCall, stepOp, valOp, callOp, calleeE, datumL, datum, opnd, opndL, ofVF, putF, i_geq, i_leq, i_lss, i_gtr, i_eql, i_neq, i_add, i_sub, i_mul, s_eql, s_neq, s_gtr, s_lss, pickSV, noGl, lenE, valOf, ba_size, flat1_not, optE, u9, se9, sz9, ok9, ag9, if9, zr9, lb9, lb2, lb3, lb23, ld9, ld3, ld23, lb27, lb35, lb25, lb33, ld27, ld35, fa27_0, fa27_1, fa27_2, fa27_3, fa35_0, fa35_1, fa35_2, fa25_0, fa25_1, fp35_0, fp35_1, fp27_1, sz27, sz35, sz33, if27, if35, if33, se22, se29, zr27, zr35, set_last, se52, rowsLit, cellsD, demoteL, demote]; exact rfl) ?_
    refine ⟨rfl, rfl, rfl, rfl⟩
  · rintro fr σ ⟨rfl, hlen, h0, h3⟩
    rw [fr_explicit fr 18 hlen]
    simp only [List.range, List.range.loop, List.map, h0, h3]
    (repeat (show W _ _ _ _ _ _ _ _; with_reducible apply W_seq)); refine W_ops (by simp [execOps, wantedE, isCall, stepOp, valOp, callOp, calleeE, datumL, datum, opnd, opndL, ofVF, putF, i_geq, i_leq, i_lss, i_gtr, i_eql, i_neq, i_add, i_sub, i_mul, s_eql, s_neq, s_gtr, s_lss, pickSV, noGl, lenE, valOf, ba_size, flat1_not, optE, u9, se9, sz9, ok9, ag9, if9, zr9, lb9, lb2, lb3, lb23, ld9, ld3, ld23, lb27, lb35, lb25, lb33, ld27, ld35, fa27_0, fa27_1, fa27_2, fa27_3, fa35_0, fa35_1, fa35_2, fa25_0, fa25_1, fp35_0, fp35_1, fp27_1, sz27, sz35, sz33, if27, if35, if33, se22, se29, zr27, zr35, set_last, se52]; exact rfl) ?_
    (repeat (show W _ _ _ _ _ _ _ _; with_reducible apply W_seq)); apply W_block
    apply W_loop (α := Nat) (fun k fr σ => σ = [] ∧ fr.length = 18 ∧ fr.getD 0 (.d (.tup [])) = .d (str l) ∧ fr.getD 3 (.d (.tup [])) = .gl 5 9 (signsL.map fun s => [str s]) ∧ fr.getD 4 (.d (.tup [])) = .d (i64 k) ∧ k ≤ 29 ∧
      isSign l = (signsL.drop k).any fun s => s == l) (fun k => 29 - k) (a := 0)
    · exact ⟨rfl, rfl, rfl, rfl, rfl, by omega, rfl⟩
    · rintro k fr σ ⟨rfl, hlen, h0, h3, h4, hk, hg⟩
      have hsl : signsL.length = 29 := rfl
      rw [fr_explicit fr 18 hlen]
      simp only [List.range, List.range.loop, List.map, h0, h3, h4]
      generalize hS : signsL = S at *
      by_cases hlt : k < 29
      · have hr : (S.map fun s => [str s])[k]? = some [str S[k]] := by
          rw [List.getElem?_map, List.getElem?_eq_getElem (by omega)]; rfl
        have hdr : S.drop k = S[k] :: S.drop (k + 1) := List.drop_eq_getElem_cons (by omega)
        generalize hcc : S[k] = s at *
        rw [hdr, List.any_cons] at hg
        have hkn : (k : Int) < 29 := by omega
        (repeat (show W _ _ _ _ _ _ _ _; with_reducible apply W_seq)); refine W_ops (by simp [execOps, wantedE, isCall, stepOp, valOp, callOp, calleeE, datumL, datum, opnd, opndL, ofVF, putF, i_geq, i_leq, i_lss, i_gtr, i_eql, i_neq, i_add, i_sub, i_mul, s_eql, s_neq, s_gtr, s_lss, pickSV, noGl, lenE, valOf, ba_size, flat1_not, optE, u9, se9, sz9, ok9, ag9, if9, zr9, lb9, lb2, lb3, lb23, ld9, ld3, ld23, lb27, lb35, lb25, lb33, ld27, ld35, fa27_0, fa27_1, fa27_2, fa27_3, fa35_0, fa35_1, fa35_2, fa25_0, fa25_1, fp35_0, fp35_1, fp27_1, sz27, sz35, sz33, if27, if35, if33, se22, se29, zr27, zr35, set_last, se52, rowsOf, hsl, hkn]; exact rfl) ?_
        show W _ _ _ _ _ _ _ _; (repeat (show W _ _ _ _ _ _ _ _; with_reducible apply W_seq)); refine W_cond (b := true) ?_ ?_ ?_; (focus simp [opnd, hkn]); rotate_left; (focus simp); intro _
        (repeat (show W _ _ _ _ _ _ _ _; with_reducible apply W_seq)); apply W_skip
        (repeat (show W _ _ _ _ _ _ _ _; with_reducible apply W_seq)); apply W_block
        (repeat (show W _ _ _ _ _ _ _ _; with_reducible apply W_seq)); refine W_ops (by simp [execOps, wantedE, isCall, stepOp, valOp, callOp, calleeE, datumL, datum, opnd, opndL, ofVF, putF, i_geq, i_leq, i_lss, i_gtr, i_eql, i_neq, i_add, i_sub, i_mul, s_eql, s_neq, s_gtr, s_lss, pickSV, noGl, lenE, valOf, ba_size, flat1_not, optE, u9, se9, sz9, ok9, ag9, if9, zr9, lb9, lb2, lb3, lb23, ld9, ld3, ld23, lb27, lb35, lb25, lb33, ld27, ld35, fa27_0, fa27_1, fa27_2, fa27_3, fa35_0, fa35_1, fa35_2, fa25_0, fa25_1, fp35_0, fp35_1, fp27_1, sz27, sz35, sz33, if27, if35, if33, se22, se29, zr27, zr35, set_last, se52, rowsOf, indexAddrE, asI, se52, hr]; exact rfl) ?_
        show W _ _ _ _ _ _ _ _; (repeat (show W _ _ _ _ _ _ _ _; with_reducible apply W_seq)); refine W_cond (b := s == l) ?_ ?_ ?_; (focus simp [opnd])
        · intro hd
          rw [hd, Bool.true_or] at hg
          (repeat (show W _ _ _ _ _ _ _ _; with_reducible apply W_seq)); refine W_ops (by simp [execOps, wantedE, isCall, stepOp, valOp, callOp, calleeE, datumL, datum, opnd, opndL, ofVF, putF, i_geq, i_leq, i_lss, i_gtr, i_eql, i_neq, i_add, i_sub, i_mul, s_eql, s_neq, s_gtr, s_lss, pickSV, noGl, lenE, valOf, ba_size, flat1_not, optE, u9, se9, sz9, ok9, ag9, if9, zr9, lb9, lb2, lb3, lb23, ld9, ld3, ld23, lb27, lb35, lb25, lb33, ld27, ld35, fa27_0, fa27_1, fa27_2, fa27_3, fa35_0, fa35_1, fa35_2, fa25_0, fa25_1, fp35_0, fp35_1, fp27_1, sz27, sz35, sz33, if27, if35, if33, se22, se29, zr27, zr35, set_last, se52]; exact rfl) ?_
          (repeat (show W _ _ _ _ _ _ _ _; with_reducible apply W_seq)); apply W_ret
          refine ⟨by simp, _, rfl, ?_⟩
          simp [resultE, noGl, snapR, snap, hg]
        · intro hd
          rw [hd, Bool.false_or] at hg
          (repeat (show W _ _ _ _ _ _ _ _; with_reducible apply W_seq)); apply W_skip
          (repeat (show W _ _ _ _ _ _ _ _; with_reducible apply W_seq)); refine W_ops (by simp [execOps, wantedE, isCall, stepOp, valOp, callOp, calleeE, datumL, datum, opnd, opndL, ofVF, putF, i_geq, i_leq, i_lss, i_gtr, i_eql, i_neq, i_add, i_sub, i_mul, s_eql, s_neq, s_gtr, s_lss, pickSV, noGl, lenE, valOf, ba_size, flat1_not, optE, u9, se9, sz9, ok9, ag9, if9, zr9, lb9, lb2, lb3, lb23, ld9, ld3, ld23, lb27, lb35, lb25, lb33, ld27, ld35, fa27_0, fa27_1, fa27_2, fa27_3, fa35_0, fa35_1, fa35_2, fa25_0, fa25_1, fp35_0, fp35_1, fp27_1, sz27, sz35, sz33, if27, if35, if33, se22, se29, zr27, zr35, set_last, se52]; exact rfl) ?_
          refine ⟨k + 1, ⟨rfl, rfl, rfl, rfl, ?_, by omega, hg⟩, by omega⟩
          simp [wi64s (show k < 9223372036854775807 by omega)]
      · have hkn : ¬ (k : Int) < 29 := by omega
        (repeat (show W _ _ _ _ _ _ _ _; with_reducible apply W_seq)); refine W_ops (by simp [execOps, wantedE, isCall, stepOp, valOp, callOp, calleeE, datumL, datum, opnd, opndL, ofVF, putF, i_geq, i_leq, i_lss, i_gtr, i_eql, i_neq, i_add, i_sub, i_mul, s_eql, s_neq, s_gtr, s_lss, pickSV, noGl, lenE, valOf, ba_size, flat1_not, optE, u9, se9, sz9, ok9, ag9, if9, zr9, lb9, lb2, lb3, lb23, ld9, ld3, ld23, lb27, lb35, lb25, lb33, ld27, ld35, fa27_0, fa27_1, fa27_2, fa27_3, fa35_0, fa35_1, fa35_2, fa25_0, fa25_1, fp35_0, fp35_1, fp27_1, sz27, sz35, sz33, if27, if35, if33, se22, se29, zr27, zr35, set_last, se52, rowsOf, hsl, hkn]; exact rfl) ?_
        show W _ _ _ _ _ _ _ _; (repeat (show W _ _ _ _ _ _ _ _; with_reducible apply W_seq)); refine W_cond (b := false) ?_ ?_ ?_; (focus simp [opnd, hkn]); (focus simp); intro _
        apply W_exit
        simp only [inBlock, if_true, andThen]
        have e : S.drop k = [] := List.drop_eq_nil_of_le (by omega)
        rw [e, List.any_nil] at hg
        (repeat (show W _ _ _ _ _ _ _ _; with_reducible apply W_seq)); refine W_ops (by simp [execOps, wantedE, isCall, stepOp, valOp, callOp, calleeE, datumL, datum, opnd, opndL, ofVF, putF, i_geq, i_leq, i_lss, i_gtr, i_eql, i_neq, i_add, i_sub, i_mul, s_eql, s_neq, s_gtr, s_lss, pickSV, noGl, lenE, valOf, ba_size, flat1_not, optE, u9, se9, sz9, ok9, ag9, if9, zr9, lb9, lb2, lb3, lb23, ld9, ld3, ld23, lb27, lb35, lb25, lb33, ld27, ld35, fa27_0, fa27_1, fa27_2, fa27_3, fa35_0, fa35_1, fa35_2, fa25_0, fa25_1, fp35_0, fp35_1, fp27_1, sz27, sz35, sz33, if27, if35, if33, se22, se29, zr27, zr35, set_last, se52]; exact rfl) ?_
        (repeat (show W _ _ _ _ _ _ _ _; with_reducible apply W_seq)); apply W_ret
        refine ⟨by simp, _, rfl, ?_⟩
        simp [resultE, noGl, snapR, snap, hg]
    · simp
end Go.Vm
