/- Chapter 5: facts of types; signs; tokens that are the same. -/
import Derived.Test.YtglnokfcjnnepaaDoorVmT3
open Go Go.Vm Go.Proofs
namespace Go.Vm
set_option maxRecDepth 100000
set_option linter.unusedSimpArgs false
variable {E : Env} {Z : GTab}
theorem fn8 : Tryd.prog.funcs[8]? = some Tryd.f8 := rfl
theorem fn9 : Tryd.prog.funcs[9]? = some Tryd.f9 := rfl
theorem fn10 : Tryd.prog.funcs[10]? = some Tryd.f10 := rfl
theorem fn11 : Tryd.prog.funcs[11]? = some Tryd.f11 := rfl
theorem fn12 : Tryd.prog.funcs[12]? = some Tryd.f12 := rfl
theorem fn13 : Tryd.prog.funcs[13]? = some Tryd.f13 := rfl
theorem fn14 : Tryd.prog.funcs[14]? = some Tryd.f14 := rfl
theorem fn25 : Tryd.prog.funcs[25]? = some Tryd.f25 := rfl
theorem fn7 : Tryd.prog.funcs[7]? = some Tryd.f7 := rfl
theorem fn15 : Tryd.prog.funcs[15]? = some Tryd.f15 := rfl
-- tokens: 27 the program's, 35 the document's; 25, 33 positions
theorem lb9 (cells : List SV) (off : Nat) : loadB Tryd.prog 9 cells off = cells[off]? := rfl
theorem lb2 (cells : List SV) (off : Nat) : loadB Tryd.prog 2 cells off = cells[off]? := rfl
theorem lb3 (cells : List SV) (off : Nat) : loadB Tryd.prog 3 cells off = cells[off]? := rfl
theorem lb23 (cells : List SV) (off : Nat) : loadB Tryd.prog 23 cells off = cells[off]? := rfl
theorem ld9 (row : List D) (off : Nat) : loadD Tryd.prog 9 row off = row[off]? := rfl
theorem ld3 (row : List D) (off : Nat) : loadD Tryd.prog 3 row off = row[off]? := rfl
theorem ld23 (row : List D) (off : Nat) : loadD Tryd.prog 23 row off = row[off]? := rfl
theorem lb27 (cells : List SV) (off : Nat) : loadB Tryd.prog 27 cells off = match datumL ((cells.drop off).take 5) with | some ds => if ds.length = 5 then some (.d (.agg ds)) else none | none => none := rfl
theorem lb35 (cells : List SV) (off : Nat) : loadB Tryd.prog 35 cells off = match datumL ((cells.drop off).take 5) with | some ds => if ds.length = 5 then some (.d (.agg ds)) else none | none => none := rfl
theorem lb25 (cells : List SV) (off : Nat) : loadB Tryd.prog 25 cells off = match datumL ((cells.drop off).take 2) with | some ds => if ds.length = 2 then some (.d (.agg ds)) else none | none => none := rfl
theorem lb33 (cells : List SV) (off : Nat) : loadB Tryd.prog 33 cells off = match datumL ((cells.drop off).take 2) with | some ds => if ds.length = 2 then some (.d (.agg ds)) else none | none => none := rfl
theorem ld27 (row : List D) (off : Nat) : loadD Tryd.prog 27 row off = if ((row.drop off).take 5).length = 5 then some (.agg ((row.drop off).take 5)) else none := rfl
theorem ld35 (row : List D) (off : Nat) : loadD Tryd.prog 35 row off = if ((row.drop off).take 5).length = 5 then some (.agg ((row.drop off).take 5)) else none := rfl
theorem fa27_0 (id i off : Nat) : fieldAddrE Tryd.prog 27 0 (.ptr id i off) = some (.ptr id i (off + 0)) := rfl
theorem fa27_1 (id i off : Nat) : fieldAddrE Tryd.prog 27 1 (.ptr id i off) = some (.ptr id i (off + 1)) := rfl
theorem fa27_2 (id i off : Nat) : fieldAddrE Tryd.prog 27 2 (.ptr id i off) = some (.ptr id i (off + 2)) := rfl
theorem fa27_3 (id i off : Nat) : fieldAddrE Tryd.prog 27 3 (.ptr id i off) = some (.ptr id i (off + 3)) := rfl
theorem fa35_0 (id i off : Nat) : fieldAddrE Tryd.prog 35 0 (.ptr id i off) = some (.ptr id i (off + 0)) := rfl
theorem fa35_1 (id i off : Nat) : fieldAddrE Tryd.prog 35 1 (.ptr id i off) = some (.ptr id i (off + 1)) := rfl
theorem fa35_2 (id i off : Nat) : fieldAddrE Tryd.prog 35 2 (.ptr id i off) = some (.ptr id i (off + 2)) := rfl
theorem fa25_0 (id i off : Nat) : fieldAddrE Tryd.prog 25 0 (.ptr id i off) = some (.ptr id i (off + 0)) := rfl
theorem fa25_1 (id i off : Nat) : fieldAddrE Tryd.prog 25 1 (.ptr id i off) = some (.ptr id i (off + 1)) := rfl
theorem fp35_0 (r : List (List D)) (i off : Nat) : fieldAddrE Tryd.prog 35 0 (.rp r i off) = some (.rp r i (off + 0)) := rfl
theorem fp35_1 (r : List (List D)) (i off : Nat) : fieldAddrE Tryd.prog 35 1 (.rp r i off) = some (.rp r i (off + 1)) := rfl
theorem fp27_1 (r : List (List D)) (i off : Nat) : fieldAddrE Tryd.prog 27 1 (.rp r i off) = some (.rp r i (off + 1)) := rfl
theorem sz27 : szOf Tryd.prog 27 = 5 := rfl
theorem sz35 : szOf Tryd.prog 35 = 5 := rfl
theorem sz33 : szOf Tryd.prog 33 = 2 := rfl
theorem if27 : (Tryd.prog.info? 27).isSome = true := rfl
theorem if35 : (Tryd.prog.info? 35).isSome = true := rfl
theorem if33 : (Tryd.prog.info? 33).isSome = true := rfl
theorem x27 : ∃ I, Tryd.prog.info? 27 = some I ∧ I.zero.bind zeroCellsE = some [i64 0, .sc (.string ⟨#[]⟩), i64 0, i64 0, i64 0] := ⟨_, rfl, rfl⟩
theorem x35 : ∃ I, Tryd.prog.info? 35 = some I ∧ I.zero.bind zeroCellsE = some [i64 0, .sc (.string ⟨#[]⟩), i64 0, i64 0, i64 0] := ⟨_, rfl, rfl⟩
theorem x33 : ∃ I, Tryd.prog.info? 33 = some I ∧ I.zero.bind zeroCellsE = some [i64 0, i64 0] := ⟨_, rfl, rfl⟩
theorem se22 : sliceElem Tryd.prog 22 = some 27 := rfl
theorem se29 : sliceElem Tryd.prog 29 = some 35 := rfl
theorem zr27 : (zeroRow Tryd.prog 27).isSome = true := rfl
theorem zr35 : (zeroRow Tryd.prog 35).isSome = true := rfl
theorem set_last {α : Type} (l : List α) (a b : α) : (l ++ [a]).set l.length b = l ++ [b] := by simp [List.set_append_right]

abbrev tokD (k : Int) (t : List UInt8) (n ln cl : Int) : D := .agg [i64 k, str t, i64 n, i64 ln, i64 cl]

theorem same_ev (hm : Tryd.prog.follows .mixedOrders = true) (hE : EnvOk Tryd.prog Z E) (k k' n n' a b c d : Int) (t t' : List UInt8) :
    PureC Tryd.prog Z 11 [tokD k t n a b, tokD k' t' n' c d] (tb (k == k' && t == t' && n == n')) := by
  obtain ⟨I27, in27, zc27⟩ := x27
  obtain ⟨I35, in35, zc35⟩ := x35
  obtain ⟨I33, in33, zc33⟩ := x33
  refine pure_of_W hE hm fn11 rfl 1 ?_
  simp only [Tryd.f11, List.map, List.length, List.cons_append, List.nil_append, List.replicate]
  (repeat (show W _ _ _ _ _ _ _ _; with_reducible apply W_seq)); refine W_ops (by simp [execOps, wantedE, isCall, stepOp, valOp, callOp, calleeE, datumL, datum, opnd, opndL, ofVF, putF, i_geq, i_leq, i_lss, i_gtr, i_eql, i_neq, i_add, i_sub, i_mul, s_eql, s_neq, s_gtr, s_lss, pickSV, noGl, lenE, valOf, ba_size, flat1_not, optE, u9, se9, sz9, ok9, ag9, if9, zr9, lb9, lb2, lb3, lb23, ld9, ld3, ld23, lb27, lb35, lb25, lb33, ld27, ld35, fa27_0, fa27_1, fa27_2, fa27_3, fa35_0, fa35_1, fa35_2, fa25_0, fa25_1, fp35_0, fp35_1, fp27_1, sz27, sz35, sz33, if27, if35, if33, se22, se29, zr27, zr35, set_last, se52, in27, in35, in33, zc27, zc35, zc33, cellsS, settle, List.range, List.range.loop]; exact rfl) ?_
  rcases c1 : (k == k') with _ | _ <;> rcases c2 : (t == t') with _ | _ <;> rcases c3 : (n == n') with _ | _ <;>
  · (repeat (show W _ _ _ _ _ _ _ _; with_reducible apply W_seq)); refine W_ops (by simp [execOps, wantedE, isCall, stepOp, valOp, callOp, calleeE, datumL, datum, opnd, opndL, ofVF, putF, i_geq, i_leq, i_lss, i_gtr, i_eql, i_neq, i_add, i_sub, i_mul, s_eql, s_neq, s_gtr, s_lss, pickSV, noGl, lenE, valOf, ba_size, flat1_not, optE, u9, se9, sz9, ok9, ag9, if9, zr9, lb9, lb2, lb3, lb23, ld9, ld3, ld23, lb27, lb35, lb25, lb33, ld27, ld35, fa27_0, fa27_1, fa27_2, fa27_3, fa35_0, fa35_1, fa35_2, fa25_0, fa25_1, fp35_0, fp35_1, fp27_1, sz27, sz35, sz33, if27, if35, if33, se22, se29, zr27, zr35, set_last, se52, c1, c2, c3]; exact rfl) ?_
    (repeat (show W _ _ _ _ _ _ _ _; with_reducible apply W_seq)); apply W_ret
    refine ⟨by simp, _, rfl, ?_⟩
    simp [resultE, noGl, snapR, snap]
theorem rsame_ev (hm : Tryd.prog.follows .mixedOrders = true) (hE : EnvOk Tryd.prog Z E) (k k' n n' a b c d : Int) (t t' : List UInt8) :
    PureC Tryd.prog Z 12 [tokD k t n a b, tokD k' t' n' c d] (tb (k == k' && t == t' && n == n')) := by
  obtain ⟨I27, in27, zc27⟩ := x27
  obtain ⟨I35, in35, zc35⟩ := x35
  obtain ⟨I33, in33, zc33⟩ := x33
  refine pure_of_W hE hm fn12 rfl 1 ?_
  simp only [Tryd.f12, List.map, List.length, List.cons_append, List.nil_append, List.replicate]
  (repeat (show W _ _ _ _ _ _ _ _; with_reducible apply W_seq)); refine W_ops (by simp [execOps, wantedE, isCall, stepOp, valOp, callOp, calleeE, datumL, datum, opnd, opndL, ofVF, putF, i_geq, i_leq, i_lss, i_gtr, i_eql, i_neq, i_add, i_sub, i_mul, s_eql, s_neq, s_gtr, s_lss, pickSV, noGl, lenE, valOf, ba_size, flat1_not, optE, u9, se9, sz9, ok9, ag9, if9, zr9, lb9, lb2, lb3, lb23, ld9, ld3, ld23, lb27, lb35, lb25, lb33, ld27, ld35, fa27_0, fa27_1, fa27_2, fa27_3, fa35_0, fa35_1, fa35_2, fa25_0, fa25_1, fp35_0, fp35_1, fp27_1, sz27, sz35, sz33, if27, if35, if33, se22, se29, zr27, zr35, set_last, se52, in27, in35, in33, zc27, zc35, zc33, cellsS, settle, List.range, List.range.loop]; exact rfl) ?_
  rcases c1 : (k == k') with _ | _ <;> rcases c2 : (t == t') with _ | _ <;> rcases c3 : (n == n') with _ | _ <;>
  · (repeat (show W _ _ _ _ _ _ _ _; with_reducible apply W_seq)); refine W_ops (by simp [execOps, wantedE, isCall, stepOp, valOp, callOp, calleeE, datumL, datum, opnd, opndL, ofVF, putF, i_geq, i_leq, i_lss, i_gtr, i_eql, i_neq, i_add, i_sub, i_mul, s_eql, s_neq, s_gtr, s_lss, pickSV, noGl, lenE, valOf, ba_size, flat1_not, optE, u9, se9, sz9, ok9, ag9, if9, zr9, lb9, lb2, lb3, lb23, ld9, ld3, ld23, lb27, lb35, lb25, lb33, ld27, ld35, fa27_0, fa27_1, fa27_2, fa27_3, fa35_0, fa35_1, fa35_2, fa25_0, fa25_1, fp35_0, fp35_1, fp27_1, sz27, sz35, sz33, if27, if35, if33, se22, se29, zr27, zr35, set_last, se52, c1, c2, c3]; exact rfl) ?_
    (repeat (show W _ _ _ _ _ _ _ _; with_reducible apply W_seq)); apply W_ret
    refine ⟨by simp, _, rfl, ?_⟩
    simp [resultE, noGl, snapR, snap]
theorem at_ev (hm : Tryd.prog.follows .mixedOrders = true) (hE : EnvOk Tryd.prog Z E) (a b : Int) : PureC Tryd.prog Z 25 [.agg [i64 a, i64 b]] (.agg [i64 a, i64 b]) := by
  obtain ⟨I27, in27, zc27⟩ := x27
  obtain ⟨I35, in35, zc35⟩ := x35
  obtain ⟨I33, in33, zc33⟩ := x33
  refine pure_of_W hE hm fn25 rfl 1 ?_
  simp only [Tryd.f25, List.map, List.length, List.cons_append, List.nil_append, List.replicate]
  (repeat (show W _ _ _ _ _ _ _ _; with_reducible apply W_seq)); refine W_ops (by simp [execOps, wantedE, isCall, stepOp, valOp, callOp, calleeE, datumL, datum, opnd, opndL, ofVF, putF, i_geq, i_leq, i_lss, i_gtr, i_eql, i_neq, i_add, i_sub, i_mul, s_eql, s_neq, s_gtr, s_lss, pickSV, noGl, lenE, valOf, ba_size, flat1_not, optE, u9, se9, sz9, ok9, ag9, if9, zr9, lb9, lb2, lb3, lb23, ld9, ld3, ld23, lb27, lb35, lb25, lb33, ld27, ld35, fa27_0, fa27_1, fa27_2, fa27_3, fa35_0, fa35_1, fa35_2, fa25_0, fa25_1, fp35_0, fp35_1, fp27_1, sz27, sz35, sz33, if27, if35, if33, se22, se29, zr27, zr35, set_last, se52, in27, in35, in33, zc27, zc35, zc33, cellsS, settle, List.range, List.range.loop]; exact rfl) ?_
  (repeat (show W _ _ _ _ _ _ _ _; with_reducible apply W_seq)); refine W_ops (by simp [execOps, wantedE, isCall, stepOp, valOp, callOp, calleeE, datumL, datum, opnd, opndL, ofVF, putF, i_geq, i_leq, i_lss, i_gtr, i_eql, i_neq, i_add, i_sub, i_mul, s_eql, s_neq, s_gtr, s_lss, pickSV, noGl, lenE, valOf, ba_size, flat1_not, optE, u9, se9, sz9, ok9, ag9, if9, zr9, lb9, lb2, lb3, lb23, ld9, ld3, ld23, lb27, lb35, lb25, lb33, ld27, ld35, fa27_0, fa27_1, fa27_2, fa27_3, fa35_0, fa35_1, fa35_2, fa25_0, fa25_1, fp35_0, fp35_1, fp27_1, sz27, sz35, sz33, if27, if35, if33, se22, se29, zr27, zr35, set_last, se52, in27, in35, in33, zc27, zc35, zc33, cellsS, settle, List.range, List.range.loop, partsE, buildE, overS]; exact rfl) ?_
  (repeat (show W _ _ _ _ _ _ _ _; with_reducible apply W_seq)); apply W_ret
  refine ⟨by simp, _, rfl, ?_⟩
  simp [resultE, noGl, snapR, snap]
end Go.Vm
