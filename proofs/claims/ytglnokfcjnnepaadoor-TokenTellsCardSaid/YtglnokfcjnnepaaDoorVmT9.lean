/- Chapter 5: lists of tokens. -/
import Derived.Test.YtglnokfcjnnepaaDoorVmT8
open Go Go.Vm Go.Proofs
namespace Go.Vm
set_option maxRecDepth 100000
set_option linter.unusedSimpArgs false
variable {E : Env} {Z : GTab}

structure Tok where
  k : Int
  t : List UInt8
  n : Int
  a : Int
  b : Int
abbrev Tok.row (x : Tok) : List D := [i64 x.k, str x.t, i64 x.n, i64 x.a, i64 x.b]
theorem row_get {L : List Tok} {k : Nat} (h : k < L.length) : (L.map Tok.row)[k]? = some (L[k]).row := by
  rw [List.getElem?_map, List.getElem?_eq_getElem h]; rfl

theorem ap35 (n : Nat) : appendOk Tryd.prog 35 n = decide (n * 48 ≤ 140737488355328) := rfl
theorem ap9 (n : Nat) : appendOk Tryd.prog 9 n = decide (n * 16 ≤ 140737488355328) := rfl
/-- The rows of tokens: what is nil is the empty list as well. -/
def toksD (L : List Tok) : D := .sl (L.map Tok.row)

set_option maxHeartbeats 1000000 in
theorem refs_ev (hm : Tryd.prog.follows .mixedOrders = true) (hE : EnvOk Tryd.prog Z E) (L : List Tok) (hl : L.length < 1000000)
    (k10 : ∀ k t n a b, E.D 10 [tokD k t n a b] = some (tokD k t n a b)) : PureC Tryd.prog Z 7 [toksD L] (toksD L) := by
  refine pure_of_W hE hm fn7 rfl (L.length + 1) ?_
  simp only [Tryd.f7, List.map, List.length, List.cons_append, List.nil_append, List.replicate]
  (repeat (show W _ _ _ _ _ _ _ _; with_reducible apply W_seq)); refine W_ops (by simp [execOps, wantedE, isCall, stepOp, valOp, callOp, calleeE, datumL, datum, opnd, opndL, ofVF, putF, i_geq, i_leq, i_lss, i_gtr, i_eql, i_neq, i_add, i_sub, i_mul, s_eql, s_neq, s_gtr, s_lss, pickSV, noGl, lenE, valOf, ba_size, flat1_not, optE, u9, se9, sz9, ok9, ag9, if9, zr9, lb9, lb2, lb3, lb23, ld9, ld3, ld23, lb27, lb35, lb25, lb33, ld27, ld35, fa27_0, fa27_1, fa27_2, fa27_3, fa35_0, fa35_1, fa35_2, fa25_0, fa25_1, fp35_0, fp35_1, fp27_1, sz27, sz35, sz33, if27, if35, if33, se22, se29, zr27, zr35, set_last, se52, demoteL, demote]; exact rfl) ?_
  (repeat (show W _ _ _ _ _ _ _ _; with_reducible apply W_seq)); refine W_ops (by simp [execOps, wantedE, isCall, stepOp, valOp, callOp, calleeE, datumL, datum, opnd, opndL, ofVF, putF, i_geq, i_leq, i_lss, i_gtr, i_eql, i_neq, i_add, i_sub, i_mul, s_eql, s_neq, s_gtr, s_lss, pickSV, noGl, lenE, valOf, ba_size, flat1_not, optE, u9, se9, sz9, ok9, ag9, if9, zr9, lb9, lb2, lb3, lb23, ld9, ld3, ld23, lb27, lb35, lb25, lb33, ld27, ld35, fa27_0, fa27_1, fa27_2, fa27_3, fa35_0, fa35_1, fa35_2, fa25_0, fa25_1, fp35_0, fp35_1, fp27_1, sz27, sz35, sz33, if27, if35, if33, se22, se29, zr27, zr35, set_last, se52, demoteL, demote]; exact rfl) ?_
  (repeat (show W _ _ _ _ _ _ _ _; with_reducible apply W_seq)); refine W_ops (by simp [execOps, wantedE, isCall, stepOp, valOp, callOp, calleeE, datumL, datum, opnd, opndL, ofVF, putF, i_geq, i_leq, i_lss, i_gtr, i_eql, i_neq, i_add, i_sub, i_mul, s_eql, s_neq, s_gtr, s_lss, pickSV, noGl, lenE, valOf, ba_size, flat1_not, optE, u9, se9, sz9, ok9, ag9, if9, zr9, lb9, lb2, lb3, lb23, ld9, ld3, ld23, lb27, lb35, lb25, lb33, ld27, ld35, fa27_0, fa27_1, fa27_2, fa27_3, fa35_0, fa35_1, fa35_2, fa25_0, fa25_1, fp35_0, fp35_1, fp27_1, sz27, sz35, sz33, if27, if35, if33, se22, se29, zr27, zr35, set_last, se52]; exact rfl) ?_
  (repeat (show W _ _ _ _ _ _ _ _; with_reducible apply W_seq)); apply W_block
  apply W_loop (α := Nat) (fun k fr σ => σ = [] ∧ fr.length = 20 ∧ fr.getD 0 (.d (.tup [])) = .d (toksD L) ∧ fr.getD 3 (.d (.tup [])) = .gl 3 35 ((L.take k).map Tok.row) ∧ fr.getD 4 (.d (.tup [])) = .d (i64 k) ∧ k ≤ L.length) (fun k => L.length - k) (a := 0)
  · exact ⟨rfl, rfl, rfl, rfl, rfl, by omega⟩
  · rintro k fr σ ⟨rfl, hlen, h0, h3, h4, hk⟩
    rw [fr_explicit fr 20 hlen]
    simp only [List.range, List.range.loop, List.map, h0, h3, h4]
    by_cases hlt : k < L.length
    · have hr := row_get hlt
      have ht : (L.take (k + 1)).map Tok.row = (L.take k).map Tok.row ++ [(L[k]).row] := by rw [List.take_add_one, List.getElem?_eq_getElem hlt, List.map_append]; rfl
      generalize hx : L[k] = x at *
      generalize hR : (L.take k).map Tok.row = R at *
      have hRl : R.length = k := by rw [← hR]; simp; omega
      have hkn : (k : Int) < (L.length : Int) := by omega
      (repeat (show W _ _ _ _ _ _ _ _; with_reducible apply W_seq)); refine W_ops (by simp [execOps, wantedE, isCall, stepOp, valOp, callOp, calleeE, datumL, datum, opnd, opndL, ofVF, putF, i_geq, i_leq, i_lss, i_gtr, i_eql, i_neq, i_add, i_sub, i_mul, s_eql, s_neq, s_gtr, s_lss, pickSV, noGl, lenE, valOf, ba_size, flat1_not, optE, u9, se9, sz9, ok9, ag9, if9, zr9, lb9, lb2, lb3, lb23, ld9, ld3, ld23, lb27, lb35, lb25, lb33, ld27, ld35, fa27_0, fa27_1, fa27_2, fa27_3, fa35_0, fa35_1, fa35_2, fa25_0, fa25_1, fp35_0, fp35_1, fp27_1, sz27, sz35, sz33, if27, if35, if33, se22, se29, zr27, zr35, set_last, se52, rowsOf, hlt]; exact rfl) ?_
      show W _ _ _ _ _ _ _ _; (repeat (show W _ _ _ _ _ _ _ _; with_reducible apply W_seq)); refine W_cond (b := true) ?_ ?_ ?_; (focus simp [opnd, hlt]); rotate_left; (focus simp); intro _
      (repeat (show W _ _ _ _ _ _ _ _; with_reducible apply W_seq)); apply W_skip
      (repeat (show W _ _ _ _ _ _ _ _; with_reducible apply W_seq)); apply W_block
      have ha : (k + 1) * 48 ≤ 140737488355328 := by omega
      (repeat (show W _ _ _ _ _ _ _ _; with_reducible apply W_seq)); refine W_ops (by simp [execOps, wantedE, isCall, stepOp, valOp, callOp, calleeE, datumL, datum, opnd, opndL, ofVF, putF, i_geq, i_leq, i_lss, i_gtr, i_eql, i_neq, i_add, i_sub, i_mul, s_eql, s_neq, s_gtr, s_lss, pickSV, noGl, lenE, valOf, ba_size, flat1_not, optE, u9, se9, sz9, ok9, ag9, if9, zr9, lb9, lb2, lb3, lb23, ld9, ld3, ld23, lb27, lb35, lb25, lb33, ld27, ld35, fa27_0, fa27_1, fa27_2, fa27_3, fa35_0, fa35_1, fa35_2, fa25_0, fa25_1, fp35_0, fp35_1, fp27_1, sz27, sz35, sz33, if27, if35, if33, se22, se29, zr27, zr35, set_last, se52, toksD, Tok.row, rowsOf, indexAddrE, asI, hr, k10, fn10, Tryd.f10, rowsLit, cellsD, demoteL, demote, srcRows, ap35, hRl, ha]; exact rfl) ?_
      (repeat (show W _ _ _ _ _ _ _ _; with_reducible apply W_seq)); refine W_ops (by simp [execOps, wantedE, isCall, stepOp, valOp, callOp, calleeE, datumL, datum, opnd, opndL, ofVF, putF, i_geq, i_leq, i_lss, i_gtr, i_eql, i_neq, i_add, i_sub, i_mul, s_eql, s_neq, s_gtr, s_lss, pickSV, noGl, lenE, valOf, ba_size, flat1_not, optE, u9, se9, sz9, ok9, ag9, if9, zr9, lb9, lb2, lb3, lb23, ld9, ld3, ld23, lb27, lb35, lb25, lb33, ld27, ld35, fa27_0, fa27_1, fa27_2, fa27_3, fa35_0, fa35_1, fa35_2, fa25_0, fa25_1, fp35_0, fp35_1, fp27_1, sz27, sz35, sz33, if27, if35, if33, se22, se29, zr27, zr35, set_last, se52]; exact rfl) ?_
      refine ⟨k + 1, ⟨rfl, rfl, rfl, ?_, ?_, hlt⟩, by omega⟩
      · rw [ht]; rfl
      · simp [wi64s (show k < 9223372036854775807 by omega)]
    · (repeat (show W _ _ _ _ _ _ _ _; with_reducible apply W_seq)); refine W_ops (by simp [execOps, wantedE, isCall, stepOp, valOp, callOp, calleeE, datumL, datum, opnd, opndL, ofVF, putF, i_geq, i_leq, i_lss, i_gtr, i_eql, i_neq, i_add, i_sub, i_mul, s_eql, s_neq, s_gtr, s_lss, pickSV, noGl, lenE, valOf, ba_size, flat1_not, optE, u9, se9, sz9, ok9, ag9, if9, zr9, lb9, lb2, lb3, lb23, ld9, ld3, ld23, lb27, lb35, lb25, lb33, ld27, ld35, fa27_0, fa27_1, fa27_2, fa27_3, fa35_0, fa35_1, fa35_2, fa25_0, fa25_1, fp35_0, fp35_1, fp27_1, sz27, sz35, sz33, if27, if35, if33, se22, se29, zr27, zr35, set_last, se52, rowsOf, hlt]; exact rfl) ?_
      show W _ _ _ _ _ _ _ _; (repeat (show W _ _ _ _ _ _ _ _; with_reducible apply W_seq)); refine W_cond (b := false) ?_ ?_ ?_; (focus simp [opnd, hlt]); (focus simp); intro _
      apply W_exit
      simp only [inBlock, if_true, andThen]
      have e : (L.map Tok.row).take k = L.map Tok.row := List.take_of_length_le (by simp; omega)
      simp only [e]
      (repeat (show W _ _ _ _ _ _ _ _; with_reducible apply W_seq)); refine W_ops (by simp [execOps, wantedE, isCall, stepOp, valOp, callOp, calleeE, datumL, datum, opnd, opndL, ofVF, putF, i_geq, i_leq, i_lss, i_gtr, i_eql, i_neq, i_add, i_sub, i_mul, s_eql, s_neq, s_gtr, s_lss, pickSV, noGl, lenE, valOf, ba_size, flat1_not, optE, u9, se9, sz9, ok9, ag9, if9, zr9, lb9, lb2, lb3, lb23, ld9, ld3, ld23, lb27, lb35, lb25, lb33, ld27, ld35, fa27_0, fa27_1, fa27_2, fa27_3, fa35_0, fa35_1, fa35_2, fa25_0, fa25_1, fp35_0, fp35_1, fp27_1, sz27, sz35, sz33, if27, if35, if33, se22, se29, zr27, zr35, set_last, se52]; exact rfl) ?_
      (repeat (show W _ _ _ _ _ _ _ _; with_reducible apply W_seq)); apply W_ret
      refine ⟨by simp, _, rfl, ?_⟩
      simp [resultE, noGl, snapR, snap, toksD]
  · simp

def sameToks : List Tok → List Tok → Bool
  | [], [] => true
  | x :: xs, y :: ys => (x.k == y.k && x.t == y.t && x.n == y.n && x.a == y.a && x.b == y.b) && sameToks xs ys
  | _, _ => false

/-- The text of tokens. -/
def joinGo (some : Bool) : List Tok → List UInt8
  | [] => []
  | x :: xs => if x.k = 3 then joinGo some xs else (if some then [32] else []) ++ x.t ++ joinGo true xs
def joinLen : List Tok → Nat
  | [] => 0
  | x :: xs => x.t.length + 1 + joinLen xs
theorem joinGo_le (s : Bool) : ∀ L, (joinGo s L).length ≤ joinLen L
  | [] => by simp [joinGo]
  | x :: xs => by
    simp only [joinGo, joinLen]
    split
    · have := joinGo_le s xs; omega
    · have := joinGo_le true xs
      simp only [List.length_append]
      split <;> simp <;> omega

set_option maxHeartbeats 1000000 in
theorem rjoin_ev (hm : Tryd.prog.follows .mixedOrders = true) (hE : EnvOk Tryd.prog Z E) (L : List Tok) (hl : L.length < 1000000) (hj : joinLen L < 1000000000) : PureC Tryd.prog Z 14 [toksD L] (str (joinGo false L)) := by
  refine pure_of_W hE hm fn14 rfl (L.length + 1) ?_
  simp only [Tryd.f14, List.map, List.length, List.cons_append, List.nil_append, List.replicate]
  (repeat (show W _ _ _ _ _ _ _ _; with_reducible apply W_seq)); refine W_ops (by simp [execOps, wantedE, isCall, stepOp, valOp, callOp, calleeE, datumL, datum, opnd, opndL, ofVF, putF, i_geq, i_leq, i_lss, i_gtr, i_eql, i_neq, i_add, i_sub, i_mul, s_eql, s_neq, s_gtr, s_lss, pickSV, noGl, lenE, valOf, ba_size, flat1_not, optE, u9, se9, sz9, ok9, ag9, if9, zr9, lb9, lb2, lb3, lb23, ld9, ld3, ld23, lb27, lb35, lb25, lb33, ld27, ld35, fa27_0, fa27_1, fa27_2, fa27_3, fa35_0, fa35_1, fa35_2, fa25_0, fa25_1, fp35_0, fp35_1, fp27_1, sz27, sz35, sz33, if27, if35, if33, se22, se29, zr27, zr35, set_last, se52]; exact rfl) ?_
  (repeat (show W _ _ _ _ _ _ _ _; with_reducible apply W_seq)); refine W_ops (by simp [execOps, wantedE, isCall, stepOp, valOp, callOp, calleeE, datumL, datum, opnd, opndL, ofVF, putF, i_geq, i_leq, i_lss, i_gtr, i_eql, i_neq, i_add, i_sub, i_mul, s_eql, s_neq, s_gtr, s_lss, pickSV, noGl, lenE, valOf, ba_size, flat1_not, optE, u9, se9, sz9, ok9, ag9, if9, zr9, lb9, lb2, lb3, lb23, ld9, ld3, ld23, lb27, lb35, lb25, lb33, ld27, ld35, fa27_0, fa27_1, fa27_2, fa27_3, fa35_0, fa35_1, fa35_2, fa25_0, fa25_1, fp35_0, fp35_1, fp27_1, sz27, sz35, sz33, if27, if35, if33, se22, se29, zr27, zr35, set_last, se52]; exact rfl) ?_
  (repeat (show W _ _ _ _ _ _ _ _; with_reducible apply W_seq)); refine W_ops (by simp [execOps, wantedE, isCall, stepOp, valOp, callOp, calleeE, datumL, datum, opnd, opndL, ofVF, putF, i_geq, i_leq, i_lss, i_gtr, i_eql, i_neq, i_add, i_sub, i_mul, s_eql, s_neq, s_gtr, s_lss, pickSV, noGl, lenE, valOf, ba_size, flat1_not, optE, u9, se9, sz9, ok9, ag9, if9, zr9, lb9, lb2, lb3, lb23, ld9, ld3, ld23, lb27, lb35, lb25, lb33, ld27, ld35, fa27_0, fa27_1, fa27_2, fa27_3, fa35_0, fa35_1, fa35_2, fa25_0, fa25_1, fp35_0, fp35_1, fp27_1, sz27, sz35, sz33, if27, if35, if33, se22, se29, zr27, zr35, set_last, se52]; exact rfl) ?_
  (repeat (show W _ _ _ _ _ _ _ _; with_reducible apply W_seq)); refine W_ops (by simp [execOps, wantedE, isCall, stepOp, valOp, callOp, calleeE, datumL, datum, opnd, opndL, ofVF, putF, i_geq, i_leq, i_lss, i_gtr, i_eql, i_neq, i_add, i_sub, i_mul, s_eql, s_neq, s_gtr, s_lss, pickSV, noGl, lenE, valOf, ba_size, flat1_not, optE, u9, se9, sz9, ok9, ag9, if9, zr9, lb9, lb2, lb3, lb23, ld9, ld3, ld23, lb27, lb35, lb25, lb33, ld27, ld35, fa27_0, fa27_1, fa27_2, fa27_3, fa35_0, fa35_1, fa35_2, fa25_0, fa25_1, fp35_0, fp35_1, fp27_1, sz27, sz35, sz33, if27, if35, if33, se22, se29, zr27, zr35, set_last, se52]; exact rfl) ?_
  (repeat (show W _ _ _ _ _ _ _ _; with_reducible apply W_seq)); apply W_block
  apply W_loop (α := Nat) (fun k fr σ => σ = [] ∧ fr.length = 29 ∧ fr.getD 0 (.d (.tup [])) = .d (toksD L) ∧ fr.getD 5 (.d (.tup [])) = .d (i64 k) ∧ k ≤ L.length ∧
    ∃ s b, fr.getD 3 (.d (.tup [])) = .d (str s) ∧ fr.getD 4 (.d (.tup [])) = .d (tb b) ∧ joinGo false L = s ++ joinGo b (L.drop k) ∧ s.length + joinLen (L.drop k) ≤ joinLen L) (fun k => L.length - k) (a := 0)
  · exact ⟨rfl, rfl, rfl, rfl, by omega, [], false, rfl, rfl, rfl, by simp⟩
  · rintro k fr σ ⟨rfl, hlen, h0, h5, hk, s, b, h3, h4, hg, hs⟩
    rw [fr_explicit fr 29 hlen]
    simp only [List.range, List.range.loop, List.map, h0, h3, h4, h5]
    by_cases hlt : k < L.length
    · have hr := row_get hlt
      have hdr : L.drop k = L[k] :: L.drop (k + 1) := List.drop_eq_getElem_cons hlt
      rw [hdr] at hg hs
      generalize hx : L[k] = x at *
      simp only [joinGo, joinLen] at hg hs
      (repeat (show W _ _ _ _ _ _ _ _; with_reducible apply W_seq)); refine W_ops (by simp [execOps, wantedE, isCall, stepOp, valOp, callOp, calleeE, datumL, datum, opnd, opndL, ofVF, putF, i_geq, i_leq, i_lss, i_gtr, i_eql, i_neq, i_add, i_sub, i_mul, s_eql, s_neq, s_gtr, s_lss, pickSV, noGl, lenE, valOf, ba_size, flat1_not, optE, u9, se9, sz9, ok9, ag9, if9, zr9, lb9, lb2, lb3, lb23, ld9, ld3, ld23, lb27, lb35, lb25, lb33, ld27, ld35, fa27_0, fa27_1, fa27_2, fa27_3, fa35_0, fa35_1, fa35_2, fa25_0, fa25_1, fp35_0, fp35_1, fp27_1, sz27, sz35, sz33, if27, if35, if33, se22, se29, zr27, zr35, set_last, se52, rowsOf, hlt]; exact rfl) ?_
      show W _ _ _ _ _ _ _ _; (repeat (show W _ _ _ _ _ _ _ _; with_reducible apply W_seq)); refine W_cond (b := true) ?_ ?_ ?_; (focus simp [opnd, hlt]); rotate_left; (focus simp); intro _
      (repeat (show W _ _ _ _ _ _ _ _; with_reducible apply W_seq)); apply W_skip
      (repeat (show W _ _ _ _ _ _ _ _; with_reducible apply W_seq)); apply W_block
      (repeat (show W _ _ _ _ _ _ _ _; with_reducible apply W_seq)); refine W_ops (by simp [execOps, wantedE, isCall, stepOp, valOp, callOp, calleeE, datumL, datum, opnd, opndL, ofVF, putF, i_geq, i_leq, i_lss, i_gtr, i_eql, i_neq, i_add, i_sub, i_mul, s_eql, s_neq, s_gtr, s_lss, pickSV, noGl, lenE, valOf, ba_size, flat1_not, optE, u9, se9, sz9, ok9, ag9, if9, zr9, lb9, lb2, lb3, lb23, ld9, ld3, ld23, lb27, lb35, lb25, lb33, ld27, ld35, fa27_0, fa27_1, fa27_2, fa27_3, fa35_0, fa35_1, fa35_2, fa25_0, fa25_1, fp35_0, fp35_1, fp27_1, sz27, sz35, sz33, if27, if35, if33, se22, se29, zr27, zr35, set_last, se52, toksD, Tok.row, rowsOf, indexAddrE, asI, hr]; exact rfl) ?_
      by_cases h3k : x.k = 3
      · show W _ _ _ _ _ _ _ _; (repeat (show W _ _ _ _ _ _ _ _; with_reducible apply W_seq)); refine W_cond (b := true) ?_ ?_ ?_; (focus simp [opnd, h3k]); rotate_left; (focus simp); intro _
        apply W_exit
        rw [if_pos h3k] at hg
        simp only [inBlock, if_true, andThen]
        (repeat (show W _ _ _ _ _ _ _ _; with_reducible apply W_seq)); refine W_ops (by simp [execOps, wantedE, isCall, stepOp, valOp, callOp, calleeE, datumL, datum, opnd, opndL, ofVF, putF, i_geq, i_leq, i_lss, i_gtr, i_eql, i_neq, i_add, i_sub, i_mul, s_eql, s_neq, s_gtr, s_lss, pickSV, noGl, lenE, valOf, ba_size, flat1_not, optE, u9, se9, sz9, ok9, ag9, if9, zr9, lb9, lb2, lb3, lb23, ld9, ld3, ld23, lb27, lb35, lb25, lb33, ld27, ld35, fa27_0, fa27_1, fa27_2, fa27_3, fa35_0, fa35_1, fa35_2, fa25_0, fa25_1, fp35_0, fp35_1, fp27_1, sz27, sz35, sz33, if27, if35, if33, se22, se29, zr27, zr35, set_last, se52]; exact rfl) ?_
        refine ⟨k + 1, ⟨rfl, rfl, rfl, ?_, hlt, s, b, rfl, rfl, hg, by omega⟩, by omega⟩
        simp [wi64s (show k < 9223372036854775807 by omega)]
      · have h3k' : (x.k == 3) = false := by simpa using h3k
        show W _ _ _ _ _ _ _ _; (repeat (show W _ _ _ _ _ _ _ _; with_reducible apply W_seq)); refine W_cond (b := false) ?_ ?_ ?_; (focus simp [opnd, h3k, h3k']); (focus simp); intro _
        rw [if_neg h3k] at hg
        (repeat (show W _ _ _ _ _ _ _ _; with_reducible apply W_seq)); apply W_skip
        (repeat (show W _ _ _ _ _ _ _ _; with_reducible apply W_seq)); refine W_ops (by simp [execOps, wantedE, isCall, stepOp, valOp, callOp, calleeE, datumL, datum, opnd, opndL, ofVF, putF, i_geq, i_leq, i_lss, i_gtr, i_eql, i_neq, i_add, i_sub, i_mul, s_eql, s_neq, s_gtr, s_lss, pickSV, noGl, lenE, valOf, ba_size, flat1_not, optE, u9, se9, sz9, ok9, ag9, if9, zr9, lb9, lb2, lb3, lb23, ld9, ld3, ld23, lb27, lb35, lb25, lb33, ld27, ld35, fa27_0, fa27_1, fa27_2, fa27_3, fa35_0, fa35_1, fa35_2, fa25_0, fa25_1, fp35_0, fp35_1, fp27_1, sz27, sz35, sz33, if27, if35, if33, se22, se29, zr27, zr35, set_last, se52]; exact rfl) ?_
        have e0 : (⟨#[32]⟩ : ByteArray) = ⟨⟨[32]⟩⟩ := rfl
        show W _ _ _ _ _ _ _ _; (repeat (show W _ _ _ _ _ _ _ _; with_reducible apply W_seq)); refine W_cond (b := b) ?_ ?_ ?_; (focus simp [opnd])
        · intro hb
          rw [hb] at hg
          (repeat (show W _ _ _ _ _ _ _ _; with_reducible apply W_seq)); refine W_ops (by simp [execOps, wantedE, isCall, stepOp, valOp, callOp, calleeE, datumL, datum, opnd, opndL, ofVF, putF, i_geq, i_leq, i_lss, i_gtr, i_eql, i_neq, i_add, i_sub, i_mul, s_eql, s_neq, s_gtr, s_lss, pickSV, noGl, lenE, valOf, ba_size, flat1_not, optE, u9, se9, sz9, ok9, ag9, if9, zr9, lb9, lb2, lb3, lb23, ld9, ld3, ld23, lb27, lb35, lb25, lb33, ld27, ld35, fa27_0, fa27_1, fa27_2, fa27_3, fa35_0, fa35_1, fa35_2, fa25_0, fa25_1, fp35_0, fp35_1, fp27_1, sz27, sz35, sz33, if27, if35, if33, se22, se29, zr27, zr35, set_last, se52, e0, s_add, show s.length + 1 < 9223372036854775808 by omega]; exact rfl) ?_
          (repeat (show W _ _ _ _ _ _ _ _; with_reducible apply W_seq)); refine W_ops (by simp [execOps, wantedE, isCall, stepOp, valOp, callOp, calleeE, datumL, datum, opnd, opndL, ofVF, putF, i_geq, i_leq, i_lss, i_gtr, i_eql, i_neq, i_add, i_sub, i_mul, s_eql, s_neq, s_gtr, s_lss, pickSV, noGl, lenE, valOf, ba_size, flat1_not, optE, u9, se9, sz9, ok9, ag9, if9, zr9, lb9, lb2, lb3, lb23, ld9, ld3, ld23, lb27, lb35, lb25, lb33, ld27, ld35, fa27_0, fa27_1, fa27_2, fa27_3, fa35_0, fa35_1, fa35_2, fa25_0, fa25_1, fp35_0, fp35_1, fp27_1, sz27, sz35, sz33, if27, if35, if33, se22, se29, zr27, zr35, set_last, se52, toksD, Tok.row, rowsOf, indexAddrE, asI, hr, s_add, show s.length + 1 + x.t.length < 9223372036854775808 by omega]; exact rfl) ?_
          (repeat (show W _ _ _ _ _ _ _ _; with_reducible apply W_seq)); refine W_ops (by simp [execOps, wantedE, isCall, stepOp, valOp, callOp, calleeE, datumL, datum, opnd, opndL, ofVF, putF, i_geq, i_leq, i_lss, i_gtr, i_eql, i_neq, i_add, i_sub, i_mul, s_eql, s_neq, s_gtr, s_lss, pickSV, noGl, lenE, valOf, ba_size, flat1_not, optE, u9, se9, sz9, ok9, ag9, if9, zr9, lb9, lb2, lb3, lb23, ld9, ld3, ld23, lb27, lb35, lb25, lb33, ld27, ld35, fa27_0, fa27_1, fa27_2, fa27_3, fa35_0, fa35_1, fa35_2, fa25_0, fa25_1, fp35_0, fp35_1, fp27_1, sz27, sz35, sz33, if27, if35, if33, se22, se29, zr27, zr35, set_last, se52]; exact rfl) ?_
          (repeat (show W _ _ _ _ _ _ _ _; with_reducible apply W_seq)); refine W_ops (by simp [execOps, wantedE, isCall, stepOp, valOp, callOp, calleeE, datumL, datum, opnd, opndL, ofVF, putF, i_geq, i_leq, i_lss, i_gtr, i_eql, i_neq, i_add, i_sub, i_mul, s_eql, s_neq, s_gtr, s_lss, pickSV, noGl, lenE, valOf, ba_size, flat1_not, optE, u9, se9, sz9, ok9, ag9, if9, zr9, lb9, lb2, lb3, lb23, ld9, ld3, ld23, lb27, lb35, lb25, lb33, ld27, ld35, fa27_0, fa27_1, fa27_2, fa27_3, fa35_0, fa35_1, fa35_2, fa25_0, fa25_1, fp35_0, fp35_1, fp27_1, sz27, sz35, sz33, if27, if35, if33, se22, se29, zr27, zr35, set_last, se52]; exact rfl) ?_
          refine ⟨k + 1, ⟨rfl, rfl, rfl, ?_, hlt, s ++ [32] ++ x.t, true, ?_, rfl, ?_, ?_⟩, by omega⟩
          · simp [wi64s (show k < 9223372036854775807 by omega)]
          · simp
          · rw [hg]; simp
          · simp; omega
        · intro hb
          rw [hb] at hg
          (repeat (show W _ _ _ _ _ _ _ _; with_reducible apply W_seq)); apply W_skip
          (repeat (show W _ _ _ _ _ _ _ _; with_reducible apply W_seq)); refine W_ops (by simp [execOps, wantedE, isCall, stepOp, valOp, callOp, calleeE, datumL, datum, opnd, opndL, ofVF, putF, i_geq, i_leq, i_lss, i_gtr, i_eql, i_neq, i_add, i_sub, i_mul, s_eql, s_neq, s_gtr, s_lss, pickSV, noGl, lenE, valOf, ba_size, flat1_not, optE, u9, se9, sz9, ok9, ag9, if9, zr9, lb9, lb2, lb3, lb23, ld9, ld3, ld23, lb27, lb35, lb25, lb33, ld27, ld35, fa27_0, fa27_1, fa27_2, fa27_3, fa35_0, fa35_1, fa35_2, fa25_0, fa25_1, fp35_0, fp35_1, fp27_1, sz27, sz35, sz33, if27, if35, if33, se22, se29, zr27, zr35, set_last, se52, toksD, Tok.row, rowsOf, indexAddrE, asI, hr, s_add, show s.length + x.t.length < 9223372036854775808 by omega]; exact rfl) ?_
          (repeat (show W _ _ _ _ _ _ _ _; with_reducible apply W_seq)); refine W_ops (by simp [execOps, wantedE, isCall, stepOp, valOp, callOp, calleeE, datumL, datum, opnd, opndL, ofVF, putF, i_geq, i_leq, i_lss, i_gtr, i_eql, i_neq, i_add, i_sub, i_mul, s_eql, s_neq, s_gtr, s_lss, pickSV, noGl, lenE, valOf, ba_size, flat1_not, optE, u9, se9, sz9, ok9, ag9, if9, zr9, lb9, lb2, lb3, lb23, ld9, ld3, ld23, lb27, lb35, lb25, lb33, ld27, ld35, fa27_0, fa27_1, fa27_2, fa27_3, fa35_0, fa35_1, fa35_2, fa25_0, fa25_1, fp35_0, fp35_1, fp27_1, sz27, sz35, sz33, if27, if35, if33, se22, se29, zr27, zr35, set_last, se52]; exact rfl) ?_
          (repeat (show W _ _ _ _ _ _ _ _; with_reducible apply W_seq)); refine W_ops (by simp [execOps, wantedE, isCall, stepOp, valOp, callOp, calleeE, datumL, datum, opnd, opndL, ofVF, putF, i_geq, i_leq, i_lss, i_gtr, i_eql, i_neq, i_add, i_sub, i_mul, s_eql, s_neq, s_gtr, s_lss, pickSV, noGl, lenE, valOf, ba_size, flat1_not, optE, u9, se9, sz9, ok9, ag9, if9, zr9, lb9, lb2, lb3, lb23, ld9, ld3, ld23, lb27, lb35, lb25, lb33, ld27, ld35, fa27_0, fa27_1, fa27_2, fa27_3, fa35_0, fa35_1, fa35_2, fa25_0, fa25_1, fp35_0, fp35_1, fp27_1, sz27, sz35, sz33, if27, if35, if33, se22, se29, zr27, zr35, set_last, se52]; exact rfl) ?_
          refine ⟨k + 1, ⟨rfl, rfl, rfl, ?_, hlt, s ++ x.t, true, rfl, rfl, ?_, ?_⟩, by omega⟩
          · simp [wi64s (show k < 9223372036854775807 by omega)]
          · rw [hg]; simp
          · simp; omega
    · (repeat (show W _ _ _ _ _ _ _ _; with_reducible apply W_seq)); refine W_ops (by simp [execOps, wantedE, isCall, stepOp, valOp, callOp, calleeE, datumL, datum, opnd, opndL, ofVF, putF, i_geq, i_leq, i_lss, i_gtr, i_eql, i_neq, i_add, i_sub, i_mul, s_eql, s_neq, s_gtr, s_lss, pickSV, noGl, lenE, valOf, ba_size, flat1_not, optE, u9, se9, sz9, ok9, ag9, if9, zr9, lb9, lb2, lb3, lb23, ld9, ld3, ld23, lb27, lb35, lb25, lb33, ld27, ld35, fa27_0, fa27_1, fa27_2, fa27_3, fa35_0, fa35_1, fa35_2, fa25_0, fa25_1, fp35_0, fp35_1, fp27_1, sz27, sz35, sz33, if27, if35, if33, se22, se29, zr27, zr35, set_last, se52, rowsOf, hlt]; exact rfl) ?_
      show W _ _ _ _ _ _ _ _; (repeat (show W _ _ _ _ _ _ _ _; with_reducible apply W_seq)); refine W_cond (b := false) ?_ ?_ ?_; (focus simp [opnd, hlt]); (focus simp); intro _
      apply W_exit
      simp only [inBlock, if_true, andThen]
      have e : L.drop k = [] := List.drop_eq_nil_of_le (by omega)
      rw [e] at hg
      simp only [joinGo, List.append_nil] at hg
      (repeat (show W _ _ _ _ _ _ _ _; with_reducible apply W_seq)); refine W_ops (by simp [execOps, wantedE, isCall, stepOp, valOp, callOp, calleeE, datumL, datum, opnd, opndL, ofVF, putF, i_geq, i_leq, i_lss, i_gtr, i_eql, i_neq, i_add, i_sub, i_mul, s_eql, s_neq, s_gtr, s_lss, pickSV, noGl, lenE, valOf, ba_size, flat1_not, optE, u9, se9, sz9, ok9, ag9, if9, zr9, lb9, lb2, lb3, lb23, ld9, ld3, ld23, lb27, lb35, lb25, lb33, ld27, ld35, fa27_0, fa27_1, fa27_2, fa27_3, fa35_0, fa35_1, fa35_2, fa25_0, fa25_1, fp35_0, fp35_1, fp27_1, sz27, sz35, sz33, if27, if35, if33, se22, se29, zr27, zr35, set_last, se52]; exact rfl) ?_
      (repeat (show W _ _ _ _ _ _ _ _; with_reducible apply W_seq)); apply W_ret
      refine ⟨by simp, _, rfl, ?_⟩
      simp [resultE, noGl, snapR, snap, hg]
  · simp
end Go.Vm
