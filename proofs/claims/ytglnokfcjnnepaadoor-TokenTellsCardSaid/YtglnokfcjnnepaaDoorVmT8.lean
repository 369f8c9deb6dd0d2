/- Chapter 5: tokens that are right. -/
import Derived.Test.YtglnokfcjnnepaaDoorVmT7
open Go Go.Vm Go.Proofs
namespace Go.Vm
set_option maxRecDepth 100000
set_option linter.unusedSimpArgs false
variable {E : Env} {Z : GTab}

/-- Kind, text, number, error. -/
def tokP (l : List UInt8) : Int × List UInt8 × Int × Int :=
  match l with
  | [] => (0, [], 0, 0)
  | c :: _ =>
    if isDigit c then match numGo false 0 (l.takeWhile isDigit) with
      | some n => (1, l.takeWhile isDigit, IntKind.i64.wrap n, 0)
      | none => (1, l.takeWhile isDigit, 0, 51)
    else if isLetter c then
      if 32 < (l.takeWhile fun c => isLetter c || isDigit c).length then (0, [], 0, 52) else (0, l.takeWhile fun c => isLetter c || isDigit c, 0, 0)
    else match signsL.find? (pre l) with
      | some t => (2, t, 0, 0)
      | none => (0, [], 0, 50)
theorem tokOf_eq (l : List UInt8) (h : l ≠ []) : tokOf l = .tup [tokD (tokP l).1 (tokP l).2.1 (tokP l).2.2.1 0 0, i64 (tokP l).2.2.2] := by
  cases l with
  | nil => exact absurd rfl h
  | cons c l' =>
    unfold tokOf tokP
    simp only []
    by_cases h1 : isDigit c = true
    · simp only [if_pos h1]
      cases numGo false 0 ((c :: l').takeWhile isDigit) <;> rfl
    · simp only [if_neg h1]
      by_cases h2 : isLetter c = true
      · simp only [if_pos h2]
        by_cases h3 : 32 < ((c :: l').takeWhile fun c => isLetter c || isDigit c).length
        · simp only [if_pos h3]
        · simp only [if_neg h3]
      · simp only [if_neg h2]
        cases signsL.find? (pre (c :: l')) <;> rfl

def rightT (k : Int) (t : List UInt8) (n : Int) : Bool :=
  if t = [] then k == 3 && n == 0 else (tokP t).2.2.2 == 0 && ((tokP t).1 == k && (tokP t).2.1 == t && (tokP t).2.2.1 == n)
def rightR (k : Int) (t : List UInt8) (n : Int) : Bool :=
  if k = 0 then isWord t && decide (t.length ≤ 32) && n == 0
  else if k = 1 then isInt t && !badNum t && n == IntKind.i64.wrap (valU 0 t)
  else if k = 2 then isSign t && n == 0
  else k == 3 && t == [] && n == 0

set_option maxHeartbeats 2000000 in
theorem right_ev (hm : Tryd.prog.follows .mixedOrders = true) (hE : EnvOk Tryd.prog Z E) (k n a b : Int) (t : List UInt8)
    (k20 : t ≠ [] → E.D 20 [str t] = some (tokOf t)) (k11 : ∀ k n a b t k' n' c d t', E.D 11 [tokD k t n a b, tokD k' t' n' c d] = some (tb (k == k' && t == t' && n == n'))) :
    PureC Tryd.prog Z 8 [tokD k t n a b] (tb (rightT k t n)) := by
  obtain ⟨I27, in27, zc27⟩ := x27
  refine pure_of_W hE hm fn8 rfl 1 ?_
  simp only [Tryd.f8, List.map, List.length, List.cons_append, List.nil_append, List.replicate]
  (repeat (show W _ _ _ _ _ _ _ _; with_reducible apply W_seq)); refine W_ops (by simp [execOps, wantedE, isCall, stepOp, valOp, callOp, calleeE, datumL, datum, opnd, opndL, ofVF, putF, i_geq, i_leq, i_lss, i_gtr, i_eql, i_neq, i_add, i_sub, i_mul, s_eql, s_neq, s_gtr, s_lss, pickSV, noGl, lenE, valOf, ba_size, flat1_not, optE, u9, se9, sz9, ok9, ag9, if9, zr9, lb9, lb2, lb3, lb23, ld9, ld3, ld23, lb27, lb35, lb25, lb33, ld27, ld35, fa27_0, fa27_1, fa27_2, fa27_3, fa35_0, fa35_1, fa35_2, fa25_0, fa25_1, fp35_0, fp35_1, fp27_1, sz27, sz35, sz33, if27, if35, if33, se22, se29, zr27, zr35, set_last, se52, cellsS, settle, List.range, List.range.loop]; exact rfl) ?_
  (repeat (show W _ _ _ _ _ _ _ _; with_reducible apply W_seq)); refine W_ops (by simp [execOps, wantedE, isCall, stepOp, valOp, callOp, calleeE, datumL, datum, opnd, opndL, ofVF, putF, i_geq, i_leq, i_lss, i_gtr, i_eql, i_neq, i_add, i_sub, i_mul, s_eql, s_neq, s_gtr, s_lss, pickSV, noGl, lenE, valOf, ba_size, flat1_not, optE, u9, se9, sz9, ok9, ag9, if9, zr9, lb9, lb2, lb3, lb23, ld9, ld3, ld23, lb27, lb35, lb25, lb33, ld27, ld35, fa27_0, fa27_1, fa27_2, fa27_3, fa35_0, fa35_1, fa35_2, fa25_0, fa25_1, fp35_0, fp35_1, fp27_1, sz27, sz35, sz33, if27, if35, if33, se22, se29, zr27, zr35, set_last, se52]; exact rfl) ?_
  by_cases ht : t = []
  · subst ht
    show W _ _ _ _ _ _ _ _; (repeat (show W _ _ _ _ _ _ _ _; with_reducible apply W_seq)); refine W_cond (b := true) ?_ ?_ ?_; (focus simp [opnd]); rotate_left; (focus simp); intro _
    rcases c1 : (k == 3) with _ | _ <;> rcases c2 : (n == 0) with _ | _ <;>
    · (repeat (show W _ _ _ _ _ _ _ _; with_reducible apply W_seq)); refine W_ops (by simp [execOps, wantedE, isCall, stepOp, valOp, callOp, calleeE, datumL, datum, opnd, opndL, ofVF, putF, i_geq, i_leq, i_lss, i_gtr, i_eql, i_neq, i_add, i_sub, i_mul, s_eql, s_neq, s_gtr, s_lss, pickSV, noGl, lenE, valOf, ba_size, flat1_not, optE, u9, se9, sz9, ok9, ag9, if9, zr9, lb9, lb2, lb3, lb23, ld9, ld3, ld23, lb27, lb35, lb25, lb33, ld27, ld35, fa27_0, fa27_1, fa27_2, fa27_3, fa35_0, fa35_1, fa35_2, fa25_0, fa25_1, fp35_0, fp35_1, fp27_1, sz27, sz35, sz33, if27, if35, if33, se22, se29, zr27, zr35, set_last, se52, c1, c2]; exact rfl) ?_
      (repeat (show W _ _ _ _ _ _ _ _; with_reducible apply W_seq)); apply W_ret
      refine ⟨by simp, _, rfl, ?_⟩
      simp [resultE, noGl, snapR, snap, rightT, c1, c2]
  · have ht2 : (t == []) = false := by simpa using ht
    show W _ _ _ _ _ _ _ _; (repeat (show W _ _ _ _ _ _ _ _; with_reducible apply W_seq)); refine W_cond (b := false) ?_ ?_ ?_; (focus simp [opnd, ht2, ht]); (focus simp); intro _
    (repeat (show W _ _ _ _ _ _ _ _; with_reducible apply W_seq)); apply W_skip
    have hk := k20 ht
    rw [tokOf_eq t ht] at hk
    have hR : rightT k t n = ((tokP t).2.2.2 == 0 && ((tokP t).1 == k && (tokP t).2.1 == t && (tokP t).2.2.1 == n)) := by unfold rightT; rw [if_neg ht]
    obtain ⟨⟨k', t', n', e⟩, hP⟩ : ∃ p, tokP t = p := ⟨_, rfl⟩
    rw [hP] at hk hR
    simp only [] at hk hR
    (repeat (show W _ _ _ _ _ _ _ _; with_reducible apply W_seq)); refine W_ops (by simp [execOps, wantedE, isCall, stepOp, valOp, callOp, calleeE, datumL, datum, opnd, opndL, ofVF, putF, i_geq, i_leq, i_lss, i_gtr, i_eql, i_neq, i_add, i_sub, i_mul, s_eql, s_neq, s_gtr, s_lss, pickSV, noGl, lenE, valOf, ba_size, flat1_not, optE, u9, se9, sz9, ok9, ag9, if9, zr9, lb9, lb2, lb3, lb23, ld9, ld3, ld23, lb27, lb35, lb25, lb33, ld27, ld35, fa27_0, fa27_1, fa27_2, fa27_3, fa35_0, fa35_1, fa35_2, fa25_0, fa25_1, fp35_0, fp35_1, fp27_1, sz27, sz35, sz33, if27, if35, if33, se22, se29, zr27, zr35, set_last, se52, hk, fn20, Tryd.f20, extractE, in27, zc27, cellsS, settle, overS, List.range, List.range.loop]; exact rfl) ?_
    rcases c1 : (e == 0) with _ | _
    · rw [c1, Bool.false_and] at hR
      (repeat (show W _ _ _ _ _ _ _ _; with_reducible apply W_seq)); refine W_ops (by simp [execOps, wantedE, isCall, stepOp, valOp, callOp, calleeE, datumL, datum, opnd, opndL, ofVF, putF, i_geq, i_leq, i_lss, i_gtr, i_eql, i_neq, i_add, i_sub, i_mul, s_eql, s_neq, s_gtr, s_lss, pickSV, noGl, lenE, valOf, ba_size, flat1_not, optE, u9, se9, sz9, ok9, ag9, if9, zr9, lb9, lb2, lb3, lb23, ld9, ld3, ld23, lb27, lb35, lb25, lb33, ld27, ld35, fa27_0, fa27_1, fa27_2, fa27_3, fa35_0, fa35_1, fa35_2, fa25_0, fa25_1, fp35_0, fp35_1, fp27_1, sz27, sz35, sz33, if27, if35, if33, se22, se29, zr27, zr35, set_last, se52, c1]; exact rfl) ?_
      (repeat (show W _ _ _ _ _ _ _ _; with_reducible apply W_seq)); apply W_ret
      refine ⟨by simp, _, rfl, ?_⟩
      rw [hR]
      simp [resultE, noGl, snapR, snap]
    · rw [c1, Bool.true_and] at hR
      (repeat (show W _ _ _ _ _ _ _ _; with_reducible apply W_seq)); refine W_ops (by simp [execOps, wantedE, isCall, stepOp, valOp, callOp, calleeE, datumL, datum, opnd, opndL, ofVF, putF, i_geq, i_leq, i_lss, i_gtr, i_eql, i_neq, i_add, i_sub, i_mul, s_eql, s_neq, s_gtr, s_lss, pickSV, noGl, lenE, valOf, ba_size, flat1_not, optE, u9, se9, sz9, ok9, ag9, if9, zr9, lb9, lb2, lb3, lb23, ld9, ld3, ld23, lb27, lb35, lb25, lb33, ld27, ld35, fa27_0, fa27_1, fa27_2, fa27_3, fa35_0, fa35_1, fa35_2, fa25_0, fa25_1, fp35_0, fp35_1, fp27_1, sz27, sz35, sz33, if27, if35, if33, se22, se29, zr27, zr35, set_last, se52, c1, k11, fn11, Tryd.f11]; exact rfl) ?_
      (repeat (show W _ _ _ _ _ _ _ _; with_reducible apply W_seq)); apply W_ret
      refine ⟨by simp, _, rfl, ?_⟩
      rw [hR]
      simp [resultE, noGl, snapR, snap]

theorem extract0 (x y : D) : extractE 0 (.d (.tup [x, y])) = some (.d x) := rfl
theorem extract1 (x y : D) : extractE 1 (.d (.tup [x, y])) = some (.d y) := rfl

set_option maxHeartbeats 2000000 in
theorem rright_ev (hm : Tryd.prog.follows .mixedOrders = true) (hE : EnvOk Tryd.prog Z E) (k n a b : Int) (t : List UInt8) (hl : t.length < 2 ^ 62)
    (k21 : E.D 21 [str t] = some (tb (isWord t))) (k22 : E.D 22 [str t] = some (numRef t)) (k23 : E.D 23 [str t] = some (tb (isInt t))) (k24 : E.D 24 [str t] = some (tb (isSign t))) :
    PureC Tryd.prog Z 9 [tokD k t n a b] (tb (rightR k t n)) := by
  refine pure_of_W hE hm fn9 rfl 1 ?_
  simp only [Tryd.f9, List.map, List.length, List.cons_append, List.nil_append, List.replicate]
  (repeat (show W _ _ _ _ _ _ _ _; with_reducible apply W_seq)); refine W_ops (by simp [execOps, wantedE, isCall, stepOp, valOp, callOp, calleeE, datumL, datum, opnd, opndL, ofVF, putF, i_geq, i_leq, i_lss, i_gtr, i_eql, i_neq, i_add, i_sub, i_mul, s_eql, s_neq, s_gtr, s_lss, pickSV, noGl, lenE, valOf, ba_size, flat1_not, optE, u9, se9, sz9, ok9, ag9, if9, zr9, lb9, lb2, lb3, lb23, ld9, ld3, ld23, lb27, lb35, lb25, lb33, ld27, ld35, fa27_0, fa27_1, fa27_2, fa27_3, fa35_0, fa35_1, fa35_2, fa25_0, fa25_1, fp35_0, fp35_1, fp27_1, sz27, sz35, sz33, if27, if35, if33, se22, se29, zr27, zr35, set_last, se52, cellsS, settle, List.range, List.range.loop]; exact rfl) ?_
  (repeat (show W _ _ _ _ _ _ _ _; with_reducible apply W_seq)); refine W_ops (by simp [execOps, wantedE, isCall, stepOp, valOp, callOp, calleeE, datumL, datum, opnd, opndL, ofVF, putF, i_geq, i_leq, i_lss, i_gtr, i_eql, i_neq, i_add, i_sub, i_mul, s_eql, s_neq, s_gtr, s_lss, pickSV, noGl, lenE, valOf, ba_size, flat1_not, optE, u9, se9, sz9, ok9, ag9, if9, zr9, lb9, lb2, lb3, lb23, ld9, ld3, ld23, lb27, lb35, lb25, lb33, ld27, ld35, fa27_0, fa27_1, fa27_2, fa27_3, fa35_0, fa35_1, fa35_2, fa25_0, fa25_1, fp35_0, fp35_1, fp27_1, sz27, sz35, sz33, if27, if35, if33, se22, se29, zr27, zr35, set_last, se52]; exact rfl) ?_
  (repeat (show W _ _ _ _ _ _ _ _; with_reducible apply W_seq)); apply W_block
  by_cases h0 : k = 0
  · subst h0
    (repeat (show W _ _ _ _ _ _ _ _; with_reducible apply W_seq)); refine W_ops (by simp [execOps, wantedE, isCall, stepOp, valOp, callOp, calleeE, datumL, datum, opnd, opndL, ofVF, putF, i_geq, i_leq, i_lss, i_gtr, i_eql, i_neq, i_add, i_sub, i_mul, s_eql, s_neq, s_gtr, s_lss, pickSV, noGl, lenE, valOf, ba_size, flat1_not, optE, u9, se9, sz9, ok9, ag9, if9, zr9, lb9, lb2, lb3, lb23, ld9, ld3, ld23, lb27, lb35, lb25, lb33, ld27, ld35, fa27_0, fa27_1, fa27_2, fa27_3, fa35_0, fa35_1, fa35_2, fa25_0, fa25_1, fp35_0, fp35_1, fp27_1, sz27, sz35, sz33, if27, if35, if33, se22, se29, zr27, zr35, set_last, se52]; exact rfl) ?_
    show W _ _ _ _ _ _ _ _; (repeat (show W _ _ _ _ _ _ _ _; with_reducible apply W_seq)); refine W_cond (b := true) ?_ ?_ ?_; (focus simp [opnd]); rotate_left; (focus simp); intro _
    have d1 : decide ((t.length : Int) ≤ 32) = decide (t.length ≤ 32) := by apply decide_eq_decide.2; omega
    rcases c1 : isWord t with _ | _ <;> rw [c1] at k21 <;> by_cases c2 : t.length ≤ 32 <;> rcases c3 : (n == 0) with _ | _ <;>
    · have c2' : ((t.length : Int) ≤ 32) = (t.length ≤ 32) := by apply propext; omega
      (repeat (show W _ _ _ _ _ _ _ _; with_reducible apply W_seq)); refine W_ops (by simp [execOps, wantedE, isCall, stepOp, valOp, callOp, calleeE, datumL, datum, opnd, opndL, ofVF, putF, i_geq, i_leq, i_lss, i_gtr, i_eql, i_neq, i_add, i_sub, i_mul, s_eql, s_neq, s_gtr, s_lss, pickSV, noGl, lenE, valOf, ba_size, flat1_not, optE, u9, se9, sz9, ok9, ag9, if9, zr9, lb9, lb2, lb3, lb23, ld9, ld3, ld23, lb27, lb35, lb25, lb33, ld27, ld35, fa27_0, fa27_1, fa27_2, fa27_3, fa35_0, fa35_1, fa35_2, fa25_0, fa25_1, fp35_0, fp35_1, fp27_1, sz27, sz35, sz33, if27, if35, if33, se22, se29, zr27, zr35, set_last, se52, k21, fn21, Tryd.f21, c2', c2, c3]; exact rfl) ?_
      (repeat (show W _ _ _ _ _ _ _ _; with_reducible apply W_seq)); apply W_ret
      refine ⟨by simp, _, rfl, ?_⟩
      simp [resultE, noGl, snapR, snap, rightR, c1, c2, c3]
  · have h0' : (k == 0) = false := by simpa using h0
    (repeat (show W _ _ _ _ _ _ _ _; with_reducible apply W_seq)); refine W_ops (by simp [execOps, wantedE, isCall, stepOp, valOp, callOp, calleeE, datumL, datum, opnd, opndL, ofVF, putF, i_geq, i_leq, i_lss, i_gtr, i_eql, i_neq, i_add, i_sub, i_mul, s_eql, s_neq, s_gtr, s_lss, pickSV, noGl, lenE, valOf, ba_size, flat1_not, optE, u9, se9, sz9, ok9, ag9, if9, zr9, lb9, lb2, lb3, lb23, ld9, ld3, ld23, lb27, lb35, lb25, lb33, ld27, ld35, fa27_0, fa27_1, fa27_2, fa27_3, fa35_0, fa35_1, fa35_2, fa25_0, fa25_1, fp35_0, fp35_1, fp27_1, sz27, sz35, sz33, if27, if35, if33, se22, se29, zr27, zr35, set_last, se52, h0']; exact rfl) ?_
    show W _ _ _ _ _ _ _ _; (repeat (show W _ _ _ _ _ _ _ _; with_reducible apply W_seq)); refine W_cond (b := false) ?_ ?_ ?_; (focus simp [opnd, h0']); (focus simp); intro _
    by_cases h1 : k = 1
    · subst h1
      (repeat (show W _ _ _ _ _ _ _ _; with_reducible apply W_seq)); refine W_ops (by simp [execOps, wantedE, isCall, stepOp, valOp, callOp, calleeE, datumL, datum, opnd, opndL, ofVF, putF, i_geq, i_leq, i_lss, i_gtr, i_eql, i_neq, i_add, i_sub, i_mul, s_eql, s_neq, s_gtr, s_lss, pickSV, noGl, lenE, valOf, ba_size, flat1_not, optE, u9, se9, sz9, ok9, ag9, if9, zr9, lb9, lb2, lb3, lb23, ld9, ld3, ld23, lb27, lb35, lb25, lb33, ld27, ld35, fa27_0, fa27_1, fa27_2, fa27_3, fa35_0, fa35_1, fa35_2, fa25_0, fa25_1, fp35_0, fp35_1, fp27_1, sz27, sz35, sz33, if27, if35, if33, se22, se29, zr27, zr35, set_last, se52]; exact rfl) ?_
      show W _ _ _ _ _ _ _ _; (repeat (show W _ _ _ _ _ _ _ _; with_reducible apply W_seq)); refine W_cond (b := true) ?_ ?_ ?_; (focus simp [opnd]); rotate_left; (focus simp); intro _
      unfold numRef at k22
      rcases c0 : badNum t with _ | _ <;> rw [c0] at k22 <;> simp only [Bool.false_eq_true, if_true, if_false] at k22 <;>
      rcases c1 : isInt t with _ | _ <;> rw [c1] at k23 <;>
      · generalize hv : IntKind.i64.wrap (valU 0 t) = v at *
        (repeat (show W _ _ _ _ _ _ _ _; with_reducible apply W_seq)); refine W_ops (by simp [execOps, wantedE, isCall, stepOp, valOp, callOp, calleeE, datumL, datum, opnd, opndL, ofVF, putF, i_geq, i_leq, i_lss, i_gtr, i_eql, i_neq, i_add, i_sub, i_mul, s_eql, s_neq, s_gtr, s_lss, pickSV, noGl, lenE, valOf, ba_size, flat1_not, optE, u9, se9, sz9, ok9, ag9, if9, zr9, lb9, lb2, lb3, lb23, ld9, ld3, ld23, lb27, lb35, lb25, lb33, ld27, ld35, fa27_0, fa27_1, fa27_2, fa27_3, fa35_0, fa35_1, fa35_2, fa25_0, fa25_1, fp35_0, fp35_1, fp27_1, sz27, sz35, sz33, if27, if35, if33, se22, se29, zr27, zr35, set_last, se52, k22, fn22, Tryd.f22, extract0, extract1]; exact rfl) ?_
        rcases c3 : (n == v) with _ | _ <;>
        · (repeat (show W _ _ _ _ _ _ _ _; with_reducible apply W_seq)); refine W_ops (by simp [execOps, wantedE, isCall, stepOp, valOp, callOp, calleeE, datumL, datum, opnd, opndL, ofVF, putF, i_geq, i_leq, i_lss, i_gtr, i_eql, i_neq, i_add, i_sub, i_mul, s_eql, s_neq, s_gtr, s_lss, pickSV, noGl, lenE, valOf, ba_size, flat1_not, optE, u9, se9, sz9, ok9, ag9, if9, zr9, lb9, lb2, lb3, lb23, ld9, ld3, ld23, lb27, lb35, lb25, lb33, ld27, ld35, fa27_0, fa27_1, fa27_2, fa27_3, fa35_0, fa35_1, fa35_2, fa25_0, fa25_1, fp35_0, fp35_1, fp27_1, sz27, sz35, sz33, if27, if35, if33, se22, se29, zr27, zr35, set_last, se52, k23, fn23, Tryd.f23, c3]; exact rfl) ?_
          (repeat (show W _ _ _ _ _ _ _ _; with_reducible apply W_seq)); apply W_ret
          refine ⟨by simp, _, rfl, ?_⟩
          simp [resultE, noGl, snapR, snap, rightR, c0, c1, c3, hv]
    · have h1' : (k == 1) = false := by simpa using h1
      (repeat (show W _ _ _ _ _ _ _ _; with_reducible apply W_seq)); refine W_ops (by simp [execOps, wantedE, isCall, stepOp, valOp, callOp, calleeE, datumL, datum, opnd, opndL, ofVF, putF, i_geq, i_leq, i_lss, i_gtr, i_eql, i_neq, i_add, i_sub, i_mul, s_eql, s_neq, s_gtr, s_lss, pickSV, noGl, lenE, valOf, ba_size, flat1_not, optE, u9, se9, sz9, ok9, ag9, if9, zr9, lb9, lb2, lb3, lb23, ld9, ld3, ld23, lb27, lb35, lb25, lb33, ld27, ld35, fa27_0, fa27_1, fa27_2, fa27_3, fa35_0, fa35_1, fa35_2, fa25_0, fa25_1, fp35_0, fp35_1, fp27_1, sz27, sz35, sz33, if27, if35, if33, se22, se29, zr27, zr35, set_last, se52, h1']; exact rfl) ?_
      show W _ _ _ _ _ _ _ _; (repeat (show W _ _ _ _ _ _ _ _; with_reducible apply W_seq)); refine W_cond (b := false) ?_ ?_ ?_; (focus simp [opnd, h1']); (focus simp); intro _
      by_cases h2 : k = 2
      · subst h2
        (repeat (show W _ _ _ _ _ _ _ _; with_reducible apply W_seq)); refine W_ops (by simp [execOps, wantedE, isCall, stepOp, valOp, callOp, calleeE, datumL, datum, opnd, opndL, ofVF, putF, i_geq, i_leq, i_lss, i_gtr, i_eql, i_neq, i_add, i_sub, i_mul, s_eql, s_neq, s_gtr, s_lss, pickSV, noGl, lenE, valOf, ba_size, flat1_not, optE, u9, se9, sz9, ok9, ag9, if9, zr9, lb9, lb2, lb3, lb23, ld9, ld3, ld23, lb27, lb35, lb25, lb33, ld27, ld35, fa27_0, fa27_1, fa27_2, fa27_3, fa35_0, fa35_1, fa35_2, fa25_0, fa25_1, fp35_0, fp35_1, fp27_1, sz27, sz35, sz33, if27, if35, if33, se22, se29, zr27, zr35, set_last, se52]; exact rfl) ?_
        show W _ _ _ _ _ _ _ _; (repeat (show W _ _ _ _ _ _ _ _; with_reducible apply W_seq)); refine W_cond (b := true) ?_ ?_ ?_; (focus simp [opnd]); rotate_left; (focus simp); intro _
        rcases c1 : isSign t with _ | _ <;> rw [c1] at k24 <;> rcases c3 : (n == 0) with _ | _ <;>
        · (repeat (show W _ _ _ _ _ _ _ _; with_reducible apply W_seq)); refine W_ops (by simp [execOps, wantedE, isCall, stepOp, valOp, callOp, calleeE, datumL, datum, opnd, opndL, ofVF, putF, i_geq, i_leq, i_lss, i_gtr, i_eql, i_neq, i_add, i_sub, i_mul, s_eql, s_neq, s_gtr, s_lss, pickSV, noGl, lenE, valOf, ba_size, flat1_not, optE, u9, se9, sz9, ok9, ag9, if9, zr9, lb9, lb2, lb3, lb23, ld9, ld3, ld23, lb27, lb35, lb25, lb33, ld27, ld35, fa27_0, fa27_1, fa27_2, fa27_3, fa35_0, fa35_1, fa35_2, fa25_0, fa25_1, fp35_0, fp35_1, fp27_1, sz27, sz35, sz33, if27, if35, if33, se22, se29, zr27, zr35, set_last, se52, k24, fn24, Tryd.f24, c3]; exact rfl) ?_
          (repeat (show W _ _ _ _ _ _ _ _; with_reducible apply W_seq)); apply W_ret
          refine ⟨by simp, _, rfl, ?_⟩
          simp [resultE, noGl, snapR, snap, rightR, c1, c3]
      · have h2' : (k == 2) = false := by simpa using h2
        (repeat (show W _ _ _ _ _ _ _ _; with_reducible apply W_seq)); refine W_ops (by simp [execOps, wantedE, isCall, stepOp, valOp, callOp, calleeE, datumL, datum, opnd, opndL, ofVF, putF, i_geq, i_leq, i_lss, i_gtr, i_eql, i_neq, i_add, i_sub, i_mul, s_eql, s_neq, s_gtr, s_lss, pickSV, noGl, lenE, valOf, ba_size, flat1_not, optE, u9, se9, sz9, ok9, ag9, if9, zr9, lb9, lb2, lb3, lb23, ld9, ld3, ld23, lb27, lb35, lb25, lb33, ld27, ld35, fa27_0, fa27_1, fa27_2, fa27_3, fa35_0, fa35_1, fa35_2, fa25_0, fa25_1, fp35_0, fp35_1, fp27_1, sz27, sz35, sz33, if27, if35, if33, se22, se29, zr27, zr35, set_last, se52, h2']; exact rfl) ?_
        show W _ _ _ _ _ _ _ _; (repeat (show W _ _ _ _ _ _ _ _; with_reducible apply W_seq)); refine W_cond (b := false) ?_ ?_ ?_; (focus simp [opnd, h2']); (focus simp); intro _
        (repeat (show W _ _ _ _ _ _ _ _; with_reducible apply W_seq)); apply W_skip
        simp only [inBlock, andThen]
        rcases c1 : (k == 3) with _ | _ <;> rcases c2 : (t == []) with _ | _ <;> rcases c3 : (n == 0) with _ | _ <;>
        · (repeat (show W _ _ _ _ _ _ _ _; with_reducible apply W_seq)); refine W_ops (by simp [execOps, wantedE, isCall, stepOp, valOp, callOp, calleeE, datumL, datum, opnd, opndL, ofVF, putF, i_geq, i_leq, i_lss, i_gtr, i_eql, i_neq, i_add, i_sub, i_mul, s_eql, s_neq, s_gtr, s_lss, pickSV, noGl, lenE, valOf, ba_size, flat1_not, optE, u9, se9, sz9, ok9, ag9, if9, zr9, lb9, lb2, lb3, lb23, ld9, ld3, ld23, lb27, lb35, lb25, lb33, ld27, ld35, fa27_0, fa27_1, fa27_2, fa27_3, fa35_0, fa35_1, fa35_2, fa25_0, fa25_1, fp35_0, fp35_1, fp27_1, sz27, sz35, sz33, if27, if35, if33, se22, se29, zr27, zr35, set_last, se52, c1, c2, c3]; exact rfl) ?_
          (repeat (show W _ _ _ _ _ _ _ _; with_reducible apply W_seq)); apply W_ret
          refine ⟨by simp, _, rfl, ?_⟩
          simp [resultE, noGl, snapR, snap, rightR, h0, h1, h2, c1, c2, c3]
end Go.Vm
