/- Chapter 5: numbers. -/
import Derived.Test.YtglnokfcjnnepaaDoorVmT1
open Go Go.Vm Go.Proofs
namespace Go.Vm
set_option maxRecDepth 100000
set_option linter.unusedSimpArgs false
variable {E : Env} {Z : GTab}
theorem u5 : Tryd.prog.underlying 5 = some (.int .u8) := rfl
theorem u77 : Tryd.prog.underlying 77 = some (.int .u64) := rfl
theorem u2 : Tryd.prog.underlying 2 = some (.int .i64) := rfl

theorem wu64 {n : Int} (h1 : 0 ≤ n) (h2 : n < 18446744073709551616) : IntKind.u64.wrap n = n := by
  have : IntKind.u64.wrap n = n % 18446744073709551616 := by simp [IntKind.wrap, IntKind.bits, IntKind.signed]
  rw [this]; omega
theorem wu8 {n : Int} (h1 : 0 ≤ n) (h2 : n < 256) : IntKind.u8.wrap n = n := by
  have : IntKind.u8.wrap n = n % 256 := by simp [IntKind.wrap, IntKind.bits, IntKind.signed]
  rw [this]; omega

/-- The number of digits, or none: one too great, or with a zero ahead. -/
def numGo : Bool → Nat → List UInt8 → Option Nat
  | _, n, [] => some n
  | later, n, c :: l => if n > (9223372036854775808 - (c.toNat - 48)) / 10 || (later && n == 0) then none else numGo true (n * 10 + (c.toNat - 48)) l
def numOf (l : List UInt8) : D := match numGo false 0 l with
  | some n => .tup [i64 (IntKind.i64.wrap n), i64 0]
  | none => .tup [i64 0, i64 51]

theorem isDigit_iff {c : UInt8} : isDigit c = true ↔ 48 ≤ c.toNat ∧ c.toNat ≤ 57 := by simp [isDigit]

theorem number_ev (hm : Tryd.prog.follows .mixedOrders = true) (hE : EnvOk Tryd.prog Z E) (l : List UInt8) (hl : l.length < 2 ^ 62) (hd : ∀ c ∈ l, isDigit c = true) : PureC Tryd.prog Z 34 [str l] (numOf l) := by
  refine pure_of_W hE hm fn34 rfl (l.length + 1) ?_
  simp only [Tryd.f34, List.map, List.length, List.cons_append, List.nil_append, List.replicate]
  (repeat (show W _ _ _ _ _ _ _ _; with_reducible apply W_seq)); refine W_ops (by simp [execOps, wantedE, isCall, stepOp, valOp, callOp, calleeE, datumL, datum, opnd, opndL, ofVF, putF, i_geq, i_leq, i_lss, i_gtr, i_eql, i_neq, i_add, i_sub, i_mul, s_eql, s_neq, s_gtr, s_lss, pickSV, noGl, lenE, valOf, ba_size, flat1_not, optE, u9, se9]; exact rfl) ?_
  (repeat (show W _ _ _ _ _ _ _ _; with_reducible apply W_seq)); refine W_ops (by simp [execOps, wantedE, isCall, stepOp, valOp, callOp, calleeE, datumL, datum, opnd, opndL, ofVF, putF, i_geq, i_leq, i_lss, i_gtr, i_eql, i_neq, i_add, i_sub, i_mul, s_eql, s_neq, s_gtr, s_lss, pickSV, noGl, lenE, valOf, ba_size, flat1_not, optE, u9, se9]; exact rfl) ?_
  (repeat (show W _ _ _ _ _ _ _ _; with_reducible apply W_seq)); refine W_ops (by simp [execOps, wantedE, isCall, stepOp, valOp, callOp, calleeE, datumL, datum, opnd, opndL, ofVF, putF, i_geq, i_leq, i_lss, i_gtr, i_eql, i_neq, i_add, i_sub, i_mul, s_eql, s_neq, s_gtr, s_lss, pickSV, noGl, lenE, valOf, ba_size, flat1_not, optE, u9, se9]; exact rfl) ?_
  repeat (show W _ _ _ _ _ _ _ _; with_reducible apply W_seq)
  apply W_block
  apply W_loop (α := Nat) (fun k fr σ => σ = [] ∧ fr.length = 37 ∧ fr.getD 0 (.d (.tup [])) = .d (str l) ∧ fr.getD 8 (.d (.tup [])) = .d (i64 l.length) ∧ fr.getD 9 (.d (.tup [])) = .d (i64 k) ∧ k ≤ l.length ∧
    ∃ n : Nat, fr.getD 4 (.d (.tup [])) = .d (.sc (.int .u64 n)) ∧ n ≤ 9223372036854775808 ∧ numGo false 0 l = numGo (decide (0 < k)) n (l.drop k)) (fun k => l.length - k) (a := 0)
  · refine ⟨rfl, rfl, rfl, rfl, rfl, by omega, 0, rfl, by omega, by simp⟩
  · rintro k fr σ ⟨rfl, hlen, h0, h8, h9, hk, n, h4, hn, hg⟩
    rw [fr_explicit fr 37 hlen]
    simp only [List.range, List.range.loop, List.map, h0, h8, h9, h4]
    by_cases hlt : k < l.length
    · have hc : l[k]? = some l[k] := List.getElem?_eq_getElem hlt
      have hdr : l.drop k = l[k] :: l.drop (k + 1) := List.drop_eq_getElem_cons hlt
      obtain ⟨d1, d2⟩ := isDigit_iff.1 (hd _ (List.getElem_mem hlt))
      generalize hcc : l[k] = c at *
      obtain ⟨d, hdd⟩ : ∃ d : Nat, c.toNat = d + 48 := ⟨c.toNat - 48, by omega⟩
      rw [hdr] at hg
      simp only [numGo, hdd, Nat.add_sub_cancel] at hg
      (repeat (show W _ _ _ _ _ _ _ _; with_reducible apply W_seq)); refine W_ops (by simp [execOps, wantedE, isCall, stepOp, valOp, callOp, calleeE, datumL, datum, opnd, opndL, ofVF, putF, i_geq, i_leq, i_lss, i_gtr, i_eql, i_neq, i_add, i_sub, i_mul, s_eql, s_neq, s_gtr, s_lss, pickSV, noGl, lenE, valOf, ba_size, flat1_not, optE, u9, se9, hlt]; exact rfl) ?_
      show W _ _ _ _ _ _ _ _; (repeat (show W _ _ _ _ _ _ _ _; with_reducible apply W_seq)); refine W_cond (b := true) ?_ ?_ ?_; (focus simp [opnd]); rotate_left; (focus simp); intro _
      (repeat (show W _ _ _ _ _ _ _ _; with_reducible apply W_seq)); apply W_skip
      (repeat (show W _ _ _ _ _ _ _ _; with_reducible apply W_seq)); apply W_block
      (repeat (show W _ _ _ _ _ _ _ _; with_reducible apply W_seq)); refine W_ops (by simp [execOps, wantedE, isCall, stepOp, valOp, callOp, calleeE, datumL, datum, opnd, opndL, ofVF, putF, i_geq, i_leq, i_lss, i_gtr, i_eql, i_neq, i_add, i_sub, i_mul, s_eql, s_neq, s_gtr, s_lss, pickSV, noGl, lenE, valOf, ba_size, flat1_not, optE, u9, se9]; exact rfl) ?_
      apply W_seq
      have e1 : IntKind.u8.wrap ((c.toNat : Int) - 48) = d := by rw [hdd, wu8 (by omega) (by omega)]; omega
      have e2 : IntKind.u64.wrap (d : Int) = d := wu64 (by omega) (by omega)
      (repeat (show W _ _ _ _ _ _ _ _; with_reducible apply W_seq)); refine W_ops (by simp [execOps, wantedE, isCall, stepOp, valOp, callOp, calleeE, datumL, datum, opnd, opndL, ofVF, putF, i_geq, i_leq, i_lss, i_gtr, i_eql, i_neq, i_add, i_sub, i_mul, s_eql, s_neq, s_gtr, s_lss, pickSV, noGl, lenE, valOf, ba_size, flat1_not, optE, u9, se9, idx_str u9 hc, e1, e2, flat1_int u5 u77]; exact rfl) ?_
      apply W_seq
      have e3 : IntKind.u64.wrap (9223372036854775808 - (d : Int)) = ((9223372036854775808 - d : Nat) : Int) := by rw [wu64 (by omega) (by omega)]; omega
      obtain ⟨q, hq⟩ : ∃ q : Nat, (9223372036854775808 - d) / 10 = q := ⟨_, rfl⟩
      rw [hq] at hg
      have e4 : IntKind.u64.wrap (((9223372036854775808 - d : Nat) : Int) / 10) = (q : Int) := by
        rw [wu64 (by omega) (by omega)]; omega
      have e7 : ((n : Int) == 0) = (n == 0) := by rw [Bool.eq_iff_iff]; simp only [beq_iff_eq]; omega
      have key : ∃ b : Bool, (decide (n > q) || (decide (0 < k) && n == 0)) = b := ⟨_, rfl⟩
      obtain ⟨b, hb⟩ := key
      rw [hb] at hg
      by_cases c1 : q < n <;> by_cases c2 : 0 < k <;> rcases c3 : (n == 0) with _ | _ <;>
      · first
        | (have hb2 : b = true := by simpa [c1, c2, c3] using hb.symm
           subst hb2
           (repeat (show W _ _ _ _ _ _ _ _; with_reducible apply W_seq)); refine W_ops (by simp [execOps, wantedE, isCall, stepOp, valOp, callOp, calleeE, datumL, datum, opnd, opndL, ofVF, putF, i_geq, i_leq, i_lss, i_gtr, i_eql, i_neq, i_add, i_sub, i_mul, s_eql, s_neq, s_gtr, s_lss, pickSV, noGl, lenE, valOf, ba_size, flat1_not, optE, u9, se9, e3, e4, e7, i_quo, c1, c2, c3]; exact rfl) ?_
           show W _ _ _ _ _ _ _ _; (repeat (show W _ _ _ _ _ _ _ _; with_reducible apply W_seq)); refine W_cond (b := true) ?_ ?_ ?_; (focus simp [opnd]); rotate_left; (focus simp); intro _
           (repeat (show W _ _ _ _ _ _ _ _; with_reducible apply W_seq)); refine W_ops (by simp [execOps, wantedE, isCall, stepOp, valOp, callOp, calleeE, datumL, datum, opnd, opndL, ofVF, putF, i_geq, i_leq, i_lss, i_gtr, i_eql, i_neq, i_add, i_sub, i_mul, s_eql, s_neq, s_gtr, s_lss, pickSV, noGl, lenE, valOf, ba_size, flat1_not, optE, u9, se9]; exact rfl) ?_
           (repeat (show W _ _ _ _ _ _ _ _; with_reducible apply W_seq)); apply W_ret
           refine ⟨by simp, _, rfl, ?_⟩
           simp only [if_true] at hg
           simp [resultE, noGl, snapR, snap, snapL, numOf, hg]
           done)
        | (have hb2 : b = false := by simpa [c1, c2, c3] using hb.symm
           subst hb2
           (repeat (show W _ _ _ _ _ _ _ _; with_reducible apply W_seq)); refine W_ops (by simp [execOps, wantedE, isCall, stepOp, valOp, callOp, calleeE, datumL, datum, opnd, opndL, ofVF, putF, i_geq, i_leq, i_lss, i_gtr, i_eql, i_neq, i_add, i_sub, i_mul, s_eql, s_neq, s_gtr, s_lss, pickSV, noGl, lenE, valOf, ba_size, flat1_not, optE, u9, se9, e3, e4, e7, i_quo, c1, c2, c3]; exact rfl) ?_
           show W _ _ _ _ _ _ _ _; (repeat (show W _ _ _ _ _ _ _ _; with_reducible apply W_seq)); refine W_cond (b := false) ?_ ?_ ?_; (focus simp [opnd]); (focus simp); intro _
           (repeat (show W _ _ _ _ _ _ _ _; with_reducible apply W_seq)); apply W_skip
           have d9 : d ≤ 9 := by omega
           have hnd : n * 10 + d ≤ 9223372036854775808 := by omega
           have e8 : IntKind.u64.wrap ((n : Int) * 10) = (n : Int) * 10 := wu64 (by omega) (by omega)
           have e9 : IntKind.u64.wrap ((n : Int) * 10 + d) = (n : Int) * 10 + d := wu64 (by omega) (by omega)
           (repeat (show W _ _ _ _ _ _ _ _; with_reducible apply W_seq)); refine W_ops (by simp [execOps, wantedE, isCall, stepOp, valOp, callOp, calleeE, datumL, datum, opnd, opndL, ofVF, putF, i_geq, i_leq, i_lss, i_gtr, i_eql, i_neq, i_add, i_sub, i_mul, s_eql, s_neq, s_gtr, s_lss, pickSV, noGl, lenE, valOf, ba_size, flat1_not, optE, u9, se9, e8, e9]; exact rfl) ?_
           (repeat (show W _ _ _ _ _ _ _ _; with_reducible apply W_seq)); refine W_ops (by simp [execOps, wantedE, isCall, stepOp, valOp, callOp, calleeE, datumL, datum, opnd, opndL, ofVF, putF, i_geq, i_leq, i_lss, i_gtr, i_eql, i_neq, i_add, i_sub, i_mul, s_eql, s_neq, s_gtr, s_lss, pickSV, noGl, lenE, valOf, ba_size, flat1_not, optE, u9, se9]; exact rfl) ?_
           refine ⟨k + 1, ⟨rfl, rfl, rfl, rfl, ?_, hlt, n * 10 + d, ?_, hnd, ?_⟩, by omega⟩
           · simp [wi64s (show k < 9223372036854775807 by omega)]
           · simp
           · rw [hg]; simp)
    · (repeat (show W _ _ _ _ _ _ _ _; with_reducible apply W_seq)); refine W_ops (by simp [execOps, wantedE, isCall, stepOp, valOp, callOp, calleeE, datumL, datum, opnd, opndL, ofVF, putF, i_geq, i_leq, i_lss, i_gtr, i_eql, i_neq, i_add, i_sub, i_mul, s_eql, s_neq, s_gtr, s_lss, pickSV, noGl, lenE, valOf, ba_size, flat1_not, optE, u9, se9, hlt]; exact rfl) ?_
      show W _ _ _ _ _ _ _ _; (repeat (show W _ _ _ _ _ _ _ _; with_reducible apply W_seq)); refine W_cond (b := false) ?_ ?_ ?_; (focus simp [opnd]); (focus simp); intro _
      apply W_exit
      simp only [inBlock, if_true, andThen]
      have e : l.drop k = [] := List.drop_eq_nil_of_le (by omega)
      rw [e] at hg
      simp only [numGo] at hg
      (repeat (show W _ _ _ _ _ _ _ _; with_reducible apply W_seq)); refine W_ops (by simp [execOps, wantedE, isCall, stepOp, valOp, callOp, calleeE, datumL, datum, opnd, opndL, ofVF, putF, i_geq, i_leq, i_lss, i_gtr, i_eql, i_neq, i_add, i_sub, i_mul, s_eql, s_neq, s_gtr, s_lss, pickSV, noGl, lenE, valOf, ba_size, flat1_not, optE, u9, se9, flat1_int u77 u2]; exact rfl) ?_
      (repeat (show W _ _ _ _ _ _ _ _; with_reducible apply W_seq)); apply W_ret
      refine ⟨by simp, _, rfl, ?_⟩
      simp [resultE, noGl, snapR, snap, snapL, numOf, hg]
  · simp
end Go.Vm
