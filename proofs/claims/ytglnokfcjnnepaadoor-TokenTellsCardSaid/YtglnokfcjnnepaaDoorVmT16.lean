/- Chapter 5: what is proved of the functions, step by step; the law. -/
import Derived.Test.YtglnokfcjnnepaaDoorVmT15
open Go Go.Vm Go.Proofs Go.RowKit
namespace Go.Vm
set_option maxRecDepth 100000
set_option linter.unusedSimpArgs false

theorem hm0 : Tryd.prog.follows .mixedOrders = true := by kernel_rfl
def bodyB (P : Program) (f : FuncId) : Bool := (P.funcs[f]?).any fun fn => fn.body.isSome && fn.name != "runtime.NumGoroutine"

/-- One function more. -/
def addO (f : FuncId) (s : List D → Option D) (O : Orc) : Orc := fun f' ds => bif f' == f then s ds else O f' ds
theorem addO_ok {P : Program} {Z : GTab} {f : FuncId} {s : List D → Option D} {O : Orc} (hO : OrcOk P Z O) (hb : bodyB P f = true) (hs : ∀ ds r, s ds = some r → PureC P Z f ds r) : OrcOk P Z (addO f s O) := by
  constructor
  · intro f' ds r h hb'
    unfold addO at h
    cases he : f' == f with
    | true =>
      rw [he] at h
      obtain rfl : f' = f := by simpa using he
      exact hs ds r h
    | false =>
      rw [he] at h
      exact hO.C f' ds r h hb'
  · intro f' ds r h hb'
    unfold addO at h
    cases he : f' == f with
    | true =>
      obtain rfl : f' = f := by simpa using he
      unfold bodyB at hb
      rw [hb] at hb'
      cases hb'
    | false =>
      rw [he] at h
      exact hO.X f' ds r h hb'
theorem none_ok (P : Program) (Z : GTab) : OrcOk P Z (fun _ _ => none) := ⟨(fun _ _ _ h _ => by cases h), (fun _ _ _ h _ => by cases h)⟩

noncomputable abbrev ev (O : Orc) : Env := evalF Tryd.prog Zt O 0
theorem ev_ok {O : Orc} (h : OrcOk Tryd.prog Zt O) : EnvOk Tryd.prog Zt (ev O) := evalF_ok hm0 h 0

theorem run_ev {E : Env} {Z : GTab} (hm : Tryd.prog.follows .mixedOrders = true) (hE : EnvOk Tryd.prog Z E) (f : FuncId) (p : UInt8 → Bool) (l : List UInt8) (hl : l.length < 2 ^ 62)
    (hb : ((Tryd.prog.funcs[f]?).any fun fn => fn.body.isSome && fn.name != "runtime.NumGoroutine") = true)
    (hp : ∀ c ∈ l, E.D f [.sc (.int .u8 c.toNat)] = some (tb (p c))) : PureC Tryd.prog Z 33 [str l, .fn f [] []] (str (l.takeWhile p)) := by
  refine pure_of_W hE hm fn33 rfl (l.length + 1) ?_
  simp only [Tryd.f33, List.map, List.length, List.cons_append, List.nil_append, List.replicate]
  apply W_seq
  refine W_ops (by simp [execOps, wantedE, isCall, stepOp, valOp, opnd, ofVF, putF]; exact rfl) ?_
  apply W_seq
  refine W_ops (by simp [execOps, wantedE, isCall, stepOp, valOp, opnd, ofVF, putF]; exact rfl) ?_
  refine W_then (fun fr σ => σ = [] ∧ fr.length = 22 ∧ fr.getD 0 (.d (.tup [])) = .d (str l) ∧ ∃ k : Nat, fr.getD 5 (.d (.tup [])) = .d (i64 k) ∧ k ≤ l.length ∧ l.takeWhile p = l.take k) ?_ ?_
  · apply W_block
    apply W_loop (α := Nat) (fun k fr σ => σ = [] ∧ fr.length = 22 ∧ fr.getD 0 (.d (.tup [])) = .d (str l) ∧ fr.getD 1 (.d (.tup [])) = .d (.fn f [] []) ∧ fr.getD 5 (.d (.tup [])) = .d (i64 k) ∧ k ≤ l.length ∧ l.takeWhile p = l.take k ++ (l.drop k).takeWhile p) (fun k => l.length - k) (a := 0)
    · simp
    · rintro k fr σ ⟨rfl, hlen, h0, h1, h5, hk, hall⟩
      rw [fr_explicit fr 22 hlen]
      simp only [List.range, List.range.loop, List.map, h0, h1, h5]
      apply W_seq
      apply W_seq
      by_cases hlt : k < l.length
      · have hg : l[k]? = some l[k] := List.getElem?_eq_getElem hlt
        refine W_ops (by simp [execOps, wantedE, isCall, stepOp, valOp, callOp, calleeE, datumL, datum, opnd, opndL, ofVF, putF, i_lss, i_add, pickSV, noGl, lenE, se9, u9, valOf, idx_str u9 hg, hlt, hp _ (List.getElem_mem hlt), hb, ba_size]; exact rfl) ?_
        have hd : l.drop k = l[k] :: l.drop (k + 1) := List.drop_eq_getElem_cons hlt
        refine W_cond (b := p l[k]) (by simp [opnd]) ?_ ?_
        · intro hpk
          apply W_skip
          apply W_block
          refine W_ops (by simp [execOps, wantedE, isCall, stepOp, valOp, opnd, ofVF, putF, i_lss, i_add]; exact rfl) ?_
          refine ⟨k + 1, ⟨rfl, rfl, rfl, rfl, ?_, hlt, ?_⟩, by omega⟩
          · simp [wi64s (show k < 9223372036854775807 by omega)]
          · have ht : l.take (k + 1) = l.take k ++ [l[k]] := by rw [List.take_add_one, hg]; rfl
            rw [hall, hd, List.takeWhile_cons_of_pos hpk, ht, List.append_assoc]; rfl
        · intro hpk
          apply W_exit
          refine ⟨rfl, rfl, rfl, k, rfl, hk, ?_⟩
          rw [hall, hd, List.takeWhile_cons_of_neg (by simp [hpk])]; simp
      · refine W_ops (by simp [execOps, wantedE, isCall, stepOp, valOp, opnd, opndL, ofVF, putF, i_lss, i_add, pickSV, noGl, lenE, se9, u9, valOf, hlt, ba_size]; exact rfl) ?_
        refine W_cond (b := false) (by simp [opnd]) (by simp) ?_
        intro _
        apply W_exit
        refine ⟨rfl, rfl, rfl, k, rfl, hk, ?_⟩
        rw [hall, List.drop_eq_nil_of_le (by omega)]; simp
    · simp
  · rintro fr σ ⟨rfl, hlen, h0, k, h5, hk, hall⟩
    rw [fr_explicit fr 22 hlen]
    simp only [List.range, List.range.loop, List.map, h0, h5]
    apply W_seq
    refine W_ops (by simp [execOps, wantedE, isCall, stepOp, valOp, opnd, optE, ofVF, putF, u9, valOf, slice_str_to u9 hk]; exact rfl) ?_
    apply W_ret
    refine ⟨by simp, _, rfl, ?_⟩
    simp [resultE, noGl, snapR, snap, hall]

/-! Specifications by what is handed over. -/
def sU8 (F : UInt8 → D) : List D → Option D
  | [.sc (.int .u8 n)] => if n = ((UInt8.ofNat n.toNat).toNat : Int) then some (F (UInt8.ofNat n.toNat)) else none
  | _ => none
theorem sU8_at (F : UInt8 → D) (c : UInt8) : sU8 F [u8 c] = some (F c) := by simp [sU8]
theorem sU8_of {F : UInt8 → D} {ds : List D} {r : D} (h : sU8 F ds = some r) : ∃ c, ds = [u8 c] ∧ r = F c := by
  unfold sU8 at h
  split at h
  · rename_i n
    split at h
    · rename_i hn
      simp only [Option.some.injEq] at h
      refine ⟨UInt8.ofNat n.toNat, ?_, h.symm⟩
      show [D.sc (.int .u8 n)] = [D.sc (.int .u8 ((UInt8.ofNat n.toNat).toNat : Int))]
      rw [← hn]
    · cases h
  · cases h
def sStr (F : List UInt8 → Option D) : List D → Option D
  | [.sc (.string ⟨⟨l⟩⟩)] => F l
  | _ => none
theorem sStr_of {F : List UInt8 → Option D} {ds : List D} {r : D} (h : sStr F ds = some r) : ∃ l, ds = [str l] ∧ F l = some r := by
  unfold sStr at h
  split at h
  · rename_i l; exact ⟨l, rfl, h⟩
  · cases h
def sStr2 (F : List UInt8 → List UInt8 → Option D) : List D → Option D
  | [.sc (.string ⟨⟨l⟩⟩), .sc (.string ⟨⟨m⟩⟩)] => F l m
  | _ => none
theorem sStr2_of {F : List UInt8 → List UInt8 → Option D} {ds : List D} {r : D} (h : sStr2 F ds = some r) : ∃ l m, ds = [str l, str m] ∧ F l m = some r := by
  unfold sStr2 at h
  split at h
  · rename_i l m; exact ⟨l, m, rfl, h⟩
  · cases h
def sTok (F : Tok → Option D) : List D → Option D
  | [.agg [.sc (.int .i64 k), .sc (.string ⟨⟨t⟩⟩), .sc (.int .i64 n), .sc (.int .i64 a), .sc (.int .i64 b)]] => F ⟨k, t, n, a, b⟩
  | _ => none
theorem sTok_of {F : Tok → Option D} {ds : List D} {r : D} (h : sTok F ds = some r) : ∃ x : Tok, ds = [tokD x.k x.t x.n x.a x.b] ∧ F x = some r := by
  unfold sTok at h
  split at h
  · rename_i k t n a b; exact ⟨⟨k, t, n, a, b⟩, rfl, h⟩
  · cases h
def sTok2 (F : Tok → Tok → Option D) : List D → Option D
  | [.agg [.sc (.int .i64 k), .sc (.string ⟨⟨t⟩⟩), .sc (.int .i64 n), .sc (.int .i64 a), .sc (.int .i64 b)], .agg [.sc (.int .i64 k'), .sc (.string ⟨⟨t'⟩⟩), .sc (.int .i64 n'), .sc (.int .i64 a'), .sc (.int .i64 b')]] => F ⟨k, t, n, a, b⟩ ⟨k', t', n', a', b'⟩
  | _ => none
theorem sTok2_of {F : Tok → Tok → Option D} {ds : List D} {r : D} (h : sTok2 F ds = some r) : ∃ x y : Tok, ds = [tokD x.k x.t x.n x.a x.b, tokD y.k y.t y.n y.a y.b] ∧ F x y = some r := by
  unfold sTok2 at h
  split at h
  · rename_i k t n a b k' t' n' a' b'; exact ⟨⟨k, t, n, a, b⟩, ⟨k', t', n', a', b'⟩, rfl, h⟩
  · cases h
def decRow : List D → Option Tok
  | [.sc (.int .i64 k), .sc (.string ⟨⟨t⟩⟩), .sc (.int .i64 n), .sc (.int .i64 a), .sc (.int .i64 b)] => some ⟨k, t, n, a, b⟩
  | _ => none
def decRows : List (List D) → Option (List Tok)
  | [] => some []
  | r :: l => match decRow r, decRows l with
    | some x, some xs => some (x :: xs)
    | _, _ => none
theorem decRow_of {r : List D} {x : Tok} (h : decRow r = some x) : r = x.row := by
  unfold decRow at h
  split at h
  · simp only [Option.some.injEq] at h; subst h; rfl
  · cases h
theorem decRows_of : ∀ {l : List (List D)} {L : List Tok}, decRows l = some L → l = L.map Tok.row
  | [], L, h => by simp only [decRows, Option.some.injEq] at h; subst h; rfl
  | r :: l, L, h => by
    simp only [decRows] at h
    split at h
    · rename_i x xs h1 h2
      simp only [Option.some.injEq] at h
      subst h
      rw [decRow_of h1, decRows_of h2]; rfl
    · cases h
theorem decRows_at : ∀ L : List Tok, decRows (L.map Tok.row) = some L
  | [] => rfl
  | x :: L => by
    have h : decRow x.row = some x := rfl
    simp only [List.map_cons, decRows, h, decRows_at L]
def sToks (F : List Tok → Option D) : List D → Option D
  | [.sl rows] => (decRows rows).bind F
  | _ => none
theorem sToks_at (F : List Tok → Option D) (L : List Tok) : sToks F [toksD L] = F L := by
  simp only [sToks, toksD, decRows_at, Option.bind_some]
theorem sToks_of {F : List Tok → Option D} {ds : List D} {r : D} (h : sToks F ds = some r) : ∃ L, ds = [toksD L] ∧ F L = some r := by
  unfold sToks at h
  split at h
  · obtain ⟨L, h1, h2⟩ := Option.bind_eq_some_iff.1 h
    exact ⟨L, by rw [decRows_of h1]; rfl, h2⟩
  · cases h
end Go.Vm
