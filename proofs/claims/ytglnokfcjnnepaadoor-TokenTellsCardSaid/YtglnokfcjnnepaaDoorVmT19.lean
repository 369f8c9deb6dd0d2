/- Chapter 5: the functions, one after the other; the law for all tokens. -/
import Derived.Test.YtglnokfcjnnepaaDoorVmT18
open Go Go.Vm Go.Proofs Go.RowKit
namespace Go.Vm
set_option maxRecDepth 100000

/-! First: bytes, texts. -/
def OA : Orc := addO 32 (sU8 fun c => tb (isDigit c)) <| addO 35 (sU8 fun c => tb (isLetter c)) <| addO 39 (sU8 fun c => tb (isLetter c)) <| addO 40 (sU8 fun c => tb (isDigit c)) <|
  addO 37 (fun ds => match ds with | [] => some (.sl (signsL.map fun s => [str s])) | _ => none) <| addO 51 (sStr2 fun s p => some (tb (pre s p))) <|
  addO 11 (sTok2 fun x y => some (tb (x.k == y.k && x.t == y.t && x.n == y.n))) <| addO 12 (sTok2 fun x y => some (tb (x.k == y.k && x.t == y.t && x.n == y.n))) <|
  addO 25 (fun ds => match ds with | [.agg [.sc (.int .i64 a), .sc (.int .i64 b)]] => some (.agg [i64 a, i64 b]) | _ => none) <|
  addO 24 (sStr fun l => some (tb (isSign l))) <| addO 22 (sStr fun l => if l.length < 2 ^ 62 then some (numRef l) else none) <| addO 34 (sStr fun l => if l.length < 2 ^ 62 ∧ l.all isDigit = true then some (numOf l) else none) <|
  addO 6 (fun ds => match ds with | [] => some (tb true) | _ => none) fun _ _ => none
theorem e0 : EnvOk Tryd.prog Zt (ev fun _ _ => none) := ev_ok (none_ok _ _)
theorem OA_ok : OrcOk Tryd.prog Zt OA := by
  unfold OA
  refine addO_ok ?_ (by kernel_rfl) fun ds r h => by obtain ⟨c, rfl, rfl⟩ := sU8_of h; exact digit_ev hm0 e0 c
  refine addO_ok ?_ (by kernel_rfl) fun ds r h => by obtain ⟨c, rfl, rfl⟩ := sU8_of h; exact letter_ev hm0 e0 c
  refine addO_ok ?_ (by kernel_rfl) fun ds r h => by obtain ⟨c, rfl, rfl⟩ := sU8_of h; exact rletter_ev hm0 e0 c
  refine addO_ok ?_ (by kernel_rfl) fun ds r h => by obtain ⟨c, rfl, rfl⟩ := sU8_of h; exact rdigit_ev hm0 e0 c
  refine addO_ok ?_ (by kernel_rfl) fun ds r h => by
    split at h
    · simp only [Option.some.injEq] at h; subst h; exact signs_pure
    · cases h
  refine addO_ok ?_ (by kernel_rfl) fun ds r h => by
    obtain ⟨s, p, rfl, h2⟩ := sStr2_of h
    simp only [Option.some.injEq] at h2; subst h2; exact hasPrefixI_ev hm0 e0 s p
  refine addO_ok ?_ (by kernel_rfl) fun ds r h => by
    obtain ⟨x, y, rfl, h2⟩ := sTok2_of h
    simp only [Option.some.injEq] at h2; subst h2; exact same_ev hm0 e0 _ _ _ _ _ _ _ _ _ _
  refine addO_ok ?_ (by kernel_rfl) fun ds r h => by
    obtain ⟨x, y, rfl, h2⟩ := sTok2_of h
    simp only [Option.some.injEq] at h2; subst h2; exact rsame_ev hm0 e0 _ _ _ _ _ _ _ _ _ _
  refine addO_ok ?_ (by kernel_rfl) fun ds r h => by
    split at h
    · simp only [Option.some.injEq] at h; subst h; exact at_ev hm0 e0 _ _
    · cases h
  refine addO_ok ?_ (by kernel_rfl) fun ds r h => by
    obtain ⟨l, rfl, h2⟩ := sStr_of h
    simp only [Option.some.injEq] at h2; subst h2; exact isSign_ev hm0 e0 l
  refine addO_ok ?_ (by kernel_rfl) fun ds r h => by
    obtain ⟨l, rfl, h2⟩ := sStr_of h
    split at h2
    · simp only [Option.some.injEq] at h2; subst h2; exact numRef_ev hm0 e0 l (by assumption)
    · cases h2
  refine addO_ok ?_ (by kernel_rfl) fun ds r h => by
    obtain ⟨l, rfl, h2⟩ := sStr_of h
    split at h2
    · rename_i hh
      simp only [Option.some.injEq] at h2; subst h2; exact number_ev hm0 e0 l hh.1 (List.all_eq_true.1 hh.2)
    · cases h2
  refine addO_ok (none_ok _ _) (by kernel_rfl) fun ds r h => by
    split at h
    · simp only [Option.some.injEq] at h; subst h; exact works_pure
    · cases h
theorem eA : EnvOk Tryd.prog Zt (ev OA) := ev_ok OA_ok
theorem a32 (c : UInt8) : (ev OA).D 32 [u8 c] = some (tb (isDigit c)) := sU8_at (fun c => tb (isDigit c)) c
theorem a35 (c : UInt8) : (ev OA).D 35 [u8 c] = some (tb (isLetter c)) := sU8_at (fun c => tb (isLetter c)) c
theorem a39 (c : UInt8) : (ev OA).D 39 [u8 c] = some (tb (isLetter c)) := sU8_at (fun c => tb (isLetter c)) c
theorem a40 (c : UInt8) : (ev OA).D 40 [u8 c] = some (tb (isDigit c)) := sU8_at (fun c => tb (isDigit c)) c

/-! Then: the texts' tests. -/
def OB : Orc := addO 36 (sU8 fun c => tb (isLetter c || isDigit c)) <| addO 38 (sStr2 fun s p => some (tb (pre s p))) <|
  addO 21 (sStr fun l => if l.length < 2 ^ 62 then some (tb (isWord l)) else none) <| addO 23 (sStr fun l => if l.length < 2 ^ 62 then some (tb (isInt l)) else none) <|
  addO 10 (sTok fun x => some (tokD x.k x.t x.n x.a x.b)) OA
theorem OB_ok : OrcOk Tryd.prog Zt OB := by
  unfold OB
  refine addO_ok ?_ (by kernel_rfl) fun ds r h => by obtain ⟨c, rfl, rfl⟩ := sU8_of h; exact wordByte_ev hm0 eA c (a35 c) (a32 c)
  refine addO_ok ?_ (by kernel_rfl) fun ds r h => by
    obtain ⟨s, p, rfl, h2⟩ := sStr2_of h
    simp only [Option.some.injEq] at h2; subst h2; exact hasPrefix_ev hm0 eA s p rfl
  refine addO_ok ?_ (by kernel_rfl) fun ds r h => by
    obtain ⟨l, rfl, h2⟩ := sStr_of h
    split at h2
    · simp only [Option.some.injEq] at h2; subst h2; exact isWord_ev hm0 eA l (by assumption) a39 a40
    · cases h2
  refine addO_ok ?_ (by kernel_rfl) fun ds r h => by
    obtain ⟨l, rfl, h2⟩ := sStr_of h
    split at h2
    · simp only [Option.some.injEq] at h2; subst h2; exact isInt_ev hm0 eA l (by assumption) a40
    · cases h2
  refine addO_ok OA_ok (by kernel_rfl) fun ds r h => by
    obtain ⟨x, rfl, h2⟩ := sTok_of h
    simp only [Option.some.injEq] at h2; subst h2; exact ref_ev hm0 eA _ _ _ _ _ fun a b => rfl
theorem eB : EnvOk Tryd.prog Zt (ev OB) := ev_ok OB_ok
theorem b32' (c : UInt8) : (ev OB).D 32 [u8 c] = some (tb (isDigit c)) := sU8_at (fun c => tb (isDigit c)) c
theorem b35' (c : UInt8) : (ev OB).D 35 [u8 c] = some (tb (isLetter c)) := sU8_at (fun c => tb (isLetter c)) c
theorem b36' (c : UInt8) : (ev OB).D 36 [u8 c] = some (tb (isLetter c || isDigit c)) := sU8_at (fun c => tb (isLetter c || isDigit c)) c
theorem b10' (k : Int) (t : List UInt8) (n a b : Int) : (ev OB).D 10 [tokD k t n a b] = some (tokD k t n a b) := rfl

def decWords : List (List D) → Option (List (List UInt8))
  | [] => some []
  | [.sc (.string ⟨⟨s⟩⟩)] :: l => (decWords l).map (s :: ·)
  | _ :: _ => none
theorem decWords_of : ∀ {l : List (List D)} {ws : List (List UInt8)}, decWords l = some ws → l = ws.map fun s => [str s]
  | [], ws, h => by simp only [decWords, Option.some.injEq] at h; subst h; rfl
  | r :: l, ws, h => by
    unfold decWords at h
    split at h
    · rename_i e; cases e
    · rename_i s l' e
      obtain ⟨rfl, rfl⟩ := List.cons.inj e
      obtain ⟨ws', h1, rfl⟩ := Option.map_eq_some_iff.1 h
      rw [decWords_of h1]; rfl
    · cases h
theorem decWords_at : ∀ ws : List (List UInt8), decWords (ws.map fun s => [str s]) = some ws
  | [] => rfl
  | s :: ws => by
    show (decWords (ws.map fun s => [str s])).map (s :: ·) = _
    rw [decWords_at ws]; rfl

/-! Runs of bytes; lists of tokens. -/
def OC : Orc := addO 33 (fun ds => match ds with
    | [.sc (.string ⟨⟨l⟩⟩), .fn f [] []] => if l.length < 2 ^ 62 then (if f = 32 then some (str (l.takeWhile isDigit)) else if f = 36 then some (str (l.takeWhile fun c => isLetter c || isDigit c)) else none) else none
    | _ => none) <|
  addO 9 (sTok fun x => if x.t.length < 2 ^ 62 then some (tb (rightR x.k x.t x.n)) else none) <| addO 7 (sToks fun L => if L.length < 1000000 then some (toksD L) else none) <|
  addO 26 (fun ds => match ds with
    | [.sl rows, .sc (.string ⟨⟨sep⟩⟩)] => (decWords rows).bind fun ws => if ws.length ≤ 140737488355328 ∧ (Lib.join ws sep).length ≤ 140737488355328 then some (str (Lib.join ws sep)) else none
    | _ => none) <|
  addO 14 (sToks fun L => if L.length < 1000000 ∧ joinLen L < 1000000000 then some (str (joinGo false L)) else none) OB
theorem OC_ok : OrcOk Tryd.prog Zt OC := by
  unfold OC
  refine addO_ok ?_ (by kernel_rfl) fun ds r h => by
    split at h
    · rename_i l f
      split at h
      · rename_i hl
        split at h
        · rename_i hf
          subst hf
          simp only [Option.some.injEq] at h; subst h
          exact run_ev hm0 eB 32 isDigit l hl (by kernel_rfl) fun c _ => b32' c
        · split at h
          · rename_i hf
            subst hf
            simp only [Option.some.injEq] at h; subst h
            exact run_ev hm0 eB 36 (fun c => isLetter c || isDigit c) l hl (by kernel_rfl) fun c _ => b36' c
          · cases h
      · cases h
    · cases h
  refine addO_ok ?_ (by kernel_rfl) fun ds r h => by
    obtain ⟨x, rfl, h2⟩ := sTok_of h
    split at h2
    · rename_i hl
      simp only [Option.some.injEq] at h2; subst h2
      exact rright_ev hm0 eB _ _ _ _ _ hl (if_pos hl) (if_pos hl) (if_pos hl) rfl
    · cases h2
  refine addO_ok ?_ (by kernel_rfl) fun ds r h => by
    obtain ⟨L, rfl, h2⟩ := sToks_of h
    split at h2
    · rename_i hl
      simp only [Option.some.injEq] at h2; subst h2
      exact refs_ev hm0 eB L hl b10'
    · cases h2
  refine addO_ok ?_ (by kernel_rfl) fun ds r h => by
    split at h
    · obtain ⟨ws, h1, h2⟩ := Option.bind_eq_some_iff.1 h
      split at h2
      · rename_i hl
        simp only [Option.some.injEq] at h2; subst h2
        rw [decWords_of h1]
        exact join_pure ws _ hl.1 hl.2
      · cases h2
    · cases h
  refine addO_ok OB_ok (by kernel_rfl) fun ds r h => by
    obtain ⟨L, rfl, h2⟩ := sToks_of h
    split at h2
    · rename_i hl
      simp only [Option.some.injEq] at h2; subst h2
      exact rjoin_ev hm0 eB L hl.1 hl.2
    · cases h2
theorem eC : EnvOk Tryd.prog Zt (ev OC) := ev_ok OC_ok
theorem c33 {l : List UInt8} (hl : l.length < 2 ^ 62) : (ev OC).D 33 [str l, .fn 32 [] []] = some (str (l.takeWhile isDigit)) := if_pos hl
theorem c33b {l : List UInt8} (hl : l.length < 2 ^ 62) : (ev OC).D 33 [str l, .fn 36 [] []] = some (str (l.takeWhile fun c => isLetter c || isDigit c)) := if_pos hl
theorem c32 (c : UInt8) : (ev OC).D 32 [u8 c] = some (tb (isDigit c)) := sU8_at (fun c => tb (isDigit c)) c
theorem c35 (c : UInt8) : (ev OC).D 35 [u8 c] = some (tb (isLetter c)) := sU8_at (fun c => tb (isLetter c)) c
theorem c26 {ws : List (List UInt8)} {sep : List UInt8} (h : ws.length ≤ 140737488355328 ∧ (Lib.join ws sep).length ≤ 140737488355328) : (ev OC).D 26 [.sl (ws.map fun s => [str s]), str sep] = some (str (Lib.join ws sep)) := by
  show (decWords (ws.map fun s => [str s])).bind _ = _
  rw [decWords_at]
  exact if_pos h
theorem c10 (k : Int) (t : List UInt8) (n a b : Int) : (ev OC).D 10 [tokD k t n a b] = some (tokD k t n a b) := rfl

/-! The token by which a text begins; joins; lists compared. -/
def decPair : List D → Option (List Tok × List Tok)
  | [.sl rows, .sl rows'] => match decRows rows, decRows rows' with
    | some L, some R => some (L, R)
    | _, _ => none
  | _ => none
theorem decPair_of {ds : List D} {L R : List Tok} (h : decPair ds = some (L, R)) : ds = [toksD L, toksD R] := by
  unfold decPair at h
  split at h
  · split at h
    · rename_i h1 h2
      simp only [Option.some.injEq, Prod.mk.injEq] at h
      obtain ⟨rfl, rfl⟩ := h
      rw [decRows_of h1, decRows_of h2]; rfl
    · cases h
  · cases h
theorem decPair_at (L R : List Tok) : decPair [toksD L, toksD R] = some (L, R) := by
  simp only [decPair, toksD, decRows_at]
def ODd : Orc := addO 20 (sStr fun l => if l ≠ [] ∧ l.length < 2 ^ 62 then some (tokOf l) else none) <|
  addO 13 (sToks fun L => if L.length < 1000000 ∧ joinLen L < 1000000000 then some (str (joinGo false L)) else none) <|
  addO 15 (fun ds => (decPair ds).bind fun p => if p.1.length < 1000000 then some (tb (p.1.length == p.2.length && sameGo p.1 p.2)) else none) OC
theorem ODd_ok : OrcOk Tryd.prog Zt ODd := by
  unfold ODd
  refine addO_ok ?_ (by kernel_rfl) fun ds r h => by
    obtain ⟨l, rfl, h2⟩ := sStr_of h
    split at h2
    · rename_i hl
      simp only [Option.some.injEq] at h2; subst h2
      refine token_ev hm0 eC l hl.1 hl.2 c32 c35 (c33 hl.2) (c33b hl.2) (fun t ht hd => ?_) rfl fun p => rfl
      exact if_pos ⟨Nat.lt_of_le_of_lt ht hl.2, List.all_eq_true.2 hd⟩
    · cases h2
  refine addO_ok ?_ (by kernel_rfl) fun ds r h => by
    obtain ⟨L, rfl, h2⟩ := sToks_of h
    split at h2
    · rename_i hl
      simp only [Option.some.injEq] at h2; subst h2
      refine join_ev hm0 eC L hl.1 _ ?_
      rw [(joinGo_eq L).2]
      refine c26 ⟨?_, ?_⟩
      · have : (wordsOf L).length ≤ L.length := by
          unfold wordsOf
          rw [List.length_map]
          exact List.length_filter_le _ _
        omega
      · rw [← (joinGo_eq L).2]
        have := joinGo_le false L
        omega
    · cases h2
  refine addO_ok OC_ok (by kernel_rfl) fun ds r h => by
    obtain ⟨⟨L, R⟩, h1, h2⟩ := Option.bind_eq_some_iff.1 h
    split at h2
    · rename_i hl
      simp only [Option.some.injEq] at h2; subst h2
      rw [decPair_of h1]
      exact sameL_ev hm0 eC L R hl c10
    · cases h2
theorem eD : EnvOk Tryd.prog Zt (ev ODd) := ev_ok ODd_ok

def OEe : Orc := addO 8 (sTok fun x => if x.t.length < 2 ^ 62 then some (tb (rightR x.k x.t x.n)) else none) ODd
theorem OEe_ok : OrcOk Tryd.prog Zt OEe := by
  unfold OEe
  refine addO_ok ODd_ok (by kernel_rfl) fun ds r h => by
    obtain ⟨x, rfl, h2⟩ := sTok_of h
    split at h2
    · rename_i hl
      simp only [Option.some.injEq] at h2; subst h2
      rw [← right_eq]
      exact right_ev hm0 eD _ _ _ _ _ (fun h0 => if_pos ⟨h0, hl⟩) fun _ _ _ _ _ _ _ _ _ _ => rfl
    · cases h2
theorem eE : EnvOk Tryd.prog Zt (ev OEe) := ev_ok OEe_ok

theorem joinLen_le {L : List Tok} (h : ∀ z ∈ L, z.t.length ≤ 60) : joinLen L ≤ 61 * L.length := by
  induction L with
  | nil => simp [joinLen]
  | cons x L ih =>
    have h1 := h x (by simp)
    have h2 := ih fun z hz => h z (by simp [hz])
    simp only [joinLen, List.length_cons]
    omega

/-- THE LAW FOR ALL TOKENS. -/
theorem tells_pure (L : List Tok) (x y : Tok) : PureC Tryd.prog Zt 3 [toksD L, tokD x.k x.t x.n x.a x.b, tokD y.k y.t y.n y.a y.b] (tb true) := by
  refine tells_ev hm0 eE L x y rfl ?_ ?_ ?_ ?_ ?_ ?_ ?_ ?_ ?_
  · intro h1 _
    show sToks _ [toksD L] = _
    rw [sToks_at]
    exact if_pos (by omega)
  · intro k t n a b; rfl
  · intro z hz; exact if_pos (show z.t.length < 2 ^ 62 by omega)
  · intro z hz; exact if_pos (show z.t.length < 2 ^ 62 by omega)
  · intros; rfl
  · intros; rfl
  · intro h1 h2
    have := joinLen_le h2
    show sToks _ [toksD L] = _
    rw [sToks_at]
    exact if_pos ⟨by omega, by omega⟩
  · intro h1 h2
    have := joinLen_le h2
    show sToks _ [toksD L] = _
    rw [sToks_at]
    exact if_pos ⟨by omega, by omega⟩
  · intro h1
    show (decPair [toksD L, toksD L]).bind _ = _
    rw [decPair_at, Option.bind_some, if_pos (by show L.length < 1000000; omega), sameGo_refl]
    simp
end Go.Vm
