/- TokenBack answers true of every text and all tokens, and leaves what it is handed. (Its two listed package variables hold what the program's text lays.) -/
import Derived.Test.YtglnokfcjnnepaaDoorCards
import Derived.Test.YtglnokfcjnnepaaDoorTie
import Derived.Test.YtglnokfcjnnepaaDoorBP5f
import Derived.Test.YtglnokfcjnnepaaDoorBVmRead
import Derived.ProofKit
import Derived.Deep.DeepHandedRow
import Derived.Deep.DeepWitnessRowRef
import Derived.Lay
import Derived.Lib.LaidTab
import Derived.Lib.LaidU8
namespace Go.Proofs.YtglnokfcjnnepaaDoor
open Go.ChangeShapes Go.WideShapes Go.ChangeAt Go.RowKit Go.Vm Go.Gen

theorem own : ownKnob Tryd.prog.godebug = none := by kernel_rfl

def wargs4 : Array Value := #[.string ⟨#[]⟩, .slice none 0 0]

theorem laid_met4 (os : Os) : laidMet Tryd.prog Rows.tokenBackRow.laid ((World.laidAll Tryd.prog os Rows.tokenBackRow.laid).forCall (fun _ _ => 0) ⟨#[], wargs4, []⟩).memory :=
  laidMet_laidAll wargs4 (by kernel_rfl) (by kernel_rfl)

theorem witness4 (os : Os) {H : Type} (enc : TypeId × Value → H) :
    (OpenSpec.ofChange Rows.tokenBackSpec).preRow enc Tryd.prog Tryd.f4 Rows.tokenBackRow.domain false Rows.tokenBackRow.laid ((World.laidAll Tryd.prog os Rows.tokenBackRow.laid).forCall (fun _ _ => 0) ⟨#[], wargs4, []⟩).memory wargs4 := by
  have hw : (DataW.whole enc Tryd.prog ((World.laidAll Tryd.prog os Rows.tokenBackRow.laid).forCall (fun _ _ => 0) ⟨#[], wargs4, []⟩).memory Tryd.f4.params.toList Rows.tokenBackSpec.vars false wargs4.toList 8).map (fun x => (x.1, x.2.1)) =
      some ([.lit (.string []), .nil], []) := by kernel_rfl
  obtain ⟨⟨x1, x2, x3⟩, hx, hx1⟩ := Option.map_eq_some_iff.1 hw
  simp only [Prod.mk.injEq] at hx1
  obtain ⟨rfl, rfl⟩ := hx1
  exact OpenSpec.preRow_of_cond 8 hx (by kernel_rfl) (fun k hk => by cases hk) (by kernel_rfl) (laid_met4 os)

/-! The package variable that is read. -/
theorem gSpace : Tryd.prog.globalNamed "strings.asciiSpace" = some 0 := by kernel_rfl
theorem gSpaceType : (Tryd.prog.globals[0]?).map (·.type) = some 99 := by kernel_rfl
def spaceTab : List Int := (List.range 256).map fun i => if i == 9 || i == 10 || i == 11 || i == 12 || i == 13 || i == 32 then 1 else 0
theorem laid_is : Rows.tokenBackRow.laid = [("unicode.White_Space", Rows.laid_unicode_White_Space), ("strings.asciiSpace", Lib.tabData .u8 spaceTab)] := by kernel_rfl
theorem space_tab {W : World} (h : laidMetH Tryd.prog Rows.tokenBackRow.laid W) : Lib.TabIs Tryd.prog W "strings.asciiSpace" .u8 spaceTab := by
  have h0 : laidMet Tryd.prog Rows.tokenBackRow.laid W := h
  rw [laid_is] at h0
  obtain ⟨g', t', cs, fuel, p, hg', ht', hvar, hd⟩ := Lib.laidMet.reads h0 (.tail _ (.head _))
  obtain rfl := Option.some.inj (gSpace.symm.trans hg')
  obtain rfl := Option.some.inj (gSpaceType.symm.trans ht')
  unfold Lib.TabIs
  rw [hvar, ← Lib.cells_of_tab Tryd.underlying99 Tryd.underlying5 (by kernel_rfl) (by kernel_rfl) hd]
theorem crc_of {W : World} {f : Nat → D} (h : ∀ j, j < 256 → ∃ v, W.cell? ⟨0, j, none⟩ = some v ∧ v.oneCell' = true ∧ CR (gAll W) (f j) v) : ∀ (m k : Nat), k + m ≤ 256 → CRC (gAll W) 0 k ((List.range' k m).map f)
  | 0, k, _ => .nil _ _
  | m + 1, k, hk => by
    obtain ⟨v, h1, h2, h3⟩ := h k (by omega)
    rw [List.range'_succ, List.map_cons]
    exact .cons _ _ _ v _ h1 (cell_lt h1) h2 h3 (crc_of h m (k + 1) (by omega))
theorem gok {W : World} (h : laidMetH Tryd.prog Rows.tokenBackRow.laid W) : GOk Zt (gAll W) := by
  intro k sz rows hk
  unfold Zt at hk
  split at hk
  · rename_i h0
    obtain rfl : k = 0 := by simpa using h0
    simp only [Option.some.injEq, Prod.mk.injEq] at hk
    obtain ⟨rfl, rfl⟩ := hk
    refine .cons _ _ _ _ _ (by simp) ?_ (.nil _ _ _)
    rw [List.range_eq_range']
    refine crc_of (fun j hj => ?_) 256 0 (by omega)
    have hc := (space_tab h).cell gSpace j (by simpa [spaceTab] using hj)
    refine ⟨_, hc, rfl, ?_⟩
    have e : spaceTab.getD j 0 = if j == 9 || j == 10 || j == 11 || j == 12 || j == 13 || j == 32 then 1 else 0 := by
      simp [spaceTab, List.getD, hj]
    rw [e]
    exact .sc _ rfl
  · cases hk

/-! The arguments. -/
set_option maxRecDepth 100000 in
theorem tok_of : ∀ {n : Nat} {r : List D}, HasT Tryd.prog n 27 r → ∃ x : S27, r = row27 x
  | 0, _, h => by simp [HasT] at h
  | n + 1, r, h => by
    simp only [HasT, Tryd.underlying27] at h
    obtain ⟨hl, h⟩ := h
    have h5 : Tryd.prog.cellsOf 27 = 5 := by kernel_rfl
    rw [h5] at hl
    match r, hl with
    | [a, b, c, d, e], _ =>
      have f0 := h _ (.head _)
      have f1 := h _ (.tail _ (.head _))
      have f2 := h _ (.tail _ (.tail _ (.head _)))
      have f3 := h _ (.tail _ (.tail _ (.tail _ (.head _))))
      have c23 : Tryd.prog.cellsOf 23 = 1 := by kernel_rfl
      have c9 : Tryd.prog.cellsOf 9 = 1 := by kernel_rfl
      have c2 : Tryd.prog.cellsOf 2 = 1 := by kernel_rfl
      have c25 : Tryd.prog.cellsOf 25 = 2 := by kernel_rfl
      have c3 : Tryd.prog.cellsOf 3 = 1 := by kernel_rfl
      simp only [c23, c9, c2, c25, List.drop_succ_cons, List.drop_zero, List.take_succ_cons, List.take_zero] at f0 f1 f2 f3
      cases n with
      | zero => simp [HasT] at f0
      | succ n =>
        simp only [HasT, Tryd.underlying23, Tryd.underlying9, Tryd.underlying2, Tryd.underlying25] at f0 f1 f2 f3
        obtain ⟨k, f0, _⟩ := f0
        obtain ⟨t, f1, _⟩ := f1
        obtain ⟨m, f2, _⟩ := f2
        obtain ⟨_, f3⟩ := f3
        have g0 := f3 _ (.head _)
        have g1 := f3 _ (.tail _ (.head _))
        simp only [c3, List.drop_succ_cons, List.drop_zero, List.take_succ_cons, List.take_zero] at g0 g1
        cases n with
        | zero => simp [HasT] at g0
        | succ n =>
          simp only [HasT, Tryd.underlying3] at g0 g1
          obtain ⟨i, g0, _⟩ := g0
          obtain ⟨j, g1, _⟩ := g1
          simp only [List.cons.injEq, and_true] at f0 f1 f2 g0 g1
          subst f0 f1 f2 g0 g1
          exact ⟨⟨k, t, m, ⟨i, j⟩⟩, rfl⟩
theorem toks_of {n : Nat} : ∀ {rows : List (List D)}, (∀ r ∈ rows, HasT Tryd.prog n 27 r) → ∃ L : List S27, rows = L.map row27
  | [], _ => ⟨[], rfl⟩
  | r :: rows, h => by
    obtain ⟨x, hx⟩ := tok_of (h r (by simp))
    obtain ⟨L, hL⟩ := toks_of (rows := rows) fun s hs => h s (by simp [hs])
    exact ⟨x :: L, by rw [hx, hL]; rfl⟩
theorem back_pure (t : List UInt8) (L : List S27) : PureC Tryd.prog Zt 4 [str t, .sl (L.map row27)] (tb true) := F4_ok 5000 t L true (F4_true t L)
set_option maxRecDepth 100000 in
theorem main4 (xs : List D) (h : HasVs Tryd.prog Tryd.f4.params.toList xs) : PureC Tryd.prog Zt 4 xs (tb true) := by
  rw [Tryd.params4] at h
  obtain ⟨n0, x0, xs0, rfl, h0, n1, x1, xs1, rfl, h1, rfl⟩ := h
  simp only [HasV, Tryd.underlying9, Tryd.underlying22] at h0 h1
  cases n0 with
  | zero => simp [HasT] at h0
  | succ n0 =>
    simp only [HasT, Tryd.underlying9] at h0
    obtain ⟨t, h0, _⟩ := h0
    simp only [List.cons.injEq, and_true] at h0
    subst h0
    cases n1 with
    | zero => simp [HasT] at h1
    | succ n =>
      simp only [HasT, Tryd.underlying22] at h1
      rcases h1 with h1 | ⟨rows, h1, _, h1'⟩
      · simp only [List.cons.injEq, and_true] at h1
        subst h1
        exact pure_wk (back_pure t []) ⟨Wk.refl _, Wk.nil, trivial⟩
      · simp only [List.cons.injEq, and_true] at h1
        subst h1
        obtain ⟨L, rfl⟩ := toks_of fun r hr => (h1' r hr).2
        exact back_pure t L

set_option maxRecDepth 100000 in
theorem lifted4 (os : Os) (started : os.Started) (H : Type) (enc : TypeId × Value → H) (F : Stop.Interp) :
    ReturnsInHanded {} Tryd.checked os 4 .any ((OpenSpec.ofChange Rows.tokenBackSpec).preRow enc Tryd.prog Tryd.f4 Rows.tokenBackRow.domain false Rows.tokenBackRow.laid) (((OpenSpec.ofChange Rows.tokenBackSpec).at F).post enc Tryd.prog Tryd.f4 false true false false) := by
  refine returnsInHanded_of_row (C := Tryd.checked) (s := OpenSpec.ofChange Rows.tokenBackSpec) own started (by kernel_rfl) Tryd.func4
    (witness_row_atRef (enc := enc) (C := Tryd.checked) false (World.laidAll Tryd.prog os Rows.tokenBackRow.laid) wargs4 (World.laidAll_os _ _ _) (by kernel_rfl) (by kernel_rfl) (by kernel_rfl) (witness4 os enc)) ?_
  intro W base args ds gs before hval hW _ _ _ hL _ _
  have hds : Rows.tokenBackSpec.fn H ds = { results := [.lit (.bool true)], args := ds } := by
    obtain ⟨p, q, hA, _⟩ := hW
    obtain ⟨v0, vs0, d0, ds0, p0, q0, _, rfl, _, _, r0⟩ := trodAll_cons hA
    obtain ⟨v1, vs1, d1, ds1, p1, q1, rfl, rfl, _, _, r1⟩ := trodAll_cons r0
    obtain ⟨rfl, rfl, rfl⟩ := trodAll_nil r1
    rfl
  exact contract_of_pure (P := Tryd.prog) (f := 4) (fn := Tryd.f4) (s := Rows.tokenBackSpec) (L := [9, 22, 27, 25, 2, 3, 23]) (by kernel_rfl) (by kernel_rfl) (by kernel_rfl) (tb0 := 4) rfl rfl rfl hds hval hW (gok hL) main4

theorem said4 : Rows.TokenBackSaid :=
  OpenClaim.holds_of_cond 4 Tryd.f4 rfl rfl rfl rfl rfl rfl rfl ⟨rfl, rfl, rfl, rfl, rfl⟩ rfl rfl rfl rfl rfl (by kernel_rfl) Tryd.func4 (by kernel_rfl)
    (of_decide_eq_true (by kernel_rfl)) (by unfold Func.isWrapper; first | (rw [if_pos (by decide +kernel)]; kernel_rfl) | (rw [if_neg (by decide +kernel)]; exact ⟨rfl, rfl⟩))
    (fun os started H enc _ F => by rw [OpenClaim.pre_eq_preRow]; exact lifted4 os started H enc F)

theorem plain4 (f : FuncId) (fn : Func) (hf : Tryd.pinned.checked.prog.funcNamed Rows.tokenBackRow.func = some f) (hfn : Tryd.pinned.checked.prog.funcs[f]? = some fn) :
    false = Tryd.pinned.checked.prog.looks [] ∧ ∀ (j : Nat) t, fn.params[j]? = some t → Tryd.pinned.checked.prog.wantsStandIn t = false := by
  obtain rfl : f = 4 := Option.some.inj ((show Tryd.prog.funcNamed Rows.tokenBackRow.func = some 4 by kernel_rfl).symm.trans hf) |>.symm
  obtain rfl : fn = Tryd.f4 := (Option.some.inj (Tryd.func4.symm.trans hfn)).symm
  refine ⟨by kernel_rfl, fun j t ht => ?_⟩
  have hall : Tryd.f4.params.all (fun t => !Tryd.prog.wantsStandIn t) = true := by kernel_rfl
  have := Array.all_eq_true_iff_forall_mem.1 hall t (Array.mem_of_getElem? ht)
  show Tryd.prog.wantsStandIn t = false
  simpa using this

/-- THE CARD. -/
theorem back_card : Rows.TokenBackCardSaid :=
  Claim7.holds_tied_plain_at .later [] _ _ _ _ said4 (fun _ h => by cases h) (by kernel_rfl) (fun _ h => by cases h) tokenBack_row_tie rfl ⟨rfl, rfl⟩ (by kernel_rfl) rfl plain4 (by kernel_rfl)
#print axioms back_card
end Go.Proofs.YtglnokfcjnnepaaDoor
