/- EnvNone answers true of every call, and leaves what it is handed: by one run at symbols. (Its two listed package variables hold what the program's text lays.) -/
import Derived.Test.YtmdmacmkmdgeaaaGreatDoorCards
import Derived.Test.YtmdmacmkmdgeaaaGreatDoorTie
import Derived.Test.YtmdmacmkmdgeaaaGreatDoorNK7
import Derived.ProofKit
import Derived.KernelRfl
import Derived.Deep.DeepHandedRow
import Derived.Deep.DeepWitnessRowRef
import Derived.Lay
import Derived.Lib.LaidU8
import Derived.Lib.SmallJoins
namespace Go.Proofs.YtmdmacmkmdgeaaaGreatDoor
open Go.ChangeShapes Go.WideShapes Go.ChangeAt Go.RowKit Go.N

theorem own : ownKnob Tryz.prog.godebug = none := by kernel_rfl
set_option maxRecDepth 100000
theorem gSpace : Tryz.prog.globalNamed "strings.asciiSpace" = some 1 := by kernel_rfl
theorem gSpaceType : (Tryz.prog.globals[1]?).map (·.type) = some 188 := by kernel_rfl
theorem orc_ok : OrcOk Tryz.prog (fun j => Nat.beq j 1) (byteO 107 117) :=
  byteO_ok (gc := Tryz.f107) (gi := Tryz.f117) Tryz.func107 (by kernel_rfl) (by kernel_rfl) (by kernel_rfl) (by kernel_rfl) Tryz.func117 (by kernel_rfl) (by kernel_rfl) (by kernel_rfl) (by kernel_rfl)
theorem envN_ok : EnvOk Tryz.prog (fun j => Nat.beq j 1) (evalH Tryz.prog (fun j => Nat.beq j 1) (byteO 107 117) [] 1000 100) := evalH_ok (by kernel_rfl) orc_ok 100
theorem law_run (a b c d : Int) : isTrue ((evalH Tryz.prog (fun j => Nat.beq j 1) (byteO 107 117) [] 1000 100).S 3 [.agg [.sc (.int .i64 a), .sc (.int .i64 b), .sc (.int .i64 c), .sc (.int .i64 d)]] (hTab 100 1 (spaceTab.map fun z => .sc (.int .u8 z)))) = true := by kernel_rfl

def wargs3 : Array Value := #[.agg #[.int .i64 0, .int .i64 0, .int .i64 0, .int .i64 0]]
theorem laid_met3 (os : Os) : laidMet Tryz.prog Rows.envNoneRow.laid ((World.laidAll Tryz.prog os Rows.envNoneRow.laid).forCall (fun _ _ => 0) ⟨#[], wargs3, []⟩).memory :=
  laidMet_laidAll wargs3 (by kernel_rfl) (by kernel_rfl)
theorem witness3 (os : Os) {H : Type} (enc : TypeId × Value → H) :
    (OpenSpec.ofChange Rows.envNoneSpec).preRow enc Tryz.prog Tryz.f3 Rows.envNoneRow.domain false Rows.envNoneRow.laid ((World.laidAll Tryz.prog os Rows.envNoneRow.laid).forCall (fun _ _ => 0) ⟨#[], wargs3, []⟩).memory wargs3 := by
  have hw : (DataW.whole enc Tryz.prog ((World.laidAll Tryz.prog os Rows.envNoneRow.laid).forCall (fun _ _ => 0) ⟨#[], wargs3, []⟩).memory Tryz.f3.params.toList Rows.envNoneSpec.vars false wargs3.toList 8).map (fun x => (x.1, x.2.1)) =
      some ([.agg [.lit (.int .i64 0), .lit (.int .i64 0), .lit (.int .i64 0), .lit (.int .i64 0)]], []) := by kernel_rfl
  obtain ⟨⟨x1, x2, x3⟩, hx, hx1⟩ := Option.map_eq_some_iff.1 hw
  simp only [Prod.mk.injEq] at hx1
  obtain ⟨rfl, rfl⟩ := hx1
  exact OpenSpec.preRow_of_cond 8 hx (by kernel_rfl) (fun k hk => by cases hk) (by kernel_rfl) (laid_met3 os)

theorem laid_is : Rows.envNoneRow.laid = [("unicode.White_Space", Rows.laid_unicode_White_Space), ("strings.asciiSpace", Lib.tabData .u8 spaceTab)] := by kernel_rfl
theorem space_tab {W : World} (h : laidMetH Tryz.prog Rows.envNoneRow.laid W) : Lib.TabIs Tryz.prog W "strings.asciiSpace" .u8 spaceTab := by
  have h0 : laidMet Tryz.prog Rows.envNoneRow.laid W := h
  rw [laid_is] at h0
  obtain ⟨g', t', cs, fuel, p, hg', ht', hvar, hd⟩ := Lib.laidMet.reads h0 (.tail _ (.head _))
  obtain rfl := Option.some.inj (gSpace.symm.trans hg')
  obtain rfl := Option.some.inj (gSpaceType.symm.trans ht')
  unfold Lib.TabIs
  rw [hvar, ← Lib.cells_of_tab Tryz.underlying188 Tryz.underlying5 (by kernel_rfl) (by kernel_rfl) hd]
theorem law_calls (a b c d : Int) {W : World} (h : laidMetH Tryz.prog Rows.envNoneRow.laid W) : Calls Tryz.prog 3 #[.agg #[.int .i64 a, .int .i64 b, .int .i64 c, .int .i64 d]] W fun e W' => e = .returned (.bool true) ∧ Below W.heap.size W W' :=
  calls_of_tab envN_ok (by kernel_rfl) (by decide) (law_run a b c d) gSpace (space_tab h)
    ⟨_, [], ⟨_, ⟨_, _, ⟨rfl, rfl⟩, ⟨_, _, ⟨rfl, rfl⟩, ⟨_, _, ⟨rfl, rfl⟩, ⟨_, _, ⟨rfl, rfl⟩, rfl, rfl⟩, rfl⟩, rfl⟩, rfl⟩, rfl, by intro v hv; simp only [List.mem_cons, List.not_mem_nil, or_false] at hv; rcases hv with rfl | rfl | rfl | rfl <;> rfl⟩, rfl, rfl⟩

set_option maxRecDepth 100000 in
theorem lifted3 (os : Os) (started : os.Started) (H : Type) (enc : TypeId × Value → H) (F : Stop.Interp) :
    ReturnsInHanded {} Tryz.checked os 3 .any ((OpenSpec.ofChange Rows.envNoneSpec).preRow enc Tryz.prog Tryz.f3 Rows.envNoneRow.domain false Rows.envNoneRow.laid) (((OpenSpec.ofChange Rows.envNoneSpec).at F).post enc Tryz.prog Tryz.f3 false true false false) := by
  refine returnsInHanded_of_row (C := Tryz.checked) (s := OpenSpec.ofChange Rows.envNoneSpec) own started (by kernel_rfl) Tryz.func3
    (witness_row_atRef (enc := enc) (C := Tryz.checked) false (World.laidAll Tryz.prog os Rows.envNoneRow.laid) wargs3 (World.laidAll_os _ _ _) (by kernel_rfl) (by kernel_rfl) (by kernel_rfl) (witness3 os enc)) ?_
  intro W base args ds gs before hval0 hW _ _ _ hL _ _
  have hval : ∀ (j : Nat) t v, Tryz.f3.params[j]? = some t → args[j]? = some v → Value.okWide Tryz.prog W .any base t v := hval0
  have hW' := hW
  obtain ⟨p, q, hA0, hV, rfl, hfz, hnd⟩ := hW
  have hA : DataW.TrodAll enc Tryz.prog W 0 (fun _ => true) true Tryz.f3.params.toList args.toList ds p := hA0
  rw [Tryz.params3] at hA hval
  obtain ⟨v0, vs0, d0, ds0, p0, q0, hv0, rfl, rfl, h0, r0⟩ := trodAll_cons hA
  obtain ⟨rfl, rfl, rfl⟩ := trodAll_nil r0
  obtain rfl : args = #[v0] := by apply Array.ext'; rw [hv0]
  obtain ⟨x0, x1, x2, x3, y0, y1, y2, y3, n, rfl, rfl, rfl, z0, z1, z2, z3⟩ := Joins.open_agg4 Tryz.underlying23 (by kernel_rfl) (by kernel_rfl) (hval 0 23 v0 rfl rfl) h0
  obtain ⟨a, ha, _, _⟩ := DataW.trod_int Tryz.underlying3 z0
  obtain ⟨b, hb, _, _⟩ := DataW.trod_int Tryz.underlying3 z1
  obtain ⟨c, hc, _, _⟩ := DataW.trod_int Tryz.underlying2 z2
  obtain ⟨d, hd, _, _⟩ := DataW.trod_int Tryz.underlying2 z3
  simp only [List.cons.injEq, and_true] at ha hb hc hd
  subst ha hb hc hd
  exact contract_of_calls (P := Tryz.prog) (f := 3) (fn := Tryz.f3) (s := Rows.envNoneSpec) (by kernel_rfl) (by kernel_rfl) (tb0 := 4) rfl rfl rfl rfl hW' (law_calls a b c d hL)

theorem said3 : Rows.EnvNoneSaid :=
  OpenClaim.holds_of_cond 3 Tryz.f3 rfl rfl rfl rfl rfl rfl rfl ⟨rfl, rfl, rfl, rfl, rfl⟩ rfl rfl rfl rfl rfl (by kernel_rfl) Tryz.func3 (by kernel_rfl)
    (of_decide_eq_true (by kernel_rfl)) (by unfold Func.isWrapper; first | (rw [if_pos (by decide +kernel)]; kernel_rfl) | (rw [if_neg (by decide +kernel)]; exact ⟨rfl, rfl⟩))
    (fun os started H enc _ F => by rw [OpenClaim.pre_eq_preRow]; exact lifted3 os started H enc F)

theorem plain3 (f : FuncId) (fn : Func) (hf : Tryz.pinned.checked.prog.funcNamed Rows.envNoneRow.func = some f) (hfn : Tryz.pinned.checked.prog.funcs[f]? = some fn) :
    false = Tryz.pinned.checked.prog.looks [] ∧ ∀ (j : Nat) t, fn.params[j]? = some t → Tryz.pinned.checked.prog.wantsStandIn t = false := by
  obtain rfl : f = 3 := Option.some.inj ((show Tryz.prog.funcNamed Rows.envNoneRow.func = some 3 by kernel_rfl).symm.trans hf) |>.symm
  obtain rfl : fn = Tryz.f3 := (Option.some.inj (Tryz.func3.symm.trans hfn)).symm
  refine ⟨by kernel_rfl, fun j t ht => ?_⟩
  have hall : Tryz.f3.params.all (fun t => !Tryz.prog.wantsStandIn t) = true := by kernel_rfl
  have := Array.all_eq_true_iff_forall_mem.1 hall t (Array.mem_of_getElem? ht)
  show Tryz.prog.wantsStandIn t = false
  simpa using this

/-- THE CARD. -/
theorem none_card : Rows.EnvNoneCardSaid :=
  Claim7.holds_tied_plain_at .later [] _ _ _ _ said3 (fun _ h => by cases h) (by kernel_rfl) (fun _ h => by cases h) envNone_row_tie rfl ⟨rfl, rfl⟩ (by kernel_rfl) rfl plain3 (by kernel_rfl)
#print axioms none_card
end Go.Proofs.YtmdmacmkmdgeaaaGreatDoor
