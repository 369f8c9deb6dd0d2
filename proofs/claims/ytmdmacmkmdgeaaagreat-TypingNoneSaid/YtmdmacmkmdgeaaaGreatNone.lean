/- TypingNone answers true of every name and node, and leaves what it is handed: by one run at symbols. -/
import Derived.Test.YtmdmacmkmdgeaaaGreatRows
import Derived.Test.YtmdmacmkmdgeaaaGreatNRead
import Derived.ProofKit
import Derived.KernelRfl
namespace Go.Proofs.YtmdmacmkmdgeaaaGreat
open Go.ChangeShapes Go.WideShapes Go.ChangeAt Go.RowKit Go.N

theorem own : ownKnob Tryz.prog.godebug = none := by kernel_rfl

theorem envN_ok : EnvOk Tryz.prog (fun _ => false) (evalG Tryz.prog (fun _ => false) noOrc [58] 1000 60) := evalG_ok (by kernel_rfl) noOrc_ok 60
theorem law_run (b : ByteArray) (n : Int) : isTrue ((evalG Tryz.prog (fun _ => false) noOrc [58] 1000 60).S 3 [.sc (.string b), .sc (.int .i64 n)] (h0 100)) = true := by kernel_rfl
theorem law_calls (b : ByteArray) (n : Int) (W : World) : Calls Tryz.prog 3 #[.string b, .int .i64 n] W fun e W' => e = .returned (.bool true) ∧ Below W.heap.size W W' :=
  calls_of_run envN_ok (by kernel_rfl) (law_run b n) (fun _ => rfl) ⟨_, _, ⟨rfl, rfl⟩, ⟨_, _, ⟨rfl, rfl⟩, rfl, rfl⟩, rfl⟩

set_option maxRecDepth 100000 in
theorem lifted (os : Os) (started : os.Started) (H : Type) (enc : TypeId × Value → H) :
    ReturnsInHanded {} Tryz.checked os 3 .any (Rows.typingNoneSpec.pre6 enc Tryz.prog Tryz.f3 Rows.typingNoneRow.domain false) (Rows.typingNoneSpec.post enc Tryz.prog Tryz.f3 false true false false) := by
  refine returnsInHanded_of_change (C := Tryz.checked) own started (by kernel_rfl) Tryz.func3
    (ChangeSpec.witness6 (enc := enc) (C := Tryz.checked) false ⟨#[], #[.string ⟨#[]⟩, .int .i64 0], []⟩ 8 (by kernel_rfl) (by kernel_rfl) (by kernel_rfl) (by kernel_rfl)) ?_
  intro W base args ds gs before hval0 hW hcnd _
  have hval : ∀ (j : Nat) t v, Tryz.f3.params[j]? = some t → args[j]? = some v → Value.okWide Tryz.prog W .any base t v := hval0
  have hW' := hW
  obtain ⟨p, q, hA0, hV, rfl, hfz, hnd⟩ := hW
  have hA : DataW.TrodAll enc Tryz.prog W 0 (fun _ => true) true Tryz.f3.params.toList args.toList ds p := hA0
  rw [Tryz.params3] at hA hval
  obtain ⟨v0, v1, d0, d1, p0, p1, rfl, rfl, rfl, h0, h1⟩ := trodAll_two hA
  obtain ⟨r, rfl, rfl, _, _⟩ := Go.ChangeMaps.open_string Tryz.underlying9 (hval 0 9 v0 rfl rfl) h0
  obtain ⟨n, rfl, rfl, _, _⟩ := open_int Tryz.underlying3 (hval 1 3 v1 rfl rfl) h1
  exact contract_of_calls (P := Tryz.prog) (f := 3) (fn := Tryz.f3) (s := Rows.typingNoneSpec) (by kernel_rfl) (by kernel_rfl) (tb0 := 4) rfl rfl rfl rfl hW' (law_calls r n W)

theorem none_said : Rows.TypingNoneSaid :=
  OpenClaim.holds_of_wide 3 Tryz.f3 rfl rfl rfl rfl rfl rfl rfl ⟨rfl, rfl, rfl, rfl, rfl⟩ rfl rfl rfl rfl rfl (by kernel_rfl) Tryz.func3 (by kernel_rfl)
    (of_decide_eq_true (by kernel_rfl)) (by unfold Func.isWrapper; first | (rw [if_pos (by decide +kernel)]; kernel_rfl) | (rw [if_neg (by decide +kernel)]; exact ⟨rfl, rfl⟩))
    (fun os started H enc _ => lifted os started H enc)
#print axioms none_said
end Go.Proofs.YtmdmacmkmdgeaaaGreat
