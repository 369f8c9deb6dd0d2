/- Chapter 5: the functions, one after the other; the law for all tokens. -/
import Derived.Test.YtglnokfcjnnepaaDoorVmT17
import Derived.Laws.Externs
open Go Go.Vm Go.Proofs Go.RowKit
namespace Go.Vm
set_option maxRecDepth 100000

theorem x65 : PureX Tryd.prog 65 = PureX Tryd.prog 65 := rfl
theorem pureX65 (s : ByteArray) (c : Int) : PureX Tryd.prog 65 [.sc (.string s), .sc (.int .u8 c)] (i64 (Lib.countByte s.data.toList c.toNat.toUInt8 : Nat)) := by
  intro g vs hcl
  cases hcl with
  | cons _ v _ vs k1 k2 =>
    cases k2 with
    | cons _ u _ us k3 k4 =>
      cases k4; cases k1; cases k3
      refine ⟨_, ?_, .sc _ rfl⟩
      rw [run_callFunc_extern (e := Extern.BytealgCount.count) Tryd.func65 (by kernel_rfl) (by kernel_rfl) (by kernel_rfl) (by kernel_rfl)]
      rw [Lib.run_countString]
      rfl
theorem pureX71 (s : ByteArray) (c : Int) : PureX Tryd.prog 71 [.sc (.string s), .sc (.int .u8 c)] (i64 (Lib.indexByte s.data.toList c.toNat.toUInt8)) := by
  intro g vs hcl
  cases hcl with
  | cons _ v _ vs k1 k2 =>
    cases k2 with
    | cons _ u _ us k3 k4 =>
      cases k4; cases k1; cases k3
      refine ⟨_, ?_, .sc _ rfl⟩
      rw [run_callFunc_extern (e := Extern.BytealgIndexByte.indexByte) Tryd.func71 (by kernel_rfl) (by kernel_rfl) (by kernel_rfl) (by kernel_rfl)]
      rw [Lib.run_indexByteString]
      rfl
theorem ow_ok (h37 : PureC Tryd.prog Zt 37 [] (.sl (signsL.map fun s => [str s]))) : OrcOk Tryd.prog Zt Ow := by
  constructor
  · intro f ds r h hb
    unfold Ow at h
    split at h
    · simp only [Option.some.injEq] at h; subst h; exact h37
    · have : bodyB Tryd.prog 65 = false := by kernel_rfl
      unfold bodyB at this; rw [this] at hb; cases hb
    · have : bodyB Tryd.prog 71 = false := by kernel_rfl
      unfold bodyB at this; rw [this] at hb; cases hb
    · cases h
  · intro f ds r h hb
    unfold Ow at h
    split at h
    · have : bodyB Tryd.prog 37 = true := by kernel_rfl
      unfold bodyB at this; rw [this] at hb; cases hb
    · simp only [Option.some.injEq] at h; subst h; exact pureX65 _ _
    · simp only [Option.some.injEq] at h; subst h; exact pureX71 _ _
    · cases h
theorem signs_pure : PureC Tryd.prog Zt 37 [] (.sl (signsL.map fun s => [str s])) := (evalF_ok hm0 (O := O0) (none_ok _ _) 300).D 37 [] _ signs_run (by kernel_rfl)
theorem works_pure : PureC Tryd.prog Zt 6 [] (tb true) := (evalF_ok hm0 (ow_ok signs_pure) 300).D 6 [] _ works_run (by kernel_rfl)
end Go.Vm
