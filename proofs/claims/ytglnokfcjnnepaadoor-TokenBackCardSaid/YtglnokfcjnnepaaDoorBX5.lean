/- Chapter 5: what is known by hand of some functions, in the printed functions' form. -/
import Derived.Test.YtglnokfcjnnepaaDoorBVmT14
import Derived.Test.YtglnokfcjnnepaaDoorBVmBeq
import Derived.Test.YtglnokfcjnnepaaDoorBVmW
import Derived.Test.YtglnokfcjnnepaaDoorBVmF
import Derived.Lib.Bytealg
import Derived.Laws.Externs
open Go Go.Vm Go.Proofs Go.RowKit
namespace Go.Gen
set_option maxRecDepth 100000
def signsL : List (List UInt8) := [[124, 124], [38, 38], [61, 61], [33, 61], [60, 61], [62, 61], [60, 60], [62, 62], [60], [62], [61], [43], [45], [42], [47], [37], [38], [124], [94], [33], [126], [40], [41], [123], [125], [91], [93], [44], [59]]
def asciiT : List (List D) := [(List.range 256).map fun i => .sc (.int .u8 (if i == 9 || i == 10 || i == 11 || i == 12 || i == 13 || i == 32 then 1 else 0))]
/-- The package variable that is known. -/
def Zt : GTab := fun k => if k == 0 then some (256, asciiT) else none
def O0 : Orc := fun _ _ => none
theorem signs_run : (evalF Tryd.prog Zt O0 300).D 37 [] = some (.sl (signsL.map fun s => [str s])) := yields_eq (by decide +kernel)
def X65 (_ : Nat) (s : List UInt8) (c : Int) : Option Int := some (Lib.countByte s c.toNat.toUInt8 : Nat)
def X71 (_ : Nat) (s : List UInt8) (c : Int) : Option Int := some (Lib.indexByte s c.toNat.toUInt8)
theorem X65_ok (n : Nat) (s : List UInt8) (c o : Int) (h : X65 n s c = some o) : PureX Tryd.prog 65 [str s, .sc (.int .u8 c)] (.sc (.int .i64 o)) := by
  cases h
  intro g vs hcl
  cases hcl with
  | cons _ v _ vs k1 k2 =>
    cases k2 with
    | cons _ u _ us k3 k4 =>
      cases k4; cases k1; cases k3
      refine ⟨_, ?_, .sc _ rfl⟩
      rw [run_callFunc_extern (e := Extern.BytealgCount.count) Tryd.func65 (by kernel_rfl) (by kernel_rfl) (by kernel_rfl) (by kernel_rfl)]
      rw [Lib.run_countString]
      rfl
theorem X71_ok (n : Nat) (s : List UInt8) (c o : Int) (h : X71 n s c = some o) : PureX Tryd.prog 71 [str s, .sc (.int .u8 c)] (.sc (.int .i64 o)) := by
  cases h
  intro g vs hcl
  cases hcl with
  | cons _ v _ vs k1 k2 =>
    cases k2 with
    | cons _ u _ us k3 k4 =>
      cases k4; cases k1; cases k3
      refine ⟨_, ?_, .sc _ rfl⟩
      rw [run_callFunc_extern (e := Extern.BytealgIndexByte.indexByte) Tryd.func71 (by kernel_rfl) (by kernel_rfl) (by kernel_rfl) (by kernel_rfl)]
      rw [Lib.run_indexByteString]
      rfl
def X26 (_ : Nat) (ws : List (List UInt8)) (sep : List UInt8) : Option (List UInt8) :=
  if ws.length ≤ 140737488355328 ∧ (Lib.join ws sep).length ≤ 140737488355328 then some (Lib.join ws sep) else none
theorem X26_ok {Z : GTab} (n : Nat) (ws : List (List UInt8)) (sep o : List UInt8) (h : X26 n ws sep = some o) : PureC Tryd.prog Z 26 [.sl (ws.map fun s => [str s]), str sep] (str o) := by
  unfold X26 at h
  split at h
  · rename_i h1; cases h; exact join_pure ws sep h1.1 h1.2
  · cases h
def X37 (_ : Nat) : Option (List (List UInt8)) := some signsL
theorem X37_ok (n : Nat) (o : List (List UInt8)) (h : X37 n = some o) : PureC Tryd.prog Zt 37 [] (.sl (o.map fun s => [str s])) := by
  cases h
  exact (evalF_ok (by kernel_rfl) (O := O0) ⟨(fun _ _ _ h _ => by cases h), (fun _ _ _ h _ => by cases h)⟩ 300).D 37 [] _ signs_run (by kernel_rfl)
end Go.Gen
