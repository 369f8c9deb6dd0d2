/- Chapter 5: the examples, run. -/
import Derived.Test.YtglnokfcjnnepaaDoorVmT14
import Derived.Test.YtglnokfcjnnepaaDoorVmT13
import Derived.Test.YtglnokfcjnnepaaDoorVmT6
import Derived.Lib.Bytealg
open Go Go.Vm Go.Proofs Go.RowKit
namespace Go.Vm
set_option maxRecDepth 100000
/-- What is known ahead of the examples: two functions without bodies, the signs. -/
def Ow : Orc := fun f ds => match f, ds with
  | 37, [] => some (.sl (signsL.map fun s => [str s]))
  | 65, [.sc (.string s), .sc (.int .u8 c)] => some (i64 (Lib.countByte s.data.toList c.toNat.toUInt8 : Nat))
  | 71, [.sc (.string s), .sc (.int .u8 c)] => some (i64 (Lib.indexByte s.data.toList c.toNat.toUInt8))
  | _, _ => none
theorem works_run : (evalF Tryd.prog Zt Ow 300).D 6 [] = some (tb true) := yields_eq (by decide +kernel)
end Go.Vm
