/- Chapter 5: the signs. -/
import Derived.Test.YtglnokfcjnnepaaDoorVmT5
import Derived.Test.YtglnokfcjnnepaaDoorVmBeq
open Go Go.Vm Go.Proofs
namespace Go.Vm
set_option maxRecDepth 100000
set_option linter.unusedSimpArgs false
def asciiT : List (List D) := [(List.range 256).map fun i => .sc (.int .u8 (if i == 9 || i == 10 || i == 11 || i == 12 || i == 13 || i == 32 then 1 else 0))]
def Zt : GTab := fun k => if k == 0 then some (256, asciiT) else none
def O0 : Orc := fun _ _ => none
theorem signs_run : (evalF Tryd.prog Zt O0 300).D 37 [] = some (.sl (signsL.map fun s => [str s])) := yields_eq (by decide +kernel)
end Go.Vm
