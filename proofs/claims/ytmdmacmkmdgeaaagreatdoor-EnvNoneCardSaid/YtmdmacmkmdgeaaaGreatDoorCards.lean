/-
  DERIVED. GIVEN WITH THE SEED: THE CARDS: each row of YtmdmacmkmdgeaaaGreatDoorRows.lean that lists a variable, with what it lists TIED to the program's text (the seventh form; the later family's looks); each row that meets fmt, with fmt's text TOLD by the authors' own Lean function (tested against real Go, not proved from fmt's source: count such statements apart). THE CARD IS WHAT COUNTS. Prove the row's statement (the work); the ties are given (YtmdmacmkmdgeaaaGreatDoorTie.lean); close each card by the builder's one call (the guide's Derived/Test/ToyasCard.lean, 'card_holds'). Laid BY PROGRAM, IN A SANDBOX (cutbox-door.mjs). By AI agents, Wed Nov 11 2026. No macro, syntax, notation, axiom, sorry.
-/
import Derived.Test.YtmdmacmkmdgeaaaGreatDoorRows
import GoSem.ClaimSeven
namespace Go.Proofs.YtmdmacmkmdgeaaaGreatDoor
namespace Rows

/-- THE TIED CARD OF 'sieveholeslaw15.EnvNone'. -/
def envNoneCard : Claim7 := { stood := { row := envNoneRow, standIns := [], harness := (true, "52c605790476b51d7fabf65c762e6dd9a00681b95d08ef2e200d4594e2aa65b3"), looks := false }, kinds := [], alts := [], laidByText := true, laidKinds := [.listed, .data], laidTests := true, laidLooks := .later }
def EnvNoneCardSaid : Prop := Claim7.holds Tryz.pinned (.plain (OpenSpec.ofChange envNoneSpec)) envNoneCard

/-- THE SECOND FORM's CARD OF 'sieveholeslaw15.EnvNone'. -/
def envNoneUptoCard : Claim7 := { stood := { row := envNoneUptoRow, standIns := [], harness := (true, "52c605790476b51d7fabf65c762e6dd9a00681b95d08ef2e200d4594e2aa65b3"), looks := false }, kinds := [], alts := [], laidByText := true, laidKinds := [.listed, .data], laidTests := true, laidLooks := .later }
def EnvNoneUptoCardSaid : Prop := Claim7.holds Tryz.pinned (.plain (OpenSpec.upto envNoneSpec)) envNoneUptoCard
end Rows
end Go.Proofs.YtmdmacmkmdgeaaaGreatDoor
