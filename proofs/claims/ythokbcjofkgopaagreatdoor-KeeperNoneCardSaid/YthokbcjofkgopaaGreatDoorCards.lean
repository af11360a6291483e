/-
  DERIVED. GIVEN WITH THE SEED: THE CARDS: each row of YthokbcjofkgopaaGreatDoorRows.lean that lists a variable, with what it lists TIED to the program's text (the seventh form; the later family's looks); each row that meets fmt, with fmt's text TOLD by the authors' own Lean function (tested against real Go, not proved from fmt's source: count such statements apart). THE CARD IS WHAT COUNTS. Prove the row's statement (the work); the ties are given (YthokbcjofkgopaaGreatDoorTie.lean); close each card by the builder's one call (the guide's Derived/Test/ToyasCard.lean, 'card_holds'). Laid BY PROGRAM, IN A SANDBOX (cutbox-door.mjs). By AI agents, Wed Nov 11 2026. No macro, syntax, notation, axiom, sorry.
-/
import Derived.Test.YthokbcjofkgopaaGreatDoorRows
import GoSem.ClaimSeven
namespace Go.Proofs.YthokbcjofkgopaaGreatDoor
namespace Rows

/-- THE TIED CARD OF 'stillagelaw35.KeeperNone'. -/
def keeperNoneCard : Claim7 := { stood := { row := keeperNoneRow, standIns := [], harness := (true, "728c3c8b9fdc8a245d4a2bac93f63014483fa883f899b874b8ad972f7c36b03f"), looks := true }, kinds := [], alts := [], laidByText := true, laidKinds := [.data, .data, .data, .sentinel, .sentinel], laidTests := true, laidLooks := .later }
def KeeperNoneCardSaid : Prop := Claim7.holds Tryz.pinned (.plain (OpenSpec.ofChange keeperNoneSpec)) keeperNoneCard

/-- THE SECOND FORM's CARD OF 'stillagelaw35.KeeperNone'. -/
def keeperNoneUptoCard : Claim7 := { stood := { row := keeperNoneUptoRow, standIns := [], harness := (true, "728c3c8b9fdc8a245d4a2bac93f63014483fa883f899b874b8ad972f7c36b03f"), looks := true }, kinds := [], alts := [], laidByText := true, laidKinds := [.data, .data, .data, .sentinel, .sentinel], laidTests := true, laidLooks := .later }
def KeeperNoneUptoCardSaid : Prop := Claim7.holds Tryz.pinned (.plain (OpenSpec.upto keeperNoneSpec)) keeperNoneUptoCard
end Rows
end Go.Proofs.YthokbcjofkgopaaGreatDoor
