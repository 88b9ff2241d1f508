/-
  DERIVED. GIVEN WITH THE SEED: THE CARDS: each row of YtoikelghjenndaaGreatDoorRows.lean that lists a variable, with what it lists TIED to the program's text (the seventh form; the later family's looks); each row that meets fmt, with fmt's text TOLD by the authors' own Lean function (tested against real Go, not proved from fmt's source: count such statements apart). THE CARD IS WHAT COUNTS. Prove the row's statement (the work); the ties are given (YtoikelghjenndaaGreatDoorTie.lean); close each card by the builder's one call (the guide's Derived/Test/ToyasCard.lean, 'card_holds'). Laid BY PROGRAM, IN A SANDBOX (cutbox-door.mjs). By AI agents, Wed Nov 11 2026. No macro, syntax, notation, axiom, sorry.
-/
import Derived.Test.YtoikelghjenndaaGreatDoorRows
import GoSem.ClaimSeven
namespace Go.Proofs.YtoikelghjenndaaGreatDoor
namespace Rows

/-- THE TIED CARD OF 'laws.FnStoreNew'. -/
def fnStoreNewCard : Claim7 := { stood := { row := fnStoreNewRow, standIns := [], harness := (true, "fc57451bd070da169745233bc44ca2103b6179cb72fa6ea66fead6c6d93b9d84"), looks := true }, kinds := [], alts := [], laidByText := true, laidKinds := [.data, .data, .data], laidTests := true, laidLooks := .later }
def FnStoreNewCardSaid : Prop := Claim7.holds Tryz.pinned (.plain (OpenSpec.ofChange fnStoreNewSpec)) fnStoreNewCard

/-- THE SECOND FORM's CARD OF 'laws.FnStoreNew'. -/
def fnStoreNewUptoCard : Claim7 := { stood := { row := fnStoreNewUptoRow, standIns := [], harness := (true, "fc57451bd070da169745233bc44ca2103b6179cb72fa6ea66fead6c6d93b9d84"), looks := true }, kinds := [], alts := [], laidByText := true, laidKinds := [.data, .data, .data], laidTests := true, laidLooks := .later }
def FnStoreNewUptoCardSaid : Prop := Claim7.holds Tryz.pinned (.plain (OpenSpec.upto fnStoreNewSpec)) fnStoreNewUptoCard
end Rows
end Go.Proofs.YtoikelghjenndaaGreatDoor
