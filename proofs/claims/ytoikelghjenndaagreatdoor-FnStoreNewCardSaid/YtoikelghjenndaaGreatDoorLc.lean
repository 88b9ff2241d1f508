/-
  Contracts of the functions that the law reaches.
-/
import Derived.Test.YtoikelghjenndaaGreatDoorLb
import Derived.LaidMore
import Derived.LaidHandle
import Derived.LaidLaws
import Derived.SevenTiedAt
import Derived.Test.YtoikelghjenndaaGreatDoorTie
import Derived.Test.YtoikelghjenndaaGreatDoorCards
import Derived.Test.YtoikelghjenndaaGreatDoorRows
set_option linter.unusedVariables false
set_option linter.unusedSimpArgs false
namespace Go.Proofs.YtoikelghjenndaaGreatDoor.storeNewLaw
open Go Go.CL Go.Proofs.YtoikelghjenndaaGreatDoor Go.ChangeShapes Go.WideShapes Go.ChangeAt Go.RowKit
set_option maxRecDepth 20000
theorem wLaid (os : Os) : laidMetH Tryz.prog Rows.fnStoreNewRow.laid (((World.doorLaid Tryz.prog 24 os)).forCall (fun _ _ => 0) ⟨#[], #[.slice none 0 0], []⟩).memory :=
  laidMetH_of_parts3 (fuel := 8) (laidMet_of_run' 8 (by kernel_rfl) (by kernel_rfl)) (by kernel_rfl) (by kernel_rfl)
end Go.Proofs.YtoikelghjenndaaGreatDoor.storeNewLaw
