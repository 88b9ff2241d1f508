/-
  Contracts of the functions that the law reaches.
-/
import Derived.Test.YtoikelghjenndaaGreatDoorLa
import Derived.LaidMore
import Derived.LaidHandle
import Derived.LaidLaws
import Derived.SevenTiedAt
import Derived.Test.YtoikelghjenndaaGreatDoorTie
import Derived.Test.YtoikelghjenndaaGreatDoorCards
import Derived.Test.YtoikelghjenndaaGreatDoorRows
set_option linter.unusedVariables false
set_option linter.unusedSimpArgs false
namespace Go.Proofs.YtoikelghjenndaaGreatDoor.storeNewLaw
open Go Go.CL Go.Proofs.YtoikelghjenndaaGreatDoor Go.ChangeShapes Go.WideShapes Go.ChangeAt Go.RowKit
set_option maxRecDepth 20000
theorem reads (os : Os) {H : Type} (enc : TypeId × Value → H) : ∃ places, DataW.whole enc Tryz.prog (((World.doorLaid Tryz.prog 24 os)).forCall (fun _ _ => 0) ⟨#[], #[.slice none 0 0], []⟩).memory Tryz.f3.params.toList Rows.fnStoreNewSpec.vars false #[Value.slice none 0 0].toList 8 = some ([.nil], [], places) :=
  ⟨[], by kernel_rfl⟩
theorem wVars (os : Os) : (((World.doorLaid Tryz.prog 24 os)).forCall (fun _ _ => 0) ⟨#[], #[.slice none 0 0], []⟩).variablesB Tryz.prog = true := by kernel_rfl
theorem wRest (os : Os) : ((((World.doorLaid Tryz.prog 24 os)).forCall (fun _ _ => 0) ⟨#[], #[.slice none 0 0], []⟩).heap.toList.drop Tryz.prog.globals.size).take ((begin Tryz.prog (fun _ _ => 0) default).world.heap.size - Tryz.prog.globals.size) =
      (begin Tryz.prog (fun _ _ => 0) default).world.heap.toList.drop Tryz.prog.globals.size := by kernel_rfl
theorem wOk (os : Os) : Input.okWideB Tryz.prog (((World.doorLaid Tryz.prog 24 os)).forCall (fun _ _ => 0) ⟨#[], #[.slice none 0 0], []⟩) 3 ⟨#[], #[.slice none 0 0], []⟩ = true := by kernel_rfl
end Go.Proofs.YtoikelghjenndaaGreatDoor.storeNewLaw
