/-
  For every code: of the drawn rules, a store is made as the reference makes it, and one that is made is ok and holds nothing: the given card of the law FnStoreNew, with no condition beside the tables that the row lists.
-/
import Derived.Test.YtoikelghjenndaaGreatDoorLd
import Derived.LaidMore
import Derived.LaidHandle
import Derived.LaidLaws
import Derived.SevenTiedAt
import Derived.Test.YtoikelghjenndaaGreatDoorTie
import Derived.Test.YtoikelghjenndaaGreatDoorCards
import Derived.Test.YtoikelghjenndaaGreatDoorRows
set_option linter.unusedVariables false
set_option linter.unusedSimpArgs false
namespace Go.Proofs.YtoikelghjenndaaGreatDoor.storeNewLaw
open Go Go.CL Go.Proofs.YtoikelghjenndaaGreatDoor Go.ChangeShapes Go.WideShapes Go.ChangeAt Go.RowKit
set_option maxRecDepth 20000
set_option maxRecDepth 100000 in
theorem lifted (os : Os) (started : os.Started) (H : Type) (enc : TypeId × Value → H) (F : Stop.Interp) :
    ReturnsInHanded {} Tryz.checked os 3 .any ((OpenSpec.ofChange Rows.fnStoreNewSpec).preRow enc Tryz.prog Tryz.f3 Rows.fnStoreNewRow.domain false Rows.fnStoreNewRow.laid) (((OpenSpec.ofChange Rows.fnStoreNewSpec).at F).post enc Tryz.prog Tryz.f3 false true false false) := by
  obtain ⟨places, hx⟩ := reads os enc
  refine returnsInHanded_of_row (C := Tryz.checked) (s := OpenSpec.ofChange Rows.fnStoreNewSpec) own started (by kernel_rfl) Tryz.func3
    (witness_row_at (enc := enc) (C := Tryz.checked) false (World.doorLaid Tryz.prog 24 os) #[.slice none 0 0] rfl (wVars os) (wRest os) (wOk os)
      (OpenSpec.preRow_of_cond 8 hx (by kernel_rfl) (fun k hk => by cases hk) (by kernel_rfl) (wLaid os))) ?_
  intro W base args ds gs before hval hW _ _ _ hL _ _
  exact contract H enc W base args ds gs before hval hW
theorem row : Rows.FnStoreNewSaid :=
  OpenClaim.holds_of_cond 3 Tryz.f3 rfl rfl rfl rfl rfl rfl rfl ⟨rfl, rfl, rfl, rfl, rfl⟩ rfl rfl rfl rfl rfl fnamed Tryz.func3 joined
    inst wrap (fun os started H enc _ F => by rw [OpenClaim.pre_eq_preRow]; exact lifted os started H enc F)
theorem k1 : Rows.fnStoreNewRow.wfByText (OpenSpec.ofChange Rows.fnStoreNewSpec) = true := by kernel_rfl
theorem k2 : Tryz.prog.mainIs = some (true, "fc57451bd070da169745233bc44ca2103b6179cb72fa6ea66fead6c6d93b9d84".toList) := by kernel_rfl
theorem k3 : true = Tryz.prog.looks [] := by kernel_rfl
theorem k4 : ([22].all fun u => !Tryz.prog.wantsStandIn u) = true := by kernel_rfl
theorem k5 : false = Rows.fnStoreNewRow.goesBy Tryz.prog := by kernel_rfl
theorem said : Rows.FnStoreNewCardSaid :=
  Claim7.holds_tied_plain_at .later [] [.data, .data, .data] true (true, "fc57451bd070da169745233bc44ca2103b6179cb72fa6ea66fead6c6d93b9d84") true
    row (fun _ h => by cases h) k1 (fun _ h => by cases h) fnStoreNew_row_tie rfl ⟨rfl, rfl⟩ k2 rfl
    (fun f fn hf hfn => by
      obtain rfl : f = 3 := Option.some.inj (fnamed.symm.trans hf) |>.symm
      obtain rfl : fn = Tryz.f3 := (Option.some.inj (Tryz.func3.symm.trans hfn)).symm
      exact ⟨k3, fun j t ht => by
        rw [Tryz.params3] at ht
        have hm : t ∈ [22] := by simpa using Array.mem_of_getElem? ht
        exact (show Tryz.prog.wantsStandIn t = false by simpa using List.all_eq_true.1 k4 t hm)⟩)
    k5
end Go.Proofs.YtoikelghjenndaaGreatDoor.storeNewLaw
