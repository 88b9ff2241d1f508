/-
  Contracts of the functions that the law reaches.
-/
import Derived.Test.YtoikelghjenndaaGreatDoorC
import Derived.Test.YtoikelghjenndaaGreatDoorFwb
import Derived.LaidMore
import Derived.LaidHandle
import Derived.LaidLaws
import Derived.SevenTiedAt
import Derived.Test.YtoikelghjenndaaGreatDoorTie
import Derived.Test.YtoikelghjenndaaGreatDoorCards
import Derived.Test.YtoikelghjenndaaGreatDoorRows
set_option linter.unusedVariables false
set_option linter.unusedSimpArgs false
namespace Go.Proofs.YtoikelghjenndaaGreatDoor.storeNewLaw
open Go Go.CL Go.Proofs.YtoikelghjenndaaGreatDoor Go.ChangeShapes Go.WideShapes Go.ChangeAt Go.RowKit
set_option maxRecDepth 20000
theorem own : ownKnob Tryz.prog.godebug = none := by kernel_rfl
def tys : List TypeId := [22, 5]
theorem tys_ok : tys.all (plainT Tryz.prog tys) = true := by kernel_rfl
theorem contract (H : Type) (enc : TypeId × Value → H) (W : World) (base : Nat) (args : Array Value) (ds gs : List (DataW H)) (before : List MemPlace)
    (hval : ∀ (j : Nat) t v, Tryz.f3.params[j]? = some t → args[j]? = some v → Value.okWide Tryz.prog W .any base t v)
    (hW : DataW.Whole enc Tryz.prog Tryz.f3.params.toList Rows.fnStoreNewSpec.vars false W args.toList ds gs before) :
    Calls Tryz.prog 3 args W fun e W' => ∃ v, e = .returned v ∧ Rows.fnStoreNewSpec.post enc Tryz.prog Tryz.f3 false true false false W args v W' := by
  have hW' := hW
  obtain ⟨p, q, hA0, hV, rfl, hfz, hnd⟩ := hW
  have hA : DataW.TrodAll enc Tryz.prog W 0 (fun _ => true) true Tryz.f3.params.toList args.toList ds p := hA0
  rw [Tryz.params3] at hA hval
  obtain ⟨v0, vs0, d0, ds0, p0, q0, hargs, rfl, rfl, h0, r0⟩ := trodAll_cons hA
  obtain ⟨rfl, rfl, rfl⟩ := trodAll_nil r0
  obtain rfl : args = #[v0] := by cases args; simp_all
  obtain ⟨rfl, rfl⟩ := trodVars_none hV
  obtain ⟨bs, hb, hr0⟩ := rep_bytes Tryz.underlying22 Tryz.underlying5 (by kernel_rfl) (hval 0 _ v0 rfl rfl) h0
  refine ((lawStoreNew (σ := fun _ => none) (bs := bs) hb).2 (oldMem W) ownNo W #[v0] (rg_old W) rfl ?_).mono ?_
  · intro i c hc
    match i, hc with
    | 0, hc => cases hc; exact hr0
  · rintro e W' ⟨out, M', own', ⟨σ', rfl⟩, hk, ho⟩
    cases e with
    | returned u =>
      obtain ⟨hu, _⟩ := ho
      cases hu
      exact ⟨_, rfl, law_post (b := 4) tys_ok (by kernel_rfl) rfl (by kernel_rfl) (by kernel_rfl) ⟨rfl, fun _ => rfl, rfl⟩ hW' hk.old⟩
    | _ => exact ho.elim
end Go.Proofs.YtoikelghjenndaaGreatDoor.storeNewLaw
