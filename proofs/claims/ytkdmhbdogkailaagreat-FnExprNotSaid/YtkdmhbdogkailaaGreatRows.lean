/-
  No cell of these rows narrows 'for every input' (looked for: loops, veiled, ifaces, maps, wideKeys, modest, calm, conditions, laid).
  DERIVED. THE GIVEN ROWS OF THIS SEAT. 6 by the template 'for every input the law returns true; each argument reads behind the call as it read before'; 0 by the template 'total and deterministic' (their statements: YtkdmhbdogkailaaGreatTotals.lean).
  GIVEN WITH THE SEED: the statements are not yours to turn. If you find one false, say at which input.
  Laid BY PROGRAM, IN A SANDBOX (cutbox-rows.mjs): the forced cells as the released guide's own fill.sh prints them over the translation cf4eaf6c66f4ff71… (all of the seat's roots in one cut). By AI agents, Wed Nov 11 2026. No macro, syntax, notation, axiom, sorry.
-/
import Derived.Test.YtkdmhbdogkailaaGreatChecked
import GoSem.Claim
import GoSem.ClaimJoined
import GoSem.ClaimMapViews
import Derived.JoinedTies
import Derived.KernelRfl
namespace Go.Proofs.YtkdmhbdogkailaaGreat
/- THE CELL 'sum', in the pinned program and in every row, IS THE sha256 OF THE DUMP (.gsa) THAT YtkdmhbdogkailaaGreatProg.lean LOADS. Nothing in Lean hashes anything: it is a label: what it is worth is what the hold of that sum in a sandbox is worth. -/
noncomputable def Tryz.pinned : Pinned := { name := "ytkdmhbdogkailaagreat", sum := "cf4eaf6c66f4ff71fa1c270027e839591584a536c485d411ede694bf5eb1f3ec", checked := Tryz.checked }
namespace Rows
def none {H : Type} : Left H := { results := [], args := [] }

/-- 'laws.FnExprAdd': WHATEVER THE INPUT: true; the input reads as it did. -/
def fnExprAddSpec : ChangeSpec := { name := "fnExprAdd", fn := fun _ => fun
  | [d] => { results := [.lit (.bool true)], args := [d] }
  | _ => none }
def fnExprAddRow : OpenClaim := { program := "ytkdmhbdogkailaagreat", sum := "cf4eaf6c66f4ff71fa1c270027e839591584a536c485d411ede694bf5eb1f3ec", func := "loop.example/ashlar/laws.FnExprAdd", spec := "fnExprAdd", unfollowed := true, recurses := true, plainKeys := false, apart := false }
def FnExprAddSaid : Prop := fnExprAddRow.holds Tryz.pinned (OpenSpec.ofChange fnExprAddSpec)

/-- ITS FALSE NEIGHBOUR: 'it returns false'. Refute it at one input. -/
def fnExprAddWrong : ChangeSpec := { name := "fnExprAdd", fn := fun _ => fun
  | [d] => { results := [.lit (.bool false)], args := [d] }
  | _ => none }
def FnExprAddWrongFalsely : Prop := fnExprAddRow.holds Tryz.pinned (OpenSpec.ofChange fnExprAddWrong)

/-- 'laws.FnExprGiven': WHATEVER THE INPUT: true; the input reads as it did. -/
def fnExprGivenSpec : ChangeSpec := { name := "fnExprGiven", fn := fun _ => fun
  | [d] => { results := [.lit (.bool true)], args := [d] }
  | _ => none }
def fnExprGivenRow : OpenClaim := { program := "ytkdmhbdogkailaagreat", sum := "cf4eaf6c66f4ff71fa1c270027e839591584a536c485d411ede694bf5eb1f3ec", func := "loop.example/ashlar/laws.FnExprGiven", spec := "fnExprGiven", unfollowed := true, recurses := true, plainKeys := false, apart := false }
def FnExprGivenSaid : Prop := fnExprGivenRow.holds Tryz.pinned (OpenSpec.ofChange fnExprGivenSpec)

/-- ITS FALSE NEIGHBOUR: 'it returns false'. Refute it at one input. -/
def fnExprGivenWrong : ChangeSpec := { name := "fnExprGiven", fn := fun _ => fun
  | [d] => { results := [.lit (.bool false)], args := [d] }
  | _ => none }
def FnExprGivenWrongFalsely : Prop := fnExprGivenRow.holds Tryz.pinned (OpenSpec.ofChange fnExprGivenWrong)

/-- 'laws.FnExprLess': WHATEVER THE INPUT: true; the input reads as it did. -/
def fnExprLessSpec : ChangeSpec := { name := "fnExprLess", fn := fun _ => fun
  | [d] => { results := [.lit (.bool true)], args := [d] }
  | _ => none }
def fnExprLessRow : OpenClaim := { program := "ytkdmhbdogkailaagreat", sum := "cf4eaf6c66f4ff71fa1c270027e839591584a536c485d411ede694bf5eb1f3ec", func := "loop.example/ashlar/laws.FnExprLess", spec := "fnExprLess", unfollowed := true, recurses := true, plainKeys := false, apart := false }
def FnExprLessSaid : Prop := fnExprLessRow.holds Tryz.pinned (OpenSpec.ofChange fnExprLessSpec)

/-- ITS FALSE NEIGHBOUR: 'it returns false'. Refute it at one input. -/
def fnExprLessWrong : ChangeSpec := { name := "fnExprLess", fn := fun _ => fun
  | [d] => { results := [.lit (.bool false)], args := [d] }
  | _ => none }
def FnExprLessWrongFalsely : Prop := fnExprLessRow.holds Tryz.pinned (OpenSpec.ofChange fnExprLessWrong)

/-- 'laws.FnExprNot': WHATEVER THE INPUT: true; the input reads as it did. -/
def fnExprNotSpec : ChangeSpec := { name := "fnExprNot", fn := fun _ => fun
  | [d] => { results := [.lit (.bool true)], args := [d] }
  | _ => none }
def fnExprNotRow : OpenClaim := { program := "ytkdmhbdogkailaagreat", sum := "cf4eaf6c66f4ff71fa1c270027e839591584a536c485d411ede694bf5eb1f3ec", func := "loop.example/ashlar/laws.FnExprNot", spec := "fnExprNot", unfollowed := true, recurses := true, plainKeys := false, apart := false }
def FnExprNotSaid : Prop := fnExprNotRow.holds Tryz.pinned (OpenSpec.ofChange fnExprNotSpec)

/-- ITS FALSE NEIGHBOUR: 'it returns false'. Refute it at one input. -/
def fnExprNotWrong : ChangeSpec := { name := "fnExprNot", fn := fun _ => fun
  | [d] => { results := [.lit (.bool false)], args := [d] }
  | _ => none }
def FnExprNotWrongFalsely : Prop := fnExprNotRow.holds Tryz.pinned (OpenSpec.ofChange fnExprNotWrong)

/-- 'laws.FnExprIn': WHATEVER THE INPUT: true; the input reads as it did. -/
def fnExprInSpec : ChangeSpec := { name := "fnExprIn", fn := fun _ => fun
  | [d] => { results := [.lit (.bool true)], args := [d] }
  | _ => none }
def fnExprInRow : OpenClaim := { program := "ytkdmhbdogkailaagreat", sum := "cf4eaf6c66f4ff71fa1c270027e839591584a536c485d411ede694bf5eb1f3ec", func := "loop.example/ashlar/laws.FnExprIn", spec := "fnExprIn", unfollowed := true, recurses := true, plainKeys := false, apart := false }
def FnExprInSaid : Prop := fnExprInRow.holds Tryz.pinned (OpenSpec.ofChange fnExprInSpec)

/-- ITS FALSE NEIGHBOUR: 'it returns false'. Refute it at one input. -/
def fnExprInWrong : ChangeSpec := { name := "fnExprIn", fn := fun _ => fun
  | [d] => { results := [.lit (.bool false)], args := [d] }
  | _ => none }
def FnExprInWrongFalsely : Prop := fnExprInRow.holds Tryz.pinned (OpenSpec.ofChange fnExprInWrong)

/-- 'laws.FnExprNull': WHATEVER THE INPUT: true; the input reads as it did. -/
def fnExprNullSpec : ChangeSpec := { name := "fnExprNull", fn := fun _ => fun
  | [d] => { results := [.lit (.bool true)], args := [d] }
  | _ => none }
def fnExprNullRow : OpenClaim := { program := "ytkdmhbdogkailaagreat", sum := "cf4eaf6c66f4ff71fa1c270027e839591584a536c485d411ede694bf5eb1f3ec", func := "loop.example/ashlar/laws.FnExprNull", spec := "fnExprNull", unfollowed := true, recurses := true, plainKeys := false, apart := false }
def FnExprNullSaid : Prop := fnExprNullRow.holds Tryz.pinned (OpenSpec.ofChange fnExprNullSpec)

/-- ITS FALSE NEIGHBOUR: 'it returns false'. Refute it at one input. -/
def fnExprNullWrong : ChangeSpec := { name := "fnExprNull", fn := fun _ => fun
  | [d] => { results := [.lit (.bool false)], args := [d] }
  | _ => none }
def FnExprNullWrongFalsely : Prop := fnExprNullRow.holds Tryz.pinned (OpenSpec.ofChange fnExprNullWrong)

/- THE SECOND FORM. 'bulk': how many values and letters a reading holds, each counted each time it is reached (what is shared counts as often as it is met; a slice's spare places count too). A statement '..UptoSaid' is the law's where the arguments, and the package variables that the reading takes, are together of bulk at most 1048576: NARROWER than '..Said'. Prove '..Said' where nothing that the law and all that it calls make is longer than what came in: it says more and counts as full. Else prove '..UptoSaid'. A law counts once. -/
mutual
def uptoBulk {H : Type} : DataW H → Nat
  | .lit (.string bytes) => bytes.length + 1
  | .lit _ => 1
  | .nil => 1
  | .ptr d => uptoBulk d + 1
  | .slice elems spare => uptoBulkAll elems + uptoBulkAll spare + 1
  | .agg parts => uptoBulkAll parts + 1
  | .iface _ d => uptoBulk d + 1
  | .map entries => uptoBulkEntries entries + 1
  | .held _ => 1
def uptoBulkAll {H : Type} : List (DataW H) → Nat
  | [] => 0
  | d :: r => uptoBulk d + uptoBulkAll r
def uptoBulkEntries {H : Type} : List (Lit × DataW H) → Nat
  | [] => 0
  | x :: r => uptoBulkEntry x + uptoBulkEntries r
def uptoBulkEntry {H : Type} : Lit × DataW H → Nat
  | (.string bytes, d) => bytes.length + uptoBulk d + 1
  | (_, d) => uptoBulk d + 1
 end
def uptoSmall : (H : Type) → List (DataW H) → Bool := fun _ ds => decide (uptoBulkAll ds ≤ 1048576)
def OpenSpec.upto (s : _root_.Go.ChangeSpec) : _root_.Go.OpenSpec := { _root_.Go.OpenSpec.ofChange s with cond := some uptoSmall }

/-- 'laws.FnExprAdd', WHERE WHAT IT READS IS OF BULK AT MOST 1048576: true; the input reads as it did. -/
def fnExprAddUptoRow : OpenClaim := { program := "ytkdmhbdogkailaagreat", sum := "cf4eaf6c66f4ff71fa1c270027e839591584a536c485d411ede694bf5eb1f3ec", func := "loop.example/ashlar/laws.FnExprAdd", spec := "fnExprAdd", unfollowed := true, recurses := true, plainKeys := false, apart := false, narrowed := true }
def FnExprAddUptoSaid : Prop := fnExprAddUptoRow.holds Tryz.pinned (OpenSpec.upto fnExprAddSpec)

/-- 'laws.FnExprGiven', WHERE WHAT IT READS IS OF BULK AT MOST 1048576: true; the input reads as it did. -/
def fnExprGivenUptoRow : OpenClaim := { program := "ytkdmhbdogkailaagreat", sum := "cf4eaf6c66f4ff71fa1c270027e839591584a536c485d411ede694bf5eb1f3ec", func := "loop.example/ashlar/laws.FnExprGiven", spec := "fnExprGiven", unfollowed := true, recurses := true, plainKeys := false, apart := false, narrowed := true }
def FnExprGivenUptoSaid : Prop := fnExprGivenUptoRow.holds Tryz.pinned (OpenSpec.upto fnExprGivenSpec)

/-- 'laws.FnExprLess', WHERE WHAT IT READS IS OF BULK AT MOST 1048576: true; the input reads as it did. -/
def fnExprLessUptoRow : OpenClaim := { program := "ytkdmhbdogkailaagreat", sum := "cf4eaf6c66f4ff71fa1c270027e839591584a536c485d411ede694bf5eb1f3ec", func := "loop.example/ashlar/laws.FnExprLess", spec := "fnExprLess", unfollowed := true, recurses := true, plainKeys := false, apart := false, narrowed := true }
def FnExprLessUptoSaid : Prop := fnExprLessUptoRow.holds Tryz.pinned (OpenSpec.upto fnExprLessSpec)

/-- 'laws.FnExprNot', WHERE WHAT IT READS IS OF BULK AT MOST 1048576: true; the input reads as it did. -/
def fnExprNotUptoRow : OpenClaim := { program := "ytkdmhbdogkailaagreat", sum := "cf4eaf6c66f4ff71fa1c270027e839591584a536c485d411ede694bf5eb1f3ec", func := "loop.example/ashlar/laws.FnExprNot", spec := "fnExprNot", unfollowed := true, recurses := true, plainKeys := false, apart := false, narrowed := true }
def FnExprNotUptoSaid : Prop := fnExprNotUptoRow.holds Tryz.pinned (OpenSpec.upto fnExprNotSpec)

/-- 'laws.FnExprIn', WHERE WHAT IT READS IS OF BULK AT MOST 1048576: true; the input reads as it did. -/
def fnExprInUptoRow : OpenClaim := { program := "ytkdmhbdogkailaagreat", sum := "cf4eaf6c66f4ff71fa1c270027e839591584a536c485d411ede694bf5eb1f3ec", func := "loop.example/ashlar/laws.FnExprIn", spec := "fnExprIn", unfollowed := true, recurses := true, plainKeys := false, apart := false, narrowed := true }
def FnExprInUptoSaid : Prop := fnExprInUptoRow.holds Tryz.pinned (OpenSpec.upto fnExprInSpec)

/-- 'laws.FnExprNull', WHERE WHAT IT READS IS OF BULK AT MOST 1048576: true; the input reads as it did. -/
def fnExprNullUptoRow : OpenClaim := { program := "ytkdmhbdogkailaagreat", sum := "cf4eaf6c66f4ff71fa1c270027e839591584a536c485d411ede694bf5eb1f3ec", func := "loop.example/ashlar/laws.FnExprNull", spec := "fnExprNull", unfollowed := true, recurses := true, plainKeys := false, apart := false, narrowed := true }
def FnExprNullUptoSaid : Prop := fnExprNullUptoRow.holds Tryz.pinned (OpenSpec.upto fnExprNullSpec)

end Rows
end Go.Proofs.YtkdmhbdogkailaaGreat
