/-
  No cell of these rows narrows 'for every input' (looked for: loops, veiled, ifaces, maps, wideKeys, modest, calm, conditions, laid).
  DERIVED. THE GIVEN ROWS OF THIS SEAT. 5 by the template 'for every input the law returns true; each argument reads behind the call as it read before'; 0 by the template 'total and deterministic' (their statements: YthllnbfkfobcjaaGreatTotals.lean).
  GIVEN WITH THE SEED: the statements are not yours to turn. If you find one false, say at which input.
  Laid BY PROGRAM, IN A SANDBOX (cutbox-rows.mjs): the forced cells as the released guide's own fill.sh prints them over the translation a6a120e7ed2473e8… (all of the seat's roots in one cut). By AI agents, Wed Nov 11 2026. No macro, syntax, notation, axiom, sorry.
-/
import Derived.Test.YthllnbfkfobcjaaGreatChecked
import GoSem.Claim
import GoSem.ClaimJoined
import GoSem.ClaimMapViews
import Derived.JoinedTies
import Derived.KernelRfl
namespace Go.Proofs.YthllnbfkfobcjaaGreat
/- THE CELL 'sum', in the pinned program and in every row, IS THE sha256 OF THE DUMP (.gsa) THAT YthllnbfkfobcjaaGreatProg.lean LOADS. Nothing in Lean hashes anything: it is a label: what it is worth is what the hold of that sum in a sandbox is worth. -/
noncomputable def Tryz.pinned : Pinned := { name := "ythllnbfkfobcjaagreat", sum := "a6a120e7ed2473e81545ce99aad7a9c8f2874c80a7f6481129842b8bc6ff880d", checked := Tryz.checked }
namespace Rows
def none {H : Type} : Left H := { results := [], args := [] }

/-- 'laws.FnExprNames': WHATEVER THE INPUT: true; the input reads as it did. -/
def fnExprNamesSpec : ChangeSpec := { name := "fnExprNames", fn := fun _ => fun
  | [d] => { results := [.lit (.bool true)], args := [d] }
  | _ => none }
def fnExprNamesRow : OpenClaim := { program := "ythllnbfkfobcjaagreat", sum := "a6a120e7ed2473e81545ce99aad7a9c8f2874c80a7f6481129842b8bc6ff880d", func := "loop.example/ashlar/laws.FnExprNames", spec := "fnExprNames", unfollowed := true, recurses := true, plainKeys := false, apart := false }
def FnExprNamesSaid : Prop := fnExprNamesRow.holds Tryz.pinned (OpenSpec.ofChange fnExprNamesSpec)

/-- ITS FALSE NEIGHBOUR: 'it returns false'. Refute it at one input. -/
def fnExprNamesWrong : ChangeSpec := { name := "fnExprNames", fn := fun _ => fun
  | [d] => { results := [.lit (.bool false)], args := [d] }
  | _ => none }
def FnExprNamesWrongFalsely : Prop := fnExprNamesRow.holds Tryz.pinned (OpenSpec.ofChange fnExprNamesWrong)

/-- 'laws.FnQueryCheck': WHATEVER THE INPUT: true; the input reads as it did. -/
def fnQueryCheckSpec : ChangeSpec := { name := "fnQueryCheck", fn := fun _ => fun
  | [d] => { results := [.lit (.bool true)], args := [d] }
  | _ => none }
def fnQueryCheckRow : OpenClaim := { program := "ythllnbfkfobcjaagreat", sum := "a6a120e7ed2473e81545ce99aad7a9c8f2874c80a7f6481129842b8bc6ff880d", func := "loop.example/ashlar/laws.FnQueryCheck", spec := "fnQueryCheck", unfollowed := true, recurses := true, plainKeys := false, apart := false }
def FnQueryCheckSaid : Prop := fnQueryCheckRow.holds Tryz.pinned (OpenSpec.ofChange fnQueryCheckSpec)

/-- ITS FALSE NEIGHBOUR: 'it returns false'. Refute it at one input. -/
def fnQueryCheckWrong : ChangeSpec := { name := "fnQueryCheck", fn := fun _ => fun
  | [d] => { results := [.lit (.bool false)], args := [d] }
  | _ => none }
def FnQueryCheckWrongFalsely : Prop := fnQueryCheckRow.holds Tryz.pinned (OpenSpec.ofChange fnQueryCheckWrong)

/-- 'laws.FnQueryFew': WHATEVER THE INPUT: true; the input reads as it did. -/
def fnQueryFewSpec : ChangeSpec := { name := "fnQueryFew", fn := fun _ => fun
  | [d] => { results := [.lit (.bool true)], args := [d] }
  | _ => none }
def fnQueryFewRow : OpenClaim := { program := "ythllnbfkfobcjaagreat", sum := "a6a120e7ed2473e81545ce99aad7a9c8f2874c80a7f6481129842b8bc6ff880d", func := "loop.example/ashlar/laws.FnQueryFew", spec := "fnQueryFew", unfollowed := true, recurses := true, plainKeys := false, apart := false }
def FnQueryFewSaid : Prop := fnQueryFewRow.holds Tryz.pinned (OpenSpec.ofChange fnQueryFewSpec)

/-- ITS FALSE NEIGHBOUR: 'it returns false'. Refute it at one input. -/
def fnQueryFewWrong : ChangeSpec := { name := "fnQueryFew", fn := fun _ => fun
  | [d] => { results := [.lit (.bool false)], args := [d] }
  | _ => none }
def FnQueryFewWrongFalsely : Prop := fnQueryFewRow.holds Tryz.pinned (OpenSpec.ofChange fnQueryFewWrong)

/-- 'laws.FnQueryNames': WHATEVER THE INPUT: true; the input reads as it did. -/
def fnQueryNamesSpec : ChangeSpec := { name := "fnQueryNames", fn := fun _ => fun
  | [d] => { results := [.lit (.bool true)], args := [d] }
  | _ => none }
def fnQueryNamesRow : OpenClaim := { program := "ythllnbfkfobcjaagreat", sum := "a6a120e7ed2473e81545ce99aad7a9c8f2874c80a7f6481129842b8bc6ff880d", func := "loop.example/ashlar/laws.FnQueryNames", spec := "fnQueryNames", unfollowed := true, recurses := true, plainKeys := false, apart := false }
def FnQueryNamesSaid : Prop := fnQueryNamesRow.holds Tryz.pinned (OpenSpec.ofChange fnQueryNamesSpec)

/-- ITS FALSE NEIGHBOUR: 'it returns false'. Refute it at one input. -/
def fnQueryNamesWrong : ChangeSpec := { name := "fnQueryNames", fn := fun _ => fun
  | [d] => { results := [.lit (.bool false)], args := [d] }
  | _ => none }
def FnQueryNamesWrongFalsely : Prop := fnQueryNamesRow.holds Tryz.pinned (OpenSpec.ofChange fnQueryNamesWrong)

/-- 'laws.FnQueryGiven': WHATEVER THE INPUT: true; the input reads as it did. -/
def fnQueryGivenSpec : ChangeSpec := { name := "fnQueryGiven", fn := fun _ => fun
  | [d] => { results := [.lit (.bool true)], args := [d] }
  | _ => none }
def fnQueryGivenRow : OpenClaim := { program := "ythllnbfkfobcjaagreat", sum := "a6a120e7ed2473e81545ce99aad7a9c8f2874c80a7f6481129842b8bc6ff880d", func := "loop.example/ashlar/laws.FnQueryGiven", spec := "fnQueryGiven", unfollowed := true, recurses := true, plainKeys := false, apart := false }
def FnQueryGivenSaid : Prop := fnQueryGivenRow.holds Tryz.pinned (OpenSpec.ofChange fnQueryGivenSpec)

/-- ITS FALSE NEIGHBOUR: 'it returns false'. Refute it at one input. -/
def fnQueryGivenWrong : ChangeSpec := { name := "fnQueryGiven", fn := fun _ => fun
  | [d] => { results := [.lit (.bool false)], args := [d] }
  | _ => none }
def FnQueryGivenWrongFalsely : Prop := fnQueryGivenRow.holds Tryz.pinned (OpenSpec.ofChange fnQueryGivenWrong)

/- THE SECOND FORM. 'bulk': how many values and letters a reading holds, each counted each time it is reached (what is shared counts as often as it is met; a slice's spare places count too). A statement '..UptoSaid' is the law's where the arguments, and the package variables that the reading takes, are together of bulk at most 1048576: NARROWER than '..Said'. Prove '..Said' where nothing that the law and all that it calls make is longer than what came in: it says more and counts as full. Else prove '..UptoSaid'. A law counts once. -/
mutual
def uptoBulk {H : Type} : DataW H → Nat
  | .lit (.string bytes) => bytes.length + 1
  | .lit _ => 1
  | .nil => 1
  | .ptr d => uptoBulk d + 1
  | .slice elems spare => uptoBulkAll elems + uptoBulkAll spare + 1
  | .agg parts => uptoBulkAll parts + 1
  | .iface _ d => uptoBulk d + 1
  | .map entries => uptoBulkEntries entries + 1
  | .held _ => 1
def uptoBulkAll {H : Type} : List (DataW H) → Nat
  | [] => 0
  | d :: r => uptoBulk d + uptoBulkAll r
def uptoBulkEntries {H : Type} : List (Lit × DataW H) → Nat
  | [] => 0
  | x :: r => uptoBulkEntry x + uptoBulkEntries r
def uptoBulkEntry {H : Type} : Lit × DataW H → Nat
  | (.string bytes, d) => bytes.length + uptoBulk d + 1
  | (_, d) => uptoBulk d + 1
 end
def uptoSmall : (H : Type) → List (DataW H) → Bool := fun _ ds => decide (uptoBulkAll ds ≤ 1048576)
def OpenSpec.upto (s : _root_.Go.ChangeSpec) : _root_.Go.OpenSpec := { _root_.Go.OpenSpec.ofChange s with cond := some uptoSmall }

/-- 'laws.FnExprNames', WHERE WHAT IT READS IS OF BULK AT MOST 1048576: true; the input reads as it did. -/
def fnExprNamesUptoRow : OpenClaim := { program := "ythllnbfkfobcjaagreat", sum := "a6a120e7ed2473e81545ce99aad7a9c8f2874c80a7f6481129842b8bc6ff880d", func := "loop.example/ashlar/laws.FnExprNames", spec := "fnExprNames", unfollowed := true, recurses := true, plainKeys := false, apart := false, narrowed := true }
def FnExprNamesUptoSaid : Prop := fnExprNamesUptoRow.holds Tryz.pinned (OpenSpec.upto fnExprNamesSpec)

/-- 'laws.FnQueryCheck', WHERE WHAT IT READS IS OF BULK AT MOST 1048576: true; the input reads as it did. -/
def fnQueryCheckUptoRow : OpenClaim := { program := "ythllnbfkfobcjaagreat", sum := "a6a120e7ed2473e81545ce99aad7a9c8f2874c80a7f6481129842b8bc6ff880d", func := "loop.example/ashlar/laws.FnQueryCheck", spec := "fnQueryCheck", unfollowed := true, recurses := true, plainKeys := false, apart := false, narrowed := true }
def FnQueryCheckUptoSaid : Prop := fnQueryCheckUptoRow.holds Tryz.pinned (OpenSpec.upto fnQueryCheckSpec)

/-- 'laws.FnQueryFew', WHERE WHAT IT READS IS OF BULK AT MOST 1048576: true; the input reads as it did. -/
def fnQueryFewUptoRow : OpenClaim := { program := "ythllnbfkfobcjaagreat", sum := "a6a120e7ed2473e81545ce99aad7a9c8f2874c80a7f6481129842b8bc6ff880d", func := "loop.example/ashlar/laws.FnQueryFew", spec := "fnQueryFew", unfollowed := true, recurses := true, plainKeys := false, apart := false, narrowed := true }
def FnQueryFewUptoSaid : Prop := fnQueryFewUptoRow.holds Tryz.pinned (OpenSpec.upto fnQueryFewSpec)

/-- 'laws.FnQueryNames', WHERE WHAT IT READS IS OF BULK AT MOST 1048576: true; the input reads as it did. -/
def fnQueryNamesUptoRow : OpenClaim := { program := "ythllnbfkfobcjaagreat", sum := "a6a120e7ed2473e81545ce99aad7a9c8f2874c80a7f6481129842b8bc6ff880d", func := "loop.example/ashlar/laws.FnQueryNames", spec := "fnQueryNames", unfollowed := true, recurses := true, plainKeys := false, apart := false, narrowed := true }
def FnQueryNamesUptoSaid : Prop := fnQueryNamesUptoRow.holds Tryz.pinned (OpenSpec.upto fnQueryNamesSpec)

/-- 'laws.FnQueryGiven', WHERE WHAT IT READS IS OF BULK AT MOST 1048576: true; the input reads as it did. -/
def fnQueryGivenUptoRow : OpenClaim := { program := "ythllnbfkfobcjaagreat", sum := "a6a120e7ed2473e81545ce99aad7a9c8f2874c80a7f6481129842b8bc6ff880d", func := "loop.example/ashlar/laws.FnQueryGiven", spec := "fnQueryGiven", unfollowed := true, recurses := true, plainKeys := false, apart := false, narrowed := true }
def FnQueryGivenUptoSaid : Prop := fnQueryGivenUptoRow.holds Tryz.pinned (OpenSpec.upto fnQueryGivenSpec)

end Rows
end Go.Proofs.YthllnbfkfobcjaaGreat
