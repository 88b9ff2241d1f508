/-
  No cell of these rows narrows 'for every input' (looked for: loops, veiled, ifaces, maps, wideKeys, modest, calm, conditions, laid).
  DERIVED. THE GIVEN ROWS OF THIS SEAT. 4 by the template 'for every input the law returns true; each argument reads behind the call as it read before'; 0 by the template 'total and deterministic' (their statements: YtlamgfimgadnmaaGreatTotals.lean).
  GIVEN WITH THE SEED: the statements are not yours to turn. If you find one false, say at which input.
  Laid BY PROGRAM, IN A SANDBOX (cutbox-rows.mjs): the forced cells as the released guide's own fill.sh prints them over the translation 41956023c1b77546… (all of the seat's roots in one cut). By AI agents, Wed Nov 11 2026. No macro, syntax, notation, axiom, sorry.
-/
import Derived.Test.YtlamgfimgadnmaaGreatChecked
import GoSem.Claim
import GoSem.ClaimJoined
import GoSem.ClaimMapViews
import Derived.JoinedTies
import Derived.KernelRfl
namespace Go.Proofs.YtlamgfimgadnmaaGreat
/- THE CELL 'sum', in the pinned program and in every row, IS THE sha256 OF THE DUMP (.gsa) THAT YtlamgfimgadnmaaGreatProg.lean LOADS. Nothing in Lean hashes anything: it is a label: what it is worth is what the hold of that sum in a sandbox is worth. -/
noncomputable def Tryz.pinned : Pinned := { name := "ytlamgfimgadnmaagreat", sum := "41956023c1b77546abf2f9095f9e5740b9d43e0ffed3cef5e174e123c5d5924c", checked := Tryz.checked }
namespace Rows
def none {H : Type} : Left H := { results := [], args := [] }

/-- 'laws.FnMatchEdge': WHATEVER THE INPUT: true; the input reads as it did. -/
def fnMatchEdgeSpec : ChangeSpec := { name := "fnMatchEdge", fn := fun _ => fun
  | [d] => { results := [.lit (.bool true)], args := [d] }
  | _ => none }
def fnMatchEdgeRow : OpenClaim := { program := "ytlamgfimgadnmaagreat", sum := "41956023c1b77546abf2f9095f9e5740b9d43e0ffed3cef5e174e123c5d5924c", func := "loop.example/ashlar/laws.FnMatchEdge", spec := "fnMatchEdge", unfollowed := true, recurses := true, plainKeys := false, apart := false }
def FnMatchEdgeSaid : Prop := fnMatchEdgeRow.holds Tryz.pinned (OpenSpec.ofChange fnMatchEdgeSpec)

/-- ITS FALSE NEIGHBOUR: 'it returns false'. Refute it at one input. -/
def fnMatchEdgeWrong : ChangeSpec := { name := "fnMatchEdge", fn := fun _ => fun
  | [d] => { results := [.lit (.bool false)], args := [d] }
  | _ => none }
def FnMatchEdgeWrongFalsely : Prop := fnMatchEdgeRow.holds Tryz.pinned (OpenSpec.ofChange fnMatchEdgeWrong)

/-- 'laws.FnMatchTurn': WHATEVER THE INPUT: true; the input reads as it did. -/
def fnMatchTurnSpec : ChangeSpec := { name := "fnMatchTurn", fn := fun _ => fun
  | [d] => { results := [.lit (.bool true)], args := [d] }
  | _ => none }
def fnMatchTurnRow : OpenClaim := { program := "ytlamgfimgadnmaagreat", sum := "41956023c1b77546abf2f9095f9e5740b9d43e0ffed3cef5e174e123c5d5924c", func := "loop.example/ashlar/laws.FnMatchTurn", spec := "fnMatchTurn", unfollowed := true, recurses := true, plainKeys := false, apart := false }
def FnMatchTurnSaid : Prop := fnMatchTurnRow.holds Tryz.pinned (OpenSpec.ofChange fnMatchTurnSpec)

/-- ITS FALSE NEIGHBOUR: 'it returns false'. Refute it at one input. -/
def fnMatchTurnWrong : ChangeSpec := { name := "fnMatchTurn", fn := fun _ => fun
  | [d] => { results := [.lit (.bool false)], args := [d] }
  | _ => none }
def FnMatchTurnWrongFalsely : Prop := fnMatchTurnRow.holds Tryz.pinned (OpenSpec.ofChange fnMatchTurnWrong)

/-- 'laws.FnMatchNode': WHATEVER THE INPUT: true; the input reads as it did. -/
def fnMatchNodeSpec : ChangeSpec := { name := "fnMatchNode", fn := fun _ => fun
  | [d] => { results := [.lit (.bool true)], args := [d] }
  | _ => none }
def fnMatchNodeRow : OpenClaim := { program := "ytlamgfimgadnmaagreat", sum := "41956023c1b77546abf2f9095f9e5740b9d43e0ffed3cef5e174e123c5d5924c", func := "loop.example/ashlar/laws.FnMatchNode", spec := "fnMatchNode", unfollowed := true, recurses := true, plainKeys := false, apart := false }
def FnMatchNodeSaid : Prop := fnMatchNodeRow.holds Tryz.pinned (OpenSpec.ofChange fnMatchNodeSpec)

/-- ITS FALSE NEIGHBOUR: 'it returns false'. Refute it at one input. -/
def fnMatchNodeWrong : ChangeSpec := { name := "fnMatchNode", fn := fun _ => fun
  | [d] => { results := [.lit (.bool false)], args := [d] }
  | _ => none }
def FnMatchNodeWrongFalsely : Prop := fnMatchNodeRow.holds Tryz.pinned (OpenSpec.ofChange fnMatchNodeWrong)

/-- 'laws.FnMatchProp': WHATEVER THE INPUT: true; the input reads as it did. -/
def fnMatchPropSpec : ChangeSpec := { name := "fnMatchProp", fn := fun _ => fun
  | [d] => { results := [.lit (.bool true)], args := [d] }
  | _ => none }
def fnMatchPropRow : OpenClaim := { program := "ytlamgfimgadnmaagreat", sum := "41956023c1b77546abf2f9095f9e5740b9d43e0ffed3cef5e174e123c5d5924c", func := "loop.example/ashlar/laws.FnMatchProp", spec := "fnMatchProp", unfollowed := true, recurses := true, plainKeys := false, apart := false }
def FnMatchPropSaid : Prop := fnMatchPropRow.holds Tryz.pinned (OpenSpec.ofChange fnMatchPropSpec)

/-- ITS FALSE NEIGHBOUR: 'it returns false'. Refute it at one input. -/
def fnMatchPropWrong : ChangeSpec := { name := "fnMatchProp", fn := fun _ => fun
  | [d] => { results := [.lit (.bool false)], args := [d] }
  | _ => none }
def FnMatchPropWrongFalsely : Prop := fnMatchPropRow.holds Tryz.pinned (OpenSpec.ofChange fnMatchPropWrong)

/- THE SECOND FORM. 'bulk': how many values and letters a reading holds, each counted each time it is reached (what is shared counts as often as it is met; a slice's spare places count too). A statement '..UptoSaid' is the law's where the arguments, and the package variables that the reading takes, are together of bulk at most 1048576: NARROWER than '..Said'. Prove '..Said' where nothing that the law and all that it calls make is longer than what came in: it says more and counts as full. Else prove '..UptoSaid'. A law counts once. -/
mutual
def uptoBulk {H : Type} : DataW H → Nat
  | .lit (.string bytes) => bytes.length + 1
  | .lit _ => 1
  | .nil => 1
  | .ptr d => uptoBulk d + 1
  | .slice elems spare => uptoBulkAll elems + uptoBulkAll spare + 1
  | .agg parts => uptoBulkAll parts + 1
  | .iface _ d => uptoBulk d + 1
  | .map entries => uptoBulkEntries entries + 1
  | .held _ => 1
def uptoBulkAll {H : Type} : List (DataW H) → Nat
  | [] => 0
  | d :: r => uptoBulk d + uptoBulkAll r
def uptoBulkEntries {H : Type} : List (Lit × DataW H) → Nat
  | [] => 0
  | x :: r => uptoBulkEntry x + uptoBulkEntries r
def uptoBulkEntry {H : Type} : Lit × DataW H → Nat
  | (.string bytes, d) => bytes.length + uptoBulk d + 1
  | (_, d) => uptoBulk d + 1
 end
def uptoSmall : (H : Type) → List (DataW H) → Bool := fun _ ds => decide (uptoBulkAll ds ≤ 1048576)
def OpenSpec.upto (s : _root_.Go.ChangeSpec) : _root_.Go.OpenSpec := { _root_.Go.OpenSpec.ofChange s with cond := some uptoSmall }

/-- 'laws.FnMatchEdge', WHERE WHAT IT READS IS OF BULK AT MOST 1048576: true; the input reads as it did. -/
def fnMatchEdgeUptoRow : OpenClaim := { program := "ytlamgfimgadnmaagreat", sum := "41956023c1b77546abf2f9095f9e5740b9d43e0ffed3cef5e174e123c5d5924c", func := "loop.example/ashlar/laws.FnMatchEdge", spec := "fnMatchEdge", unfollowed := true, recurses := true, plainKeys := false, apart := false, narrowed := true }
def FnMatchEdgeUptoSaid : Prop := fnMatchEdgeUptoRow.holds Tryz.pinned (OpenSpec.upto fnMatchEdgeSpec)

/-- 'laws.FnMatchTurn', WHERE WHAT IT READS IS OF BULK AT MOST 1048576: true; the input reads as it did. -/
def fnMatchTurnUptoRow : OpenClaim := { program := "ytlamgfimgadnmaagreat", sum := "41956023c1b77546abf2f9095f9e5740b9d43e0ffed3cef5e174e123c5d5924c", func := "loop.example/ashlar/laws.FnMatchTurn", spec := "fnMatchTurn", unfollowed := true, recurses := true, plainKeys := false, apart := false, narrowed := true }
def FnMatchTurnUptoSaid : Prop := fnMatchTurnUptoRow.holds Tryz.pinned (OpenSpec.upto fnMatchTurnSpec)

/-- 'laws.FnMatchNode', WHERE WHAT IT READS IS OF BULK AT MOST 1048576: true; the input reads as it did. -/
def fnMatchNodeUptoRow : OpenClaim := { program := "ytlamgfimgadnmaagreat", sum := "41956023c1b77546abf2f9095f9e5740b9d43e0ffed3cef5e174e123c5d5924c", func := "loop.example/ashlar/laws.FnMatchNode", spec := "fnMatchNode", unfollowed := true, recurses := true, plainKeys := false, apart := false, narrowed := true }
def FnMatchNodeUptoSaid : Prop := fnMatchNodeUptoRow.holds Tryz.pinned (OpenSpec.upto fnMatchNodeSpec)

/-- 'laws.FnMatchProp', WHERE WHAT IT READS IS OF BULK AT MOST 1048576: true; the input reads as it did. -/
def fnMatchPropUptoRow : OpenClaim := { program := "ytlamgfimgadnmaagreat", sum := "41956023c1b77546abf2f9095f9e5740b9d43e0ffed3cef5e174e123c5d5924c", func := "loop.example/ashlar/laws.FnMatchProp", spec := "fnMatchProp", unfollowed := true, recurses := true, plainKeys := false, apart := false, narrowed := true }
def FnMatchPropUptoSaid : Prop := fnMatchPropUptoRow.holds Tryz.pinned (OpenSpec.upto fnMatchPropSpec)

end Rows
end Go.Proofs.YtlamgfimgadnmaaGreat
