/-
  NARROWER THAN 'FOR EVERY INPUT', by the rows' own cells (each row's printed sentence says how): FnExactValueLess: loops.
  DERIVED. THE GIVEN ROWS OF THIS SEAT. 3 by the template 'for every input the law returns true; each argument reads behind the call as it read before'; 0 by the template 'total and deterministic' (their statements: YtjmgkhkpjffpbaaTotals.lean).
  GIVEN WITH THE SEED: the statements are not yours to turn. If you find one false, say at which input.
  Laid BY PROGRAM, IN A SANDBOX (cutbox-rows.mjs): the forced cells as the released guide's own fill.sh prints them over the translation 186d324d02639dbd… (all of the seat's roots in one cut). By AI agents, Wed Nov 11 2026. No macro, syntax, notation, axiom, sorry.
-/
import Derived.Test.YtjmgkhkpjffpbaaChecked
import GoSem.Claim
import GoSem.ClaimJoined
import GoSem.ClaimMapViews
import Derived.JoinedTies
import Derived.KernelRfl
namespace Go.Proofs.Ytjmgkhkpjffpbaa
/- THE CELL 'sum', in the pinned program and in every row, IS THE sha256 OF THE DUMP (.gsa) THAT YtjmgkhkpjffpbaaProg.lean LOADS. Nothing in Lean hashes anything: it is a label: what it is worth is what the hold of that sum in a sandbox is worth. -/
noncomputable def Try.pinned : Pinned := { name := "ytjmgkhkpjffpbaa", sum := "186d324d02639dbd2fc6cb6c4e17676d38405010156ac42dfc76f625e605b7df", checked := Try.checked }
namespace Rows
def none {H : Type} : Left H := { results := [], args := [] }

/-- 'laws.FnValueOrder': WHATEVER THE INPUT: true; the input reads as it did. -/
def fnValueOrderSpec : ChangeSpec := { name := "fnValueOrder", fn := fun _ => fun
  | [d1, d2] => { results := [.lit (.bool true)], args := [d1, d2] }
  | _ => none }
def fnValueOrderRow : OpenClaim := { program := "ytjmgkhkpjffpbaa", sum := "186d324d02639dbd2fc6cb6c4e17676d38405010156ac42dfc76f625e605b7df", func := "loop.example/ashlar/laws.FnValueOrder", spec := "fnValueOrder", unfollowed := true, recurses := true, apart := false }
def FnValueOrderSaid : Prop := fnValueOrderRow.holds Try.pinned (OpenSpec.ofChange fnValueOrderSpec)

/-- ITS FALSE NEIGHBOUR: 'it returns false'. Refute it at one input. -/
def fnValueOrderWrong : ChangeSpec := { name := "fnValueOrder", fn := fun _ => fun
  | [d1, d2] => { results := [.lit (.bool false)], args := [d1, d2] }
  | _ => none }
def FnValueOrderWrongFalsely : Prop := fnValueOrderRow.holds Try.pinned (OpenSpec.ofChange fnValueOrderWrong)

/-- 'laws.FnExactValueLess': WHATEVER THE INPUT: true; the input reads as it did. -/
def fnExactValueLessSpec : ChangeSpec := { name := "fnExactValueLess", fn := fun _ => fun
  | [d1, d2] => { results := [.lit (.bool true)], args := [d1, d2] }
  | _ => none }
def fnExactValueLessRow : OpenClaim := { program := "ytjmgkhkpjffpbaa", sum := "186d324d02639dbd2fc6cb6c4e17676d38405010156ac42dfc76f625e605b7df", func := "loop.example/ashlar/laws.FnExactValueLess", spec := "fnExactValueLess", unfollowed := true, recurses := true, loops := true, apart := false }
def FnExactValueLessSaid : Prop := fnExactValueLessRow.holds Try.pinned (OpenSpec.ofChange fnExactValueLessSpec)

/-- ITS FALSE NEIGHBOUR: 'it returns false'. Refute it at one input. -/
def fnExactValueLessWrong : ChangeSpec := { name := "fnExactValueLess", fn := fun _ => fun
  | [d1, d2] => { results := [.lit (.bool false)], args := [d1, d2] }
  | _ => none }
def FnExactValueLessWrongFalsely : Prop := fnExactValueLessRow.holds Try.pinned (OpenSpec.ofChange fnExactValueLessWrong)

/-- 'laws.FnValueLess': WHATEVER THE INPUT: true; the input reads as it did. -/
def fnValueLessSpec : ChangeSpec := { name := "fnValueLess", fn := fun _ => fun
  | [d] => { results := [.lit (.bool true)], args := [d] }
  | _ => none }
def fnValueLessRow : OpenClaim := { program := "ytjmgkhkpjffpbaa", sum := "186d324d02639dbd2fc6cb6c4e17676d38405010156ac42dfc76f625e605b7df", func := "loop.example/ashlar/laws.FnValueLess", spec := "fnValueLess", unfollowed := true, recurses := true, apart := false }
def FnValueLessSaid : Prop := fnValueLessRow.holds Try.pinned (OpenSpec.ofChange fnValueLessSpec)

/-- ITS FALSE NEIGHBOUR: 'it returns false'. Refute it at one input. -/
def fnValueLessWrong : ChangeSpec := { name := "fnValueLess", fn := fun _ => fun
  | [d] => { results := [.lit (.bool false)], args := [d] }
  | _ => none }
def FnValueLessWrongFalsely : Prop := fnValueLessRow.holds Try.pinned (OpenSpec.ofChange fnValueLessWrong)

/- THE SECOND FORM. 'bulk': how many values and letters a reading holds, each counted each time it is reached (what is shared counts as often as it is met; a slice's spare places count too). A statement '..UptoSaid' is the law's where the arguments, and the package variables that the reading takes, are together of bulk at most 1048576: NARROWER than '..Said'. Prove '..Said' where nothing that the law and all that it calls make is longer than what came in: it says more and counts as full. Else prove '..UptoSaid'. A law counts once. -/
mutual
def uptoBulk {H : Type} : DataW H → Nat
  | .lit (.string bytes) => bytes.length + 1
  | .lit _ => 1
  | .nil => 1
  | .ptr d => uptoBulk d + 1
  | .slice elems spare => uptoBulkAll elems + uptoBulkAll spare + 1
  | .agg parts => uptoBulkAll parts + 1
  | .iface _ d => uptoBulk d + 1
  | .map entries => uptoBulkEntries entries + 1
  | .held _ => 1
def uptoBulkAll {H : Type} : List (DataW H) → Nat
  | [] => 0
  | d :: r => uptoBulk d + uptoBulkAll r
def uptoBulkEntries {H : Type} : List (Lit × DataW H) → Nat
  | [] => 0
  | x :: r => uptoBulkEntry x + uptoBulkEntries r
def uptoBulkEntry {H : Type} : Lit × DataW H → Nat
  | (.string bytes, d) => bytes.length + uptoBulk d + 1
  | (_, d) => uptoBulk d + 1
 end
def uptoSmall : (H : Type) → List (DataW H) → Bool := fun _ ds => decide (uptoBulkAll ds ≤ 1048576)
def OpenSpec.upto (s : _root_.Go.ChangeSpec) : _root_.Go.OpenSpec := { _root_.Go.OpenSpec.ofChange s with cond := some uptoSmall }

/-- 'laws.FnValueOrder', WHERE WHAT IT READS IS OF BULK AT MOST 1048576: true; the input reads as it did. -/
def fnValueOrderUptoRow : OpenClaim := { program := "ytjmgkhkpjffpbaa", sum := "186d324d02639dbd2fc6cb6c4e17676d38405010156ac42dfc76f625e605b7df", func := "loop.example/ashlar/laws.FnValueOrder", spec := "fnValueOrder", unfollowed := true, recurses := true, apart := false, narrowed := true }
def FnValueOrderUptoSaid : Prop := fnValueOrderUptoRow.holds Try.pinned (OpenSpec.upto fnValueOrderSpec)

/-- 'laws.FnExactValueLess', WHERE WHAT IT READS IS OF BULK AT MOST 1048576: true; the input reads as it did. -/
def fnExactValueLessUptoRow : OpenClaim := { program := "ytjmgkhkpjffpbaa", sum := "186d324d02639dbd2fc6cb6c4e17676d38405010156ac42dfc76f625e605b7df", func := "loop.example/ashlar/laws.FnExactValueLess", spec := "fnExactValueLess", unfollowed := true, recurses := true, loops := true, apart := false, narrowed := true }
def FnExactValueLessUptoSaid : Prop := fnExactValueLessUptoRow.holds Try.pinned (OpenSpec.upto fnExactValueLessSpec)

/-- 'laws.FnValueLess', WHERE WHAT IT READS IS OF BULK AT MOST 1048576: true; the input reads as it did. -/
def fnValueLessUptoRow : OpenClaim := { program := "ytjmgkhkpjffpbaa", sum := "186d324d02639dbd2fc6cb6c4e17676d38405010156ac42dfc76f625e605b7df", func := "loop.example/ashlar/laws.FnValueLess", spec := "fnValueLess", unfollowed := true, recurses := true, apart := false, narrowed := true }
def FnValueLessUptoSaid : Prop := fnValueLessUptoRow.holds Try.pinned (OpenSpec.upto fnValueLessSpec)

end Rows
end Go.Proofs.Ytjmgkhkpjffpbaa
