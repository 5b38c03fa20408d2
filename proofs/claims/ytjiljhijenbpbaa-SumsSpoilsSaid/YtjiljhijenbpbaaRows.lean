/-
  No cell of these rows narrows 'for every input' (looked for: loops, veiled, ifaces, maps, wideKeys, modest, calm, conditions, laid).
  DERIVED. THE GIVEN ROWS OF THIS SEAT. 7 by the template 'for every input the law returns true; each argument reads behind the call as it read before'; 0 by the template 'total and deterministic' (their statements: YtjiljhijenbpbaaTotals.lean).
  GIVEN WITH THE SEED: the statements are not yours to turn. If you find one false, say at which input.
  Laid BY PROGRAM, IN A SANDBOX (cutbox-rows.mjs): the forced cells as the released guide's own fill.sh prints them over the translation 6415088ce18f758d… (all of the seat's roots in one cut). By AI agents, Wed Nov 11 2026. No macro, syntax, notation, axiom, sorry.
-/
import Derived.Test.YtjiljhijenbpbaaChecked
import GoSem.Claim
import GoSem.ClaimJoined
import GoSem.ClaimMapViews
import Derived.JoinedTies
import Derived.KernelRfl
namespace Go.Proofs.Ytjiljhijenbpbaa
/- THE CELL 'sum', in the pinned program and in every row, IS THE sha256 OF THE DUMP (.gsa) THAT YtjiljhijenbpbaaProg.lean LOADS. Nothing in Lean hashes anything: it is a label: what it is worth is what the hold of that sum in a sandbox is worth. -/
noncomputable def Try.pinned : Pinned := { name := "ytjiljhijenbpbaa", sum := "6415088ce18f758d8d8946db0aacdb66bb5e787201c40a560972066722af307b", checked := Try.checked }
namespace Rows
def none {H : Type} : Left H := { results := [], args := [] }

/-- 'pointsmanlaw03.SumsNames': WHATEVER THE INPUT: true; the input reads as it did. -/
def sumsNamesSpec : ChangeSpec := { name := "sumsNames", fn := fun _ => fun
  | [d1, d2, d3] => { results := [.lit (.bool true)], args := [d1, d2, d3] }
  | _ => none }
def sumsNamesRow : OpenClaim := { program := "ytjiljhijenbpbaa", sum := "6415088ce18f758d8d8946db0aacdb66bb5e787201c40a560972066722af307b", func := "pointsman/pointsmanlaw03.SumsNames", spec := "sumsNames", unfollowed := true, recurses := true, apart := false }
def SumsNamesSaid : Prop := sumsNamesRow.holds Try.pinned (OpenSpec.ofChange sumsNamesSpec)

/-- ITS FALSE NEIGHBOUR: 'it returns false'. Refute it at one input. -/
def sumsNamesWrong : ChangeSpec := { name := "sumsNames", fn := fun _ => fun
  | [d1, d2, d3] => { results := [.lit (.bool false)], args := [d1, d2, d3] }
  | _ => none }
def SumsNamesWrongFalsely : Prop := sumsNamesRow.holds Try.pinned (OpenSpec.ofChange sumsNamesWrong)

/-- 'pointsmanlaw03.SumsSums': WHATEVER THE INPUT: true; the input reads as it did. -/
def sumsSumsSpec : ChangeSpec := { name := "sumsSums", fn := fun _ => fun
  | [d1, d2] => { results := [.lit (.bool true)], args := [d1, d2] }
  | _ => none }
def sumsSumsRow : OpenClaim := { program := "ytjiljhijenbpbaa", sum := "6415088ce18f758d8d8946db0aacdb66bb5e787201c40a560972066722af307b", func := "pointsman/pointsmanlaw03.SumsSums", spec := "sumsSums", unfollowed := true, recurses := true, apart := false }
def SumsSumsSaid : Prop := sumsSumsRow.holds Try.pinned (OpenSpec.ofChange sumsSumsSpec)

/-- ITS FALSE NEIGHBOUR: 'it returns false'. Refute it at one input. -/
def sumsSumsWrong : ChangeSpec := { name := "sumsSums", fn := fun _ => fun
  | [d1, d2] => { results := [.lit (.bool false)], args := [d1, d2] }
  | _ => none }
def SumsSumsWrongFalsely : Prop := sumsSumsRow.holds Try.pinned (OpenSpec.ofChange sumsSumsWrong)

/-- 'pointsmanlaw03.SumsTurn': WHATEVER THE INPUT: true; the input reads as it did. -/
def sumsTurnSpec : ChangeSpec := { name := "sumsTurn", fn := fun _ => fun
  | [d1, d2, d3] => { results := [.lit (.bool true)], args := [d1, d2, d3] }
  | _ => none }
def sumsTurnRow : OpenClaim := { program := "ytjiljhijenbpbaa", sum := "6415088ce18f758d8d8946db0aacdb66bb5e787201c40a560972066722af307b", func := "pointsman/pointsmanlaw03.SumsTurn", spec := "sumsTurn", unfollowed := true, recurses := true, apart := false }
def SumsTurnSaid : Prop := sumsTurnRow.holds Try.pinned (OpenSpec.ofChange sumsTurnSpec)

/-- ITS FALSE NEIGHBOUR: 'it returns false'. Refute it at one input. -/
def sumsTurnWrong : ChangeSpec := { name := "sumsTurn", fn := fun _ => fun
  | [d1, d2, d3] => { results := [.lit (.bool false)], args := [d1, d2, d3] }
  | _ => none }
def SumsTurnWrongFalsely : Prop := sumsTurnRow.holds Try.pinned (OpenSpec.ofChange sumsTurnWrong)

/-- 'pointsmanlaw03.SumsSpoils': WHATEVER THE INPUT: true; the input reads as it did. -/
def sumsSpoilsSpec : ChangeSpec := { name := "sumsSpoils", fn := fun _ => fun
  | [d1, d2, d3] => { results := [.lit (.bool true)], args := [d1, d2, d3] }
  | _ => none }
def sumsSpoilsRow : OpenClaim := { program := "ytjiljhijenbpbaa", sum := "6415088ce18f758d8d8946db0aacdb66bb5e787201c40a560972066722af307b", func := "pointsman/pointsmanlaw03.SumsSpoils", spec := "sumsSpoils", unfollowed := true, recurses := true, apart := false }
def SumsSpoilsSaid : Prop := sumsSpoilsRow.holds Try.pinned (OpenSpec.ofChange sumsSpoilsSpec)

/-- ITS FALSE NEIGHBOUR: 'it returns false'. Refute it at one input. -/
def sumsSpoilsWrong : ChangeSpec := { name := "sumsSpoils", fn := fun _ => fun
  | [d1, d2, d3] => { results := [.lit (.bool false)], args := [d1, d2, d3] }
  | _ => none }
def SumsSpoilsWrongFalsely : Prop := sumsSpoilsRow.holds Try.pinned (OpenSpec.ofChange sumsSpoilsWrong)

/-- 'pointsmanlaw03.SumsEnds': WHATEVER THE INPUT: true; the input reads as it did. -/
def sumsEndsSpec : ChangeSpec := { name := "sumsEnds", fn := fun _ => fun
  | [d] => { results := [.lit (.bool true)], args := [d] }
  | _ => none }
def sumsEndsRow : OpenClaim := { program := "ytjiljhijenbpbaa", sum := "6415088ce18f758d8d8946db0aacdb66bb5e787201c40a560972066722af307b", func := "pointsman/pointsmanlaw03.SumsEnds", spec := "sumsEnds", unfollowed := true, recurses := true, apart := false }
def SumsEndsSaid : Prop := sumsEndsRow.holds Try.pinned (OpenSpec.ofChange sumsEndsSpec)

/-- ITS FALSE NEIGHBOUR: 'it returns false'. Refute it at one input. -/
def sumsEndsWrong : ChangeSpec := { name := "sumsEnds", fn := fun _ => fun
  | [d] => { results := [.lit (.bool false)], args := [d] }
  | _ => none }
def SumsEndsWrongFalsely : Prop := sumsEndsRow.holds Try.pinned (OpenSpec.ofChange sumsEndsWrong)

/-- 'pointsmanlaw03.SumsJoins': WHATEVER THE INPUT: true; the input reads as it did. -/
def sumsJoinsSpec : ChangeSpec := { name := "sumsJoins", fn := fun _ => fun
  | [d1, d2, d3] => { results := [.lit (.bool true)], args := [d1, d2, d3] }
  | _ => none }
def sumsJoinsRow : OpenClaim := { program := "ytjiljhijenbpbaa", sum := "6415088ce18f758d8d8946db0aacdb66bb5e787201c40a560972066722af307b", func := "pointsman/pointsmanlaw03.SumsJoins", spec := "sumsJoins", unfollowed := true, recurses := true, apart := false }
def SumsJoinsSaid : Prop := sumsJoinsRow.holds Try.pinned (OpenSpec.ofChange sumsJoinsSpec)

/-- ITS FALSE NEIGHBOUR: 'it returns false'. Refute it at one input. -/
def sumsJoinsWrong : ChangeSpec := { name := "sumsJoins", fn := fun _ => fun
  | [d1, d2, d3] => { results := [.lit (.bool false)], args := [d1, d2, d3] }
  | _ => none }
def SumsJoinsWrongFalsely : Prop := sumsJoinsRow.holds Try.pinned (OpenSpec.ofChange sumsJoinsWrong)

/-- 'pointsmanlaw03.SumsWidths': WHATEVER THE INPUT: true; the input reads as it did. -/
def sumsWidthsSpec : ChangeSpec := { name := "sumsWidths", fn := fun _ => fun
  | [d1, d2] => { results := [.lit (.bool true)], args := [d1, d2] }
  | _ => none }
def sumsWidthsRow : OpenClaim := { program := "ytjiljhijenbpbaa", sum := "6415088ce18f758d8d8946db0aacdb66bb5e787201c40a560972066722af307b", func := "pointsman/pointsmanlaw03.SumsWidths", spec := "sumsWidths", unfollowed := true, recurses := true, apart := false }
def SumsWidthsSaid : Prop := sumsWidthsRow.holds Try.pinned (OpenSpec.ofChange sumsWidthsSpec)

/-- ITS FALSE NEIGHBOUR: 'it returns false'. Refute it at one input. -/
def sumsWidthsWrong : ChangeSpec := { name := "sumsWidths", fn := fun _ => fun
  | [d1, d2] => { results := [.lit (.bool false)], args := [d1, d2] }
  | _ => none }
def SumsWidthsWrongFalsely : Prop := sumsWidthsRow.holds Try.pinned (OpenSpec.ofChange sumsWidthsWrong)

/- THE SECOND FORM. 'bulk': how many values and letters a reading holds, each counted each time it is reached (what is shared counts as often as it is met; a slice's spare places count too). A statement '..UptoSaid' is the law's where the arguments, and the package variables that the reading takes, are together of bulk at most 1048576: NARROWER than '..Said'. Prove '..Said' where nothing that the law and all that it calls make is longer than what came in: it says more and counts as full. Else prove '..UptoSaid'. A law counts once. -/
mutual
def uptoBulk {H : Type} : DataW H → Nat
  | .lit (.string bytes) => bytes.length + 1
  | .lit _ => 1
  | .nil => 1
  | .ptr d => uptoBulk d + 1
  | .slice elems spare => uptoBulkAll elems + uptoBulkAll spare + 1
  | .agg parts => uptoBulkAll parts + 1
  | .iface _ d => uptoBulk d + 1
  | .map entries => uptoBulkEntries entries + 1
  | .held _ => 1
def uptoBulkAll {H : Type} : List (DataW H) → Nat
  | [] => 0
  | d :: r => uptoBulk d + uptoBulkAll r
def uptoBulkEntries {H : Type} : List (Lit × DataW H) → Nat
  | [] => 0
  | x :: r => uptoBulkEntry x + uptoBulkEntries r
def uptoBulkEntry {H : Type} : Lit × DataW H → Nat
  | (.string bytes, d) => bytes.length + uptoBulk d + 1
  | (_, d) => uptoBulk d + 1
 end
def uptoSmall : (H : Type) → List (DataW H) → Bool := fun _ ds => decide (uptoBulkAll ds ≤ 1048576)
def OpenSpec.upto (s : _root_.Go.ChangeSpec) : _root_.Go.OpenSpec := { _root_.Go.OpenSpec.ofChange s with cond := some uptoSmall }

/-- 'pointsmanlaw03.SumsNames', WHERE WHAT IT READS IS OF BULK AT MOST 1048576: true; the input reads as it did. -/
def sumsNamesUptoRow : OpenClaim := { program := "ytjiljhijenbpbaa", sum := "6415088ce18f758d8d8946db0aacdb66bb5e787201c40a560972066722af307b", func := "pointsman/pointsmanlaw03.SumsNames", spec := "sumsNames", unfollowed := true, recurses := true, apart := false, narrowed := true }
def SumsNamesUptoSaid : Prop := sumsNamesUptoRow.holds Try.pinned (OpenSpec.upto sumsNamesSpec)

/-- 'pointsmanlaw03.SumsSums', WHERE WHAT IT READS IS OF BULK AT MOST 1048576: true; the input reads as it did. -/
def sumsSumsUptoRow : OpenClaim := { program := "ytjiljhijenbpbaa", sum := "6415088ce18f758d8d8946db0aacdb66bb5e787201c40a560972066722af307b", func := "pointsman/pointsmanlaw03.SumsSums", spec := "sumsSums", unfollowed := true, recurses := true, apart := false, narrowed := true }
def SumsSumsUptoSaid : Prop := sumsSumsUptoRow.holds Try.pinned (OpenSpec.upto sumsSumsSpec)

/-- 'pointsmanlaw03.SumsTurn', WHERE WHAT IT READS IS OF BULK AT MOST 1048576: true; the input reads as it did. -/
def sumsTurnUptoRow : OpenClaim := { program := "ytjiljhijenbpbaa", sum := "6415088ce18f758d8d8946db0aacdb66bb5e787201c40a560972066722af307b", func := "pointsman/pointsmanlaw03.SumsTurn", spec := "sumsTurn", unfollowed := true, recurses := true, apart := false, narrowed := true }
def SumsTurnUptoSaid : Prop := sumsTurnUptoRow.holds Try.pinned (OpenSpec.upto sumsTurnSpec)

/-- 'pointsmanlaw03.SumsSpoils', WHERE WHAT IT READS IS OF BULK AT MOST 1048576: true; the input reads as it did. -/
def sumsSpoilsUptoRow : OpenClaim := { program := "ytjiljhijenbpbaa", sum := "6415088ce18f758d8d8946db0aacdb66bb5e787201c40a560972066722af307b", func := "pointsman/pointsmanlaw03.SumsSpoils", spec := "sumsSpoils", unfollowed := true, recurses := true, apart := false, narrowed := true }
def SumsSpoilsUptoSaid : Prop := sumsSpoilsUptoRow.holds Try.pinned (OpenSpec.upto sumsSpoilsSpec)

/-- 'pointsmanlaw03.SumsEnds', WHERE WHAT IT READS IS OF BULK AT MOST 1048576: true; the input reads as it did. -/
def sumsEndsUptoRow : OpenClaim := { program := "ytjiljhijenbpbaa", sum := "6415088ce18f758d8d8946db0aacdb66bb5e787201c40a560972066722af307b", func := "pointsman/pointsmanlaw03.SumsEnds", spec := "sumsEnds", unfollowed := true, recurses := true, apart := false, narrowed := true }
def SumsEndsUptoSaid : Prop := sumsEndsUptoRow.holds Try.pinned (OpenSpec.upto sumsEndsSpec)

/-- 'pointsmanlaw03.SumsJoins', WHERE WHAT IT READS IS OF BULK AT MOST 1048576: true; the input reads as it did. -/
def sumsJoinsUptoRow : OpenClaim := { program := "ytjiljhijenbpbaa", sum := "6415088ce18f758d8d8946db0aacdb66bb5e787201c40a560972066722af307b", func := "pointsman/pointsmanlaw03.SumsJoins", spec := "sumsJoins", unfollowed := true, recurses := true, apart := false, narrowed := true }
def SumsJoinsUptoSaid : Prop := sumsJoinsUptoRow.holds Try.pinned (OpenSpec.upto sumsJoinsSpec)

/-- 'pointsmanlaw03.SumsWidths', WHERE WHAT IT READS IS OF BULK AT MOST 1048576: true; the input reads as it did. -/
def sumsWidthsUptoRow : OpenClaim := { program := "ytjiljhijenbpbaa", sum := "6415088ce18f758d8d8946db0aacdb66bb5e787201c40a560972066722af307b", func := "pointsman/pointsmanlaw03.SumsWidths", spec := "sumsWidths", unfollowed := true, recurses := true, apart := false, narrowed := true }
def SumsWidthsUptoSaid : Prop := sumsWidthsUptoRow.holds Try.pinned (OpenSpec.upto sumsWidthsSpec)

end Rows
end Go.Proofs.Ytjiljhijenbpbaa
