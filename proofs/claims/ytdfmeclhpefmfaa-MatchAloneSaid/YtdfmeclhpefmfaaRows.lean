/-
  No cell of these rows narrows 'for every input' (looked for: loops, veiled, ifaces, maps, wideKeys, modest, calm, conditions, laid).
  DERIVED. THE GIVEN ROWS OF THIS SEAT. 5 by the template 'for every input the law returns true; each argument reads behind the call as it read before'; 0 by the template 'total and deterministic' (their statements: YtdfmeclhpefmfaaTotals.lean).
  GIVEN WITH THE SEED: the statements are not yours to turn. If you find one false, say at which input.
  Laid BY PROGRAM, IN A SANDBOX (cutbox-rows.mjs): the forced cells as the released guide's own fill.sh prints them over the translation 97af54fa2efeac50… (all of the seat's roots in one cut). By AI agents, Wed Nov 11 2026. No macro, syntax, notation, axiom, sorry.
-/
import Derived.Test.YtdfmeclhpefmfaaChecked
import GoSem.Claim
import GoSem.ClaimJoined
import GoSem.ClaimMapViews
import Derived.JoinedTies
import Derived.KernelRfl
namespace Go.Proofs.Ytdfmeclhpefmfaa
/- THE CELL 'sum', in the pinned program and in every row, IS THE sha256 OF THE DUMP (.gsa) THAT YtdfmeclhpefmfaaProg.lean LOADS. Nothing in Lean hashes anything: it is a label: what it is worth is what the hold of that sum in a sandbox is worth. -/
noncomputable def Try.pinned : Pinned := { name := "ytdfmeclhpefmfaa", sum := "97af54fa2efeac50c45ced1e315b05ec3b1249c4d0604a351459eb5b9d4f5bad", checked := Try.checked }
namespace Rows
def none {H : Type} : Left H := { results := [], args := [] }

/-- 'pointsmanlaw13.MatchOwn': WHATEVER THE INPUT: true; the input reads as it did. -/
def matchOwnSpec : ChangeSpec := { name := "matchOwn", fn := fun _ => fun
  | [d] => { results := [.lit (.bool true)], args := [d] }
  | _ => none }
def matchOwnRow : OpenClaim := { program := "ytdfmeclhpefmfaa", sum := "97af54fa2efeac50c45ced1e315b05ec3b1249c4d0604a351459eb5b9d4f5bad", func := "pointsman/pointsmanlaw13.MatchOwn", spec := "matchOwn", unfollowed := true, recurses := true, apart := false }
def MatchOwnSaid : Prop := matchOwnRow.holds Try.pinned (OpenSpec.ofChange matchOwnSpec)

/-- ITS FALSE NEIGHBOUR: 'it returns false'. Refute it at one input. -/
def matchOwnWrong : ChangeSpec := { name := "matchOwn", fn := fun _ => fun
  | [d] => { results := [.lit (.bool false)], args := [d] }
  | _ => none }
def MatchOwnWrongFalsely : Prop := matchOwnRow.holds Try.pinned (OpenSpec.ofChange matchOwnWrong)

/-- 'pointsmanlaw13.MatchAlone': WHATEVER THE INPUT: true; the input reads as it did. -/
def matchAloneSpec : ChangeSpec := { name := "matchAlone", fn := fun _ => fun
  | [d1, d2] => { results := [.lit (.bool true)], args := [d1, d2] }
  | _ => none }
def matchAloneRow : OpenClaim := { program := "ytdfmeclhpefmfaa", sum := "97af54fa2efeac50c45ced1e315b05ec3b1249c4d0604a351459eb5b9d4f5bad", func := "pointsman/pointsmanlaw13.MatchAlone", spec := "matchAlone", unfollowed := true, recurses := true, apart := false }
def MatchAloneSaid : Prop := matchAloneRow.holds Try.pinned (OpenSpec.ofChange matchAloneSpec)

/-- ITS FALSE NEIGHBOUR: 'it returns false'. Refute it at one input. -/
def matchAloneWrong : ChangeSpec := { name := "matchAlone", fn := fun _ => fun
  | [d1, d2] => { results := [.lit (.bool false)], args := [d1, d2] }
  | _ => none }
def MatchAloneWrongFalsely : Prop := matchAloneRow.holds Try.pinned (OpenSpec.ofChange matchAloneWrong)

/-- 'pointsmanlaw13.MatchExact': WHATEVER THE INPUT: true; the input reads as it did. -/
def matchExactSpec : ChangeSpec := { name := "matchExact", fn := fun _ => fun
  | [d1, d2] => { results := [.lit (.bool true)], args := [d1, d2] }
  | _ => none }
def matchExactRow : OpenClaim := { program := "ytdfmeclhpefmfaa", sum := "97af54fa2efeac50c45ced1e315b05ec3b1249c4d0604a351459eb5b9d4f5bad", func := "pointsman/pointsmanlaw13.MatchExact", spec := "matchExact", unfollowed := true, recurses := true, apart := false }
def MatchExactSaid : Prop := matchExactRow.holds Try.pinned (OpenSpec.ofChange matchExactSpec)

/-- ITS FALSE NEIGHBOUR: 'it returns false'. Refute it at one input. -/
def matchExactWrong : ChangeSpec := { name := "matchExact", fn := fun _ => fun
  | [d1, d2] => { results := [.lit (.bool false)], args := [d1, d2] }
  | _ => none }
def MatchExactWrongFalsely : Prop := matchExactRow.holds Try.pinned (OpenSpec.ofChange matchExactWrong)

/-- 'pointsmanlaw13.MatchLongest': WHATEVER THE INPUT: true; the input reads as it did. -/
def matchLongestSpec : ChangeSpec := { name := "matchLongest", fn := fun _ => fun
  | [d1, d2] => { results := [.lit (.bool true)], args := [d1, d2] }
  | _ => none }
def matchLongestRow : OpenClaim := { program := "ytdfmeclhpefmfaa", sum := "97af54fa2efeac50c45ced1e315b05ec3b1249c4d0604a351459eb5b9d4f5bad", func := "pointsman/pointsmanlaw13.MatchLongest", spec := "matchLongest", unfollowed := true, recurses := true, apart := false }
def MatchLongestSaid : Prop := matchLongestRow.holds Try.pinned (OpenSpec.ofChange matchLongestSpec)

/-- ITS FALSE NEIGHBOUR: 'it returns false'. Refute it at one input. -/
def matchLongestWrong : ChangeSpec := { name := "matchLongest", fn := fun _ => fun
  | [d1, d2] => { results := [.lit (.bool false)], args := [d1, d2] }
  | _ => none }
def MatchLongestWrongFalsely : Prop := matchLongestRow.holds Try.pinned (OpenSpec.ofChange matchLongestWrong)

/-- 'pointsmanlaw13.MatchThere': WHATEVER THE INPUT: true; the input reads as it did. -/
def matchThereSpec : ChangeSpec := { name := "matchThere", fn := fun _ => fun
  | [d] => { results := [.lit (.bool true)], args := [d] }
  | _ => none }
def matchThereRow : OpenClaim := { program := "ytdfmeclhpefmfaa", sum := "97af54fa2efeac50c45ced1e315b05ec3b1249c4d0604a351459eb5b9d4f5bad", func := "pointsman/pointsmanlaw13.MatchThere", spec := "matchThere", unfollowed := true, recurses := true, apart := false }
def MatchThereSaid : Prop := matchThereRow.holds Try.pinned (OpenSpec.ofChange matchThereSpec)

/-- ITS FALSE NEIGHBOUR: 'it returns false'. Refute it at one input. -/
def matchThereWrong : ChangeSpec := { name := "matchThere", fn := fun _ => fun
  | [d] => { results := [.lit (.bool false)], args := [d] }
  | _ => none }
def MatchThereWrongFalsely : Prop := matchThereRow.holds Try.pinned (OpenSpec.ofChange matchThereWrong)

/- THE SECOND FORM. 'bulk': how many values and letters a reading holds, each counted each time it is reached (what is shared counts as often as it is met; a slice's spare places count too). A statement '..UptoSaid' is the law's where the arguments, and the package variables that the reading takes, are together of bulk at most 1048576: NARROWER than '..Said'. Prove '..Said' where nothing that the law and all that it calls make is longer than what came in: it says more and counts as full. Else prove '..UptoSaid'. A law counts once. -/
mutual
def uptoBulk {H : Type} : DataW H → Nat
  | .lit (.string bytes) => bytes.length + 1
  | .lit _ => 1
  | .nil => 1
  | .ptr d => uptoBulk d + 1
  | .slice elems spare => uptoBulkAll elems + uptoBulkAll spare + 1
  | .agg parts => uptoBulkAll parts + 1
  | .iface _ d => uptoBulk d + 1
  | .map entries => uptoBulkEntries entries + 1
  | .held _ => 1
def uptoBulkAll {H : Type} : List (DataW H) → Nat
  | [] => 0
  | d :: r => uptoBulk d + uptoBulkAll r
def uptoBulkEntries {H : Type} : List (Lit × DataW H) → Nat
  | [] => 0
  | x :: r => uptoBulkEntry x + uptoBulkEntries r
def uptoBulkEntry {H : Type} : Lit × DataW H → Nat
  | (.string bytes, d) => bytes.length + uptoBulk d + 1
  | (_, d) => uptoBulk d + 1
 end
def uptoSmall : (H : Type) → List (DataW H) → Bool := fun _ ds => decide (uptoBulkAll ds ≤ 1048576)
def OpenSpec.upto (s : _root_.Go.ChangeSpec) : _root_.Go.OpenSpec := { _root_.Go.OpenSpec.ofChange s with cond := some uptoSmall }

/-- 'pointsmanlaw13.MatchOwn', WHERE WHAT IT READS IS OF BULK AT MOST 1048576: true; the input reads as it did. -/
def matchOwnUptoRow : OpenClaim := { program := "ytdfmeclhpefmfaa", sum := "97af54fa2efeac50c45ced1e315b05ec3b1249c4d0604a351459eb5b9d4f5bad", func := "pointsman/pointsmanlaw13.MatchOwn", spec := "matchOwn", unfollowed := true, recurses := true, apart := false, narrowed := true }
def MatchOwnUptoSaid : Prop := matchOwnUptoRow.holds Try.pinned (OpenSpec.upto matchOwnSpec)

/-- 'pointsmanlaw13.MatchAlone', WHERE WHAT IT READS IS OF BULK AT MOST 1048576: true; the input reads as it did. -/
def matchAloneUptoRow : OpenClaim := { program := "ytdfmeclhpefmfaa", sum := "97af54fa2efeac50c45ced1e315b05ec3b1249c4d0604a351459eb5b9d4f5bad", func := "pointsman/pointsmanlaw13.MatchAlone", spec := "matchAlone", unfollowed := true, recurses := true, apart := false, narrowed := true }
def MatchAloneUptoSaid : Prop := matchAloneUptoRow.holds Try.pinned (OpenSpec.upto matchAloneSpec)

/-- 'pointsmanlaw13.MatchExact', WHERE WHAT IT READS IS OF BULK AT MOST 1048576: true; the input reads as it did. -/
def matchExactUptoRow : OpenClaim := { program := "ytdfmeclhpefmfaa", sum := "97af54fa2efeac50c45ced1e315b05ec3b1249c4d0604a351459eb5b9d4f5bad", func := "pointsman/pointsmanlaw13.MatchExact", spec := "matchExact", unfollowed := true, recurses := true, apart := false, narrowed := true }
def MatchExactUptoSaid : Prop := matchExactUptoRow.holds Try.pinned (OpenSpec.upto matchExactSpec)

/-- 'pointsmanlaw13.MatchLongest', WHERE WHAT IT READS IS OF BULK AT MOST 1048576: true; the input reads as it did. -/
def matchLongestUptoRow : OpenClaim := { program := "ytdfmeclhpefmfaa", sum := "97af54fa2efeac50c45ced1e315b05ec3b1249c4d0604a351459eb5b9d4f5bad", func := "pointsman/pointsmanlaw13.MatchLongest", spec := "matchLongest", unfollowed := true, recurses := true, apart := false, narrowed := true }
def MatchLongestUptoSaid : Prop := matchLongestUptoRow.holds Try.pinned (OpenSpec.upto matchLongestSpec)

/-- 'pointsmanlaw13.MatchThere', WHERE WHAT IT READS IS OF BULK AT MOST 1048576: true; the input reads as it did. -/
def matchThereUptoRow : OpenClaim := { program := "ytdfmeclhpefmfaa", sum := "97af54fa2efeac50c45ced1e315b05ec3b1249c4d0604a351459eb5b9d4f5bad", func := "pointsman/pointsmanlaw13.MatchThere", spec := "matchThere", unfollowed := true, recurses := true, apart := false, narrowed := true }
def MatchThereUptoSaid : Prop := matchThereUptoRow.holds Try.pinned (OpenSpec.upto matchThereSpec)

end Rows
end Go.Proofs.Ytdfmeclhpefmfaa
