/-
  No cell of these rows narrows 'for every input' (looked for: loops, veiled, ifaces, maps, wideKeys, modest, calm, conditions, laid).
  DERIVED. THE GIVEN ROWS OF THIS SEAT. 5 by the template 'for every input the law returns true; each argument reads behind the call as it read before'; 0 by the template 'total and deterministic' (their statements: YtanimonhnngfkaaTotals.lean).
  GIVEN WITH THE SEED: the statements are not yours to turn. If you find one false, say at which input.
  Laid BY PROGRAM, IN A SANDBOX (cutbox-rows.mjs): the forced cells as the released guide's own fill.sh prints them over the translation d6c525d028f0d21a… (all of the seat's roots in one cut). By AI agents, Wed Nov 11 2026. No macro, syntax, notation, axiom, sorry.
-/
import Derived.Test.YtanimonhnngfkaaChecked
import GoSem.Claim
import GoSem.ClaimJoined
import GoSem.ClaimMapViews
import Derived.JoinedTies
import Derived.KernelRfl
namespace Go.Proofs.Ytanimonhnngfkaa
/- THE CELL 'sum', in the pinned program and in every row, IS THE sha256 OF THE DUMP (.gsa) THAT YtanimonhnngfkaaProg.lean LOADS. Nothing in Lean hashes anything: it is a label: what it is worth is what the hold of that sum in a sandbox is worth. -/
noncomputable def Try.pinned : Pinned := { name := "ytanimonhnngfkaa", sum := "d6c525d028f0d21a373088797a7b97b1d0ae75532edbf388bdad06d392f816fa", checked := Try.checked }
namespace Rows
def none {H : Type} : Left H := { results := [], args := [] }

/-- 'pointsmanlaw14.CellsApart': WHATEVER THE INPUT: true; the input reads as it did. -/
def cellsApartSpec : ChangeSpec := { name := "cellsApart", fn := fun _ => fun
  | [d1, d2] => { results := [.lit (.bool true)], args := [d1, d2] }
  | _ => none }
def cellsApartRow : OpenClaim := { program := "ytanimonhnngfkaa", sum := "d6c525d028f0d21a373088797a7b97b1d0ae75532edbf388bdad06d392f816fa", func := "pointsman/pointsmanlaw14.CellsApart", spec := "cellsApart", unfollowed := true, recurses := true, apart := false }
def CellsApartSaid : Prop := cellsApartRow.holds Try.pinned (OpenSpec.ofChange cellsApartSpec)

/-- ITS FALSE NEIGHBOUR: 'it returns false'. Refute it at one input. -/
def cellsApartWrong : ChangeSpec := { name := "cellsApart", fn := fun _ => fun
  | [d1, d2] => { results := [.lit (.bool false)], args := [d1, d2] }
  | _ => none }
def CellsApartWrongFalsely : Prop := cellsApartRow.holds Try.pinned (OpenSpec.ofChange cellsApartWrong)

/-- 'pointsmanlaw14.CellsRandom': WHATEVER THE INPUT: true; the input reads as it did. -/
def cellsRandomSpec : ChangeSpec := { name := "cellsRandom", fn := fun _ => fun
  | [d1, d2] => { results := [.lit (.bool true)], args := [d1, d2] }
  | _ => none }
def cellsRandomRow : OpenClaim := { program := "ytanimonhnngfkaa", sum := "d6c525d028f0d21a373088797a7b97b1d0ae75532edbf388bdad06d392f816fa", func := "pointsman/pointsmanlaw14.CellsRandom", spec := "cellsRandom", unfollowed := true, recurses := true, apart := false }
def CellsRandomSaid : Prop := cellsRandomRow.holds Try.pinned (OpenSpec.ofChange cellsRandomSpec)

/-- ITS FALSE NEIGHBOUR: 'it returns false'. Refute it at one input. -/
def cellsRandomWrong : ChangeSpec := { name := "cellsRandom", fn := fun _ => fun
  | [d1, d2] => { results := [.lit (.bool false)], args := [d1, d2] }
  | _ => none }
def CellsRandomWrongFalsely : Prop := cellsRandomRow.holds Try.pinned (OpenSpec.ofChange cellsRandomWrong)

/-- 'pointsmanlaw14.CellsWide': WHATEVER THE INPUT: true; the input reads as it did. -/
def cellsWideSpec : ChangeSpec := { name := "cellsWide", fn := fun _ => fun
  | [d1, d2] => { results := [.lit (.bool true)], args := [d1, d2] }
  | _ => none }
def cellsWideRow : OpenClaim := { program := "ytanimonhnngfkaa", sum := "d6c525d028f0d21a373088797a7b97b1d0ae75532edbf388bdad06d392f816fa", func := "pointsman/pointsmanlaw14.CellsWide", spec := "cellsWide", unfollowed := true, recurses := true, apart := false }
def CellsWideSaid : Prop := cellsWideRow.holds Try.pinned (OpenSpec.ofChange cellsWideSpec)

/-- ITS FALSE NEIGHBOUR: 'it returns false'. Refute it at one input. -/
def cellsWideWrong : ChangeSpec := { name := "cellsWide", fn := fun _ => fun
  | [d1, d2] => { results := [.lit (.bool false)], args := [d1, d2] }
  | _ => none }
def CellsWideWrongFalsely : Prop := cellsWideRow.holds Try.pinned (OpenSpec.ofChange cellsWideWrong)

/-- 'pointsmanlaw14.CellsKeep': WHATEVER THE INPUT: true; the input reads as it did. -/
def cellsKeepSpec : ChangeSpec := { name := "cellsKeep", fn := fun _ => fun
  | [d1, d2, d3] => { results := [.lit (.bool true)], args := [d1, d2, d3] }
  | _ => none }
def cellsKeepRow : OpenClaim := { program := "ytanimonhnngfkaa", sum := "d6c525d028f0d21a373088797a7b97b1d0ae75532edbf388bdad06d392f816fa", func := "pointsman/pointsmanlaw14.CellsKeep", spec := "cellsKeep", unfollowed := true, recurses := true, apart := false }
def CellsKeepSaid : Prop := cellsKeepRow.holds Try.pinned (OpenSpec.ofChange cellsKeepSpec)

/-- ITS FALSE NEIGHBOUR: 'it returns false'. Refute it at one input. -/
def cellsKeepWrong : ChangeSpec := { name := "cellsKeep", fn := fun _ => fun
  | [d1, d2, d3] => { results := [.lit (.bool false)], args := [d1, d2, d3] }
  | _ => none }
def CellsKeepWrongFalsely : Prop := cellsKeepRow.holds Try.pinned (OpenSpec.ofChange cellsKeepWrong)

/-- 'pointsmanlaw14.CellsRate': WHATEVER THE INPUT: true; the input reads as it did. -/
def cellsRateSpec : ChangeSpec := { name := "cellsRate", fn := fun _ => fun
  | [d1, d2, d3] => { results := [.lit (.bool true)], args := [d1, d2, d3] }
  | _ => none }
def cellsRateRow : OpenClaim := { program := "ytanimonhnngfkaa", sum := "d6c525d028f0d21a373088797a7b97b1d0ae75532edbf388bdad06d392f816fa", func := "pointsman/pointsmanlaw14.CellsRate", spec := "cellsRate", unfollowed := true, recurses := true, apart := false }
def CellsRateSaid : Prop := cellsRateRow.holds Try.pinned (OpenSpec.ofChange cellsRateSpec)

/-- ITS FALSE NEIGHBOUR: 'it returns false'. Refute it at one input. -/
def cellsRateWrong : ChangeSpec := { name := "cellsRate", fn := fun _ => fun
  | [d1, d2, d3] => { results := [.lit (.bool false)], args := [d1, d2, d3] }
  | _ => none }
def CellsRateWrongFalsely : Prop := cellsRateRow.holds Try.pinned (OpenSpec.ofChange cellsRateWrong)

/- THE SECOND FORM. 'bulk': how many values and letters a reading holds, each counted each time it is reached (what is shared counts as often as it is met; a slice's spare places count too). A statement '..UptoSaid' is the law's where the arguments, and the package variables that the reading takes, are together of bulk at most 1048576: NARROWER than '..Said'. Prove '..Said' where nothing that the law and all that it calls make is longer than what came in: it says more and counts as full. Else prove '..UptoSaid'. A law counts once. -/
mutual
def uptoBulk {H : Type} : DataW H → Nat
  | .lit (.string bytes) => bytes.length + 1
  | .lit _ => 1
  | .nil => 1
  | .ptr d => uptoBulk d + 1
  | .slice elems spare => uptoBulkAll elems + uptoBulkAll spare + 1
  | .agg parts => uptoBulkAll parts + 1
  | .iface _ d => uptoBulk d + 1
  | .map entries => uptoBulkEntries entries + 1
  | .held _ => 1
def uptoBulkAll {H : Type} : List (DataW H) → Nat
  | [] => 0
  | d :: r => uptoBulk d + uptoBulkAll r
def uptoBulkEntries {H : Type} : List (Lit × DataW H) → Nat
  | [] => 0
  | x :: r => uptoBulkEntry x + uptoBulkEntries r
def uptoBulkEntry {H : Type} : Lit × DataW H → Nat
  | (.string bytes, d) => bytes.length + uptoBulk d + 1
  | (_, d) => uptoBulk d + 1
 end
def uptoSmall : (H : Type) → List (DataW H) → Bool := fun _ ds => decide (uptoBulkAll ds ≤ 1048576)
def OpenSpec.upto (s : _root_.Go.ChangeSpec) : _root_.Go.OpenSpec := { _root_.Go.OpenSpec.ofChange s with cond := some uptoSmall }

/-- 'pointsmanlaw14.CellsApart', WHERE WHAT IT READS IS OF BULK AT MOST 1048576: true; the input reads as it did. -/
def cellsApartUptoRow : OpenClaim := { program := "ytanimonhnngfkaa", sum := "d6c525d028f0d21a373088797a7b97b1d0ae75532edbf388bdad06d392f816fa", func := "pointsman/pointsmanlaw14.CellsApart", spec := "cellsApart", unfollowed := true, recurses := true, apart := false, narrowed := true }
def CellsApartUptoSaid : Prop := cellsApartUptoRow.holds Try.pinned (OpenSpec.upto cellsApartSpec)

/-- 'pointsmanlaw14.CellsRandom', WHERE WHAT IT READS IS OF BULK AT MOST 1048576: true; the input reads as it did. -/
def cellsRandomUptoRow : OpenClaim := { program := "ytanimonhnngfkaa", sum := "d6c525d028f0d21a373088797a7b97b1d0ae75532edbf388bdad06d392f816fa", func := "pointsman/pointsmanlaw14.CellsRandom", spec := "cellsRandom", unfollowed := true, recurses := true, apart := false, narrowed := true }
def CellsRandomUptoSaid : Prop := cellsRandomUptoRow.holds Try.pinned (OpenSpec.upto cellsRandomSpec)

/-- 'pointsmanlaw14.CellsWide', WHERE WHAT IT READS IS OF BULK AT MOST 1048576: true; the input reads as it did. -/
def cellsWideUptoRow : OpenClaim := { program := "ytanimonhnngfkaa", sum := "d6c525d028f0d21a373088797a7b97b1d0ae75532edbf388bdad06d392f816fa", func := "pointsman/pointsmanlaw14.CellsWide", spec := "cellsWide", unfollowed := true, recurses := true, apart := false, narrowed := true }
def CellsWideUptoSaid : Prop := cellsWideUptoRow.holds Try.pinned (OpenSpec.upto cellsWideSpec)

/-- 'pointsmanlaw14.CellsKeep', WHERE WHAT IT READS IS OF BULK AT MOST 1048576: true; the input reads as it did. -/
def cellsKeepUptoRow : OpenClaim := { program := "ytanimonhnngfkaa", sum := "d6c525d028f0d21a373088797a7b97b1d0ae75532edbf388bdad06d392f816fa", func := "pointsman/pointsmanlaw14.CellsKeep", spec := "cellsKeep", unfollowed := true, recurses := true, apart := false, narrowed := true }
def CellsKeepUptoSaid : Prop := cellsKeepUptoRow.holds Try.pinned (OpenSpec.upto cellsKeepSpec)

/-- 'pointsmanlaw14.CellsRate', WHERE WHAT IT READS IS OF BULK AT MOST 1048576: true; the input reads as it did. -/
def cellsRateUptoRow : OpenClaim := { program := "ytanimonhnngfkaa", sum := "d6c525d028f0d21a373088797a7b97b1d0ae75532edbf388bdad06d392f816fa", func := "pointsman/pointsmanlaw14.CellsRate", spec := "cellsRate", unfollowed := true, recurses := true, apart := false, narrowed := true }
def CellsRateUptoSaid : Prop := cellsRateUptoRow.holds Try.pinned (OpenSpec.upto cellsRateSpec)

end Rows
end Go.Proofs.Ytanimonhnngfkaa
