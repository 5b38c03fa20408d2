/-
  A region that draws its order, whose own operations only read: walked once, in a class of worlds that its callees stay in.
-/
import Derived.Test.YtdgilloblfbklabGreatDoorLib
import Derived.Deep.QuietTactic
import Derived.BigQuiet
set_option linter.unusedVariables false
set_option linter.unusedSimpArgs false
namespace Go.Proofs.YtdgilloblfbklabGreatDoor.Own
open Go.RowKit

theorem region_class {P : Program} (C : World → Prop) {id : Nat} {Q : Exit → Act → World → Prop} {a : Act} {w : World} {l : List Oper} (hm : P.follows .mixedOrders = true) (hB : Region.lexB .any l.toArray = true) (hC : C w.drew)
    (h : wpQuiet P l.toArray C (fun a' => ∀ w', C w' → Q .normal a' w') l a) : (Code.region id l.toArray true).wp P Q a w :=
  wp_region_quiet hm hB hC (by simpa using h)
end Go.Proofs.YtdgilloblfbklabGreatDoor.Own
