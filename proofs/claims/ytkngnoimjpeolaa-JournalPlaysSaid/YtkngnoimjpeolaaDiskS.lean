/-
  The contract of a disk of the law's own.
-/
import Derived.Test.YtkngnoimjpeolaaDisk3
import Derived.Test.YtkngnoimjpeolaaSame
set_option linter.unusedVariables false
set_option linter.unusedSimpArgs false
namespace Go.Proofs.Ytkngnoimjpeolaa
open Go.RowKit

/-- A disk of the law's own, in a world that is the law's first one below block B. -/
def DS (B : Nat) (w0 w : World) (g : Nat) (room : Int) (bs : List Int) (off : Bool) (fl : Option Int) : Prop :=
  ∃ F : Nat → Prop, (∀ k, F k → B ≤ k) ∧ DiskAt F w g room bs off fl ∧ Below B w0 w ∧ B ≤ w.heap.size
theorem DS.below {B : Nat} {w0 w : World} {g : Nat} {room : Int} {bs : List Int} {off : Bool} {fl : Option Int} (h : DS B w0 w g room bs off fl) : Below B w0 w := by obtain ⟨F, _, _, h, _⟩ := h; exact h
theorem DS.size {B : Nat} {w0 w : World} {g : Nat} {room : Int} {bs : List Int} {off : Bool} {fl : Option Int} (h : DS B w0 w g room bs off fl) : B ≤ w.heap.size := by obtain ⟨F, _, _, _, h⟩ := h; exact h
theorem DS.alloc {B : Nat} {w0 w : World} {g : Nat} {room : Int} {bs : List Int} {off : Bool} {fl : Option Int} (h : DS B w0 w g room bs off fl) (o : Obj) : DS B w0 (w.alloc o) g room bs off fl := by
  obtain ⟨F, hF, hD, hB, hs⟩ := h
  exact ⟨F, hF, hD.foot ((Foot.refl (fun _ => False) w).alloc o) (fun _ _ h => h), hB.alloc hs o, by simp; omega⟩
theorem DS.drewN {B : Nat} {w0 w : World} {g : Nat} {room : Int} {bs : List Int} {off : Bool} {fl : Option Int} (h : DS B w0 w g room bs off fl) (n : Nat) : DS B w0 (w.drewN n) g room bs off fl := by
  obtain ⟨F, hF, hD, hB, hs⟩ := h
  exact ⟨F, hF, hD, ⟨hB.os, hB.tape, hB.output, hB.size, hB.block⟩, hs⟩
theorem DS.to {B : Nat} {w0 w w' : World} {g : Nat} {room' : Int} {bs' : List Int} {off' : Bool} {fl' : Option Int} {F : Nat → Prop} (hF : ∀ k, F k → B ≤ k) (hB : Below B w0 w) (hs : B ≤ w.heap.size) (ht : DiskTo F w w' g room' bs' off' fl') : DS B w0 w' g room' bs' off' fl' := by
  obtain ⟨hf, F', hF', hD'⟩ := ht
  exact ⟨F', fun k hk => (hF' k hk).elim (hF k) (fun h => Nat.le_trans hs h), hD', hB.trans (hf.below hF hs), Nat.le_trans hs hf.size⟩
theorem DS.grown {B : Nat} {w0 w w' : World} {g : Nat} {room : Int} {bs : List Int} {off : Bool} {fl : Option Int} (h : DS B w0 w g room bs off fl) (hb : Below w.heap.size w w') : DS B w0 w' g room bs off fl := by
  obtain ⟨F, hF, hD, hB, hs⟩ := h
  exact ⟨F, hF, hD.foot (Foot.ofBelow hb (fun _ => False)) (fun _ _ h => h), hB.trans (hb.mono hs), Nat.le_trans hs hb.size⟩

section
variable {B : Nat} {w0 w : World} {g : Nat} {room : Int} {bs ys : List Int} {off : Bool} {fl : Option Int} {A : Option Addr} {m c : Nat}
theorem DS.new (w : World) (h1 : 1 ≤ room) (h2 : room ≤ 16777216) :
    Calls Try.prog 12 #[.int .i64 room] w fun e w' => e = .returned (.tuple #[.pointer (some ⟨w.heap.size, 0, none⟩), .int .i64 0]) ∧ DS w.heap.size w w' w.heap.size room [] false none :=
  (New_ok room w h1 h2).mono fun e w' ⟨he, hD, hb⟩ => ⟨he, _, fun k hk => by omega, hD, hb, hb.size⟩
theorem DS.appendOk (h : DS B w0 w g room bs false none) (HR : Reads w .u8 A m ys) (hr1 : 1 ≤ room) (hr2 : room ≤ 16777216) (hroom : (m : Int) ≤ room - (bs.length : Int)) :
    Calls Try.prog 22 #[.pointer (some ⟨g, 0, none⟩), .slice A m c] w fun e w' => e = .returned (.int .i64 0) ∧ DS B w0 w' g room (bs ++ ys) false none := by
  obtain ⟨F, hF, hD, hB, hs⟩ := h
  exact (Append_ok hD HR hr1 hr2 hroom).mono fun e w' ⟨he, ht⟩ => ⟨he, DS.to hF hB hs ht⟩
theorem DS.appendFail {n : Int} (h : DS B w0 w g room bs false (some n)) (HR : Reads w .u8 A m ys) (hmc : m ≤ c) (hr1 : 1 ≤ room) (hr2 : room ≤ 16777216) (hroom : (m : Int) ≤ room - (bs.length : Int)) :
    Calls Try.prog 22 #[.pointer (some ⟨g, 0, none⟩), .slice A m c] w fun e w' => e = .returned (.int .i64 13) ∧ DS B w0 w' g room (bs ++ ys.take n.toNat) true none := by
  obtain ⟨F, hF, hD, hB, hs⟩ := h
  exact (Append_fail hD HR hmc hr1 hr2 hroom).mono fun e w' ⟨he, ht⟩ => ⟨he, DS.to hF hB hs ht⟩
theorem DS.appendFull (h : DS B w0 w g room bs false fl) (hr1 : 1 ≤ room) (hr2 : room ≤ 16777216) (hbl : (bs.length : Int) ≤ room) (hm : m ≤ 9223372036854775807) (hroom : room - (bs.length : Int) < (m : Int)) :
    Calls Try.prog 22 #[.pointer (some ⟨g, 0, none⟩), .slice A m c] w fun e w' => e = .returned (.int .i64 10) ∧ DS B w0 w' g room bs false fl := by
  obtain ⟨F, hF, hD, hB, hs⟩ := h
  exact (Append_full hD hr1 hr2 hbl hm hroom).mono fun e w' ⟨he, q, hw⟩ => ⟨he, by subst hw; exact DS.drewN ⟨F, hF, hD, hB, hs⟩ q⟩
theorem DS.appendOff (h : DS B w0 w g room bs true fl) (hr1 : 1 ≤ room) :
    Calls Try.prog 22 #[.pointer (some ⟨g, 0, none⟩), .slice A m c] w fun e w' => e = .returned (.int .i64 13) ∧ w = w' := by
  obtain ⟨F, hF, hD, hB, hs⟩ := h
  exact Append_off hD hr1
theorem DS.fail {n : Int} (h : DS B w0 w g room bs false fl) (hr1 : 1 ≤ room) (hn : 0 ≤ n) :
    Calls Try.prog 14 #[.pointer (some ⟨g, 0, none⟩), .int .i64 n] w fun e w' => e = .returned (.int .i64 0) ∧ DS B w0 w' g room bs false (some n) := by
  obtain ⟨F, hF, hD, hB, hs⟩ := h
  exact (Fail_ok hD hr1 hn).mono fun e w' ⟨he, ht⟩ => ⟨he, DS.to hF hB hs ht⟩
theorem DS.up (h : DS B w0 w g room bs off fl) (hr1 : 1 ≤ room) :
    Calls Try.prog 15 #[.pointer (some ⟨g, 0, none⟩)] w fun e w' => e = .returned (.int .i64 0) ∧ DS B w0 w' g room bs false none := by
  obtain ⟨F, hF, hD, hB, hs⟩ := h
  exact (Up_ok hD hr1).mono fun e w' ⟨he, ht⟩ => ⟨he, DS.to hF hB hs ht⟩
theorem DS.down (h : DS B w0 w g room bs off fl) :
    Calls Try.prog 25 #[.pointer (some ⟨g, 0, none⟩)] w fun e w' => e = .returned (.bool off) ∧ w = w' := by
  obtain ⟨F, hF, hD, hB, hs⟩ := h
  exact Down_ok hD
theorem DS.trimOff {n : Int} (h : DS B w0 w g room bs true fl) (hr1 : 1 ≤ room) :
    Calls Try.prog 33 #[.pointer (some ⟨g, 0, none⟩), .int .i64 n] w fun e w' => e = .returned (.int .i64 13) ∧ w = w' := by
  obtain ⟨F, hF, hD, hB, hs⟩ := h
  exact Trim_off hD hr1
theorem DS.trimNo {n : Int} (h : DS B w0 w g room bs false fl) (hr1 : 1 ≤ room) (hn : 0 ≤ n) (hm : (bs.length : Int) < n) :
    Calls Try.prog 33 #[.pointer (some ⟨g, 0, none⟩), .int .i64 n] w fun e w' => e = .returned (.int .i64 1) ∧ w = w' := by
  obtain ⟨F, hF, hD, hB, hs⟩ := h
  exact Trim_no hD hr1 hn hm
theorem DS.trimYes {n : Int} (h : DS B w0 w g room bs false fl) (hr1 : 1 ≤ room) (hn : 0 ≤ n) (hm : n ≤ (bs.length : Int)) :
    Calls Try.prog 33 #[.pointer (some ⟨g, 0, none⟩), .int .i64 n] w fun e w' => e = .returned (.int .i64 0) ∧ DS B w0 w' g room (bs.take n.toNat) false fl := by
  obtain ⟨F, hF, hD, hB, hs⟩ := h
  obtain ⟨n, rfl⟩ := Int.eq_ofNat_of_zero_le hn
  exact (Trim_yes hD hr1 (by omega)).mono fun e w' ⟨he, ht⟩ => ⟨he, DS.to hF hB hs ht⟩
/-- A slice of the callee's making. -/
def Made (w w' : World) (k : IntKind) (t : TypeId) (e : Ending) (bs : List Int) : Prop := ∃ v, e = .returned v ∧ w'.ownsRow w.heap.size t 1 v bs.length (nums k bs) ∧ Below w.heap.size w w'
theorem DS.bytes (h : DS B w0 w g room bs off fl) (hm : bs.length ≤ 16777216) :
    Calls Try.prog 28 #[.pointer (some ⟨g, 0, none⟩)] w fun e w' => Made w w' .u8 5 e bs := by
  obtain ⟨F, hF, hD, hB, hs⟩ := h
  exact Bytes_ok hD hm
end

theorem reads_lit (w : World) (k : IntKind) (e : TypeId) (xs : List Int) (cs : Array Value) (hc : cs = (nums k xs).toArray) (hl : xs.length ≤ 9223372036854775807) : Reads (w.alloc (.cells cs e)) k (some ⟨w.heap.size, 0, none⟩) xs.length xs := by
  subst hc
  refine ⟨rfl, hl, fun _ => ⟨_, rfl, fun j hj => ?_⟩⟩
  rw [add_plain]
  have e1 := cellOf (heap_alloc_new w (.cells (nums k xs).toArray e)) j
  rw [e1]
  simp [nums, List.getElem?_eq_getElem hj]

end Go.Proofs.Ytkngnoimjpeolaa
