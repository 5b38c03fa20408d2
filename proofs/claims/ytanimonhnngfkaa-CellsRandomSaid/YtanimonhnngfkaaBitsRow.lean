/-
  Numbers of bits as they lie in slices, and as they come in.
-/
import Derived.Test.YtanimonhnngfkaaProg
import Derived.Test.YtanimonhnngfkaaCame
set_option linter.unusedVariables false
set_option linter.unusedSimpArgs false
namespace Go.Proofs.Ytanimonhnngfkaa
open Go.RowKit

/-- A number of bits, as it is told. -/
structure Num where
  W : Int
  Hi : Int
  Lo : Int
instance : Inhabited Num := ⟨⟨0, 0, 0⟩⟩
def Num.wf (x : Num) : Prop := (-9223372036854775808 ≤ x.W ∧ x.W ≤ 9223372036854775807) ∧ (0 ≤ x.Hi ∧ x.Hi ≤ 18446744073709551615) ∧ (0 ≤ x.Lo ∧ x.Lo ≤ 18446744073709551615)
def Num.v (x : Num) : Value := .agg #[.int .i64 x.W, .int .u64 x.Hi, .int .u64 x.Lo]
def zeroNum : Num := ⟨0, 0, 0⟩

/-- A slice of numbers that is read. -/
def ReadsNums (w : World) (A : Option Addr) (n : Nat) (xs : List Num) : Prop :=
  xs.length = n ∧ n ≤ 9223372036854775807 ∧ (0 < n → ∃ b off, A = some ⟨b, off, none⟩ ∧ b < w.heap.size ∧ ∀ j, j < n → w.cell? ⟨b, off + j * 3, none⟩ = some (.int .i64 (xs.getD j zeroNum).W) ∧ w.cell? ⟨b, off + (j * 3 + 1), none⟩ = some (.int .u64 (xs.getD j zeroNum).Hi) ∧ w.cell? ⟨b, off + (j * 3 + 2), none⟩ = some (.int .u64 (xs.getD j zeroNum).Lo))
theorem ReadsNums.below {w w' : World} {A : Option Addr} {n : Nat} {xs : List Num} (h : ReadsNums w A n xs) (hb : Below w.heap.size w w') : ReadsNums w' A n xs := by
  refine ⟨h.1, h.2.1, fun hn => ?_⟩
  obtain ⟨b, off, h1, h2, h3⟩ := h.2.2 hn
  refine ⟨b, off, h1, Nat.lt_of_lt_of_le h2 hb.size, fun j hj => ?_⟩
  obtain ⟨c0, c1, c2⟩ := h3 j hj
  exact ⟨(hb.cell (p := ⟨_, _, _⟩) h2).trans c0, (hb.cell (p := ⟨_, _, _⟩) h2).trans c1, (hb.cell (p := ⟨_, _, _⟩) h2).trans c2⟩

section
variable {H : Type} {enc : TypeId × Value → H} {w : World} {cs : List Value}
set_option maxRecDepth 100000 in
/-- One number, as it comes in. -/
theorem Came.num (h : Came enc Try.prog w 45 cs) : ∃ x : Num, cs = [.int .i64 x.W, .int .u64 x.Hi, .int .u64 x.Lo] ∧ x.wf := by
  obtain ⟨hl, hf⟩ := h.struct Try.underlying45
  have h3 : Try.prog.cellsOf 45 = 3 := by kernel_rfl
  have hi : Try.prog.cellsOf 3 = 1 := by kernel_rfl
  have hu : Try.prog.cellsOf 39 = 1 := by kernel_rfl
  rw [h3] at hl
  have f0 : Came enc Try.prog w 3 ((cs.drop 0).take (Try.prog.cellsOf 3)) := hf 0 _ rfl
  have f1 : Came enc Try.prog w 39 ((cs.drop 1).take (Try.prog.cellsOf 39)) := hf 1 _ rfl
  have f2 : Came enc Try.prog w 39 ((cs.drop 2).take (Try.prog.cellsOf 39)) := hf 2 _ rfl
  clear hf
  match cs, hl with
  | [a, b, c], _ =>
    rw [hi] at f0
    rw [hu] at f1 f2
    obtain ⟨x, hx, wx⟩ := f0.int Try.underlying3
    obtain ⟨y, hy, wy⟩ := f1.int Try.underlying39
    obtain ⟨z, hz, wz⟩ := f2.int Try.underlying39
    simp at hx hy hz
    exact ⟨⟨x, y, z⟩, by rw [hx, hy, hz], bd_i64 wx, bd_u64 wy, bd_u64 wz⟩
/-- A slice of numbers, as it comes in. -/
theorem Came.nums {t : TypeId} (ht : Try.prog.underlying t = some (.slice 45)) (h : Came enc Try.prog w t cs) :
    ∃ A n c xs, cs = [.slice A n c] ∧ n ≤ c ∧ c ≤ 9223372036854775807 ∧ n * Try.prog.bytesOf 45 ≤ 140737488351232 ∧ ReadsNums w A n xs ∧ ∀ j, j < n → (xs.getD j zeroNum).wf := by
  obtain ⟨A, n, c, h1, h2, h3, h4, h5, h6, h7⟩ := h.slice ht
  unfold maxLen at h3
  have h3c : Try.prog.cellsOf 45 = 3 := by kernel_rfl
  rw [h3c] at h7
  cases A with
  | none =>
    obtain ⟨rfl, rfl⟩ := h6 rfl
    exact ⟨none, 0, 0, [], h1, h2, by omega, h4, ⟨rfl, by omega, fun h => by omega⟩, fun j hj => by omega⟩
  | some ad =>
    obtain ⟨xs, hl, hx⟩ := list_of zeroNum n (p := fun i x => (w.cell? ((ad.add (i * 3)).add 0) = some (.int .i64 x.W) ∧ w.cell? ((ad.add (i * 3)).add 1) = some (.int .u64 x.Hi) ∧ w.cell? ((ad.add (i * 3)).add 2) = some (.int .u64 x.Lo)) ∧ x.wf) (fun i hi => by
      obtain ⟨cs', h8, h9⟩ := h7 ad rfl i hi
      obtain ⟨_, _, hc⟩ := World.cells?_some h8
      obtain ⟨x, hx, hw⟩ := h9.num
      rw [hx] at hc
      exact ⟨x, ⟨hc 0 (by omega), hc 1 (by omega), hc 2 (by omega)⟩, hw⟩)
    refine ⟨some ad, n, c, xs, h1, h2, by omega, h4, ⟨hl, by omega, fun hn => ?_⟩, fun j hj => (hx j hj).2⟩
    obtain ⟨b, off, spot⟩ := ad
    have h0 := (hx 0 hn).1.1
    have hs : spot = none := by simpa [Addr.add] using World.cell?_spot h0
    subst hs
    refine ⟨b, off, rfl, ?_, fun j hj => ?_⟩
    · have := World.block_lt_of_cell? w _ h0
      rwa [add_block, add_block] at this
    · have := (hx j hj).1
      rw [Addr.add_lit, Addr.add_lit, Addr.add_lit, Addr.add_lit] at this
      simpa [Nat.add_assoc] using this
end
end Go.Proofs.Ytanimonhnngfkaa
