/-
  An array's cells, and may's two closures.
-/
import Derived.Test.YtanimonhnngfkaaCheck
import Derived.Test.YtanimonhnngfkaaNumRow
import Derived.Test.YtanimonhnngfkaaClassRegion
set_option linter.unusedVariables false
set_option linter.unusedSimpArgs false
namespace Go.Proofs.Ytanimonhnngfkaa
open Go.RowKit

/-- An array, as it is told. -/
structure Arr where
  nm : ByteArray
  kd : Int
  W : Int
  Rate : Int
  Burst : Int
  cs : List Num
  ls : List Int
def Arr.vals (a : Arr) (A : Option Addr) (n c : Nat) (B : Option Addr) (m d : Nat) : Array Value :=
  #[.string a.nm, .int .u8 a.kd, .int .i64 a.W, .int .i64 a.Rate, .int .i64 a.Burst, .slice A n c, .slice B m d]
/-- A cell that may be in an array. -/
def Arr.okC (a : Arr) (x : Num) : Prop := x.ok ∧ x.W = a.W ∧ (a.kd = 5 → x.Lo ≤ a.Burst)

structure MB (w : World) (q bx p : Nat) (x : Num) (vals : Array Value) (W : World) : Prop where
  hx : W.heap[q]? = some (.cells #[.int .i64 x.W, .int .u64 x.Hi, .int .u64 x.Lo] 45 (0, 0))
  hb : W.heap[bx]? = some (.cells #[.pointer (some ⟨p, 0, none⟩)] 65 (0, 0))
  hp : W.heap[p]? = some (.cells vals 63 (0, 0))
  below : Below w.heap.size w W
theorem MB.next {w : World} {q bx p : Nat} {x : Num} {vals : Array Value} {W W' : World} (h : MB w q bx p x vals W) (hb : Below W.heap.size W W') : MB w q bx p x vals W' :=
  ⟨(hb.block _ (Array.getElem?_eq_some_iff.1 h.hx).1).trans h.hx, (hb.block _ (Array.getElem?_eq_some_iff.1 h.hb).1).trans h.hb, (hb.block _ (Array.getElem?_eq_some_iff.1 h.hp).1).trans h.hp, h.below.trans (hb.mono h.below.size)⟩
theorem MB.all {w : World} {q bx p : Nat} {x : Num} {a : Arr} {A : Option Addr} {n c : Nat} {B : Option Addr} {m d : Nat} {W : World} (h : MB w q bx p x (a.vals A n c B m d) W) :
    (((W.cell? ⟨q, 0, none⟩ = some (.int .i64 x.W) ∧ W.cell? ⟨q, 1, none⟩ = some (.int .u64 x.Hi) ∧ W.cell? ⟨q, 2, none⟩ = some (.int .u64 x.Lo)) ∧ W.cell? ⟨bx, 0, none⟩ = some (.pointer (some ⟨p, 0, none⟩))) ∧
      (W.cell? ⟨p, 1, none⟩ = some (.int .u8 a.kd) ∧ W.cell? ⟨p, 2, none⟩ = some (.int .i64 a.W) ∧ W.cell? ⟨p, 4, none⟩ = some (.int .i64 a.Burst))) ∧ MB w q bx p x (a.vals A n c B m d) W :=
  ⟨⟨⟨⟨cellOf h.hx 0, cellOf h.hx 1, cellOf h.hx 2⟩, cellOf h.hb 0⟩, cellOf h.hp 1, cellOf h.hp 2, cellOf h.hp 4⟩, h⟩

set_option maxRecDepth 100000 in
set_option maxHeartbeats 2000000 in
theorem bad1_no (x : Num) (a : Arr) (A : Option Addr) (n c : Nat) (B : Option Addr) (m d : Nat) (bx p : Nat) (w : World) (hw : x.wf) (hkd : a.kd = 3 ∨ a.kd = 4 ∨ a.kd = 5) (ho : a.okC x) (hB1 : 0 ≤ a.Burst) (hB2 : a.Burst ≤ 9223372036854775807)
    (hb : w.heap[bx]? = some (.cells #[.pointer (some ⟨p, 0, none⟩)] 65 (0, 0))) (hp : w.heap[p]? = some (.cells (a.vals A n c B m d) 63 (0, 0))) :
    Calls Try.prog 33 #[x.v, .pointer (some ⟨bx, 0, none⟩)] w fun e w' => e = .returned (.bool false) ∧ Below w.heap.size w w' := by
  have HC : Aside (∀ V, Calls Try.prog 27 #[x.v] V fun e w' => e = .returned (.bool true) ∧ Below V.heap.size V w') := fun V => check_good x hw ho.1 V
  have hM : MB w w.heap.size bx p x (a.vals A n c B m d) (w.alloc (.cells #[.int .i64 x.W, .int .u64 x.Hi, .int .u64 x.Lo] 45)).drew :=
    ⟨heap_alloc_new w _, (Below.heap_alloc w _ _ (Array.getElem?_eq_some_iff.1 hb).1).trans hb, (Below.heap_alloc w _ _ (Array.getElem?_eq_some_iff.1 hp).1).trans hp, ((Below.refl _ _).alloc (Nat.le_refl _) _).drew⟩
  have s0 := hM.all
  have hlo := ho.2.2
  have hW : x.W = a.W := ho.2.1
  have hwr : IntKind.u64.wrap a.Burst = a.Burst := by rw [IntKind.wrap_u64]; omega
  obtain ⟨_, _, h0, h1⟩ := hw
  clear ho hM hb hp
  obtain ⟨nm, kd, aW, Rate, Burst, cs, ls⟩ := a
  obtain ⟨xW, xh, xl⟩ := x
  simp only at hW hwr h0 h1 hlo hB1 hB2 hkd
  obtain rfl : xW = aW := hW
  unfold Num.v at *
  simp only at *
  have hL : Aside (kd = 5 → xl ≤ Burst) := hlo
  clear hlo
  by_cases hk : kd = 5
  · have hle := hL.out hk
    subst hk
    have hd : decide (Burst < xl) = false := decide_eq_false (by omega)
    go_enter Try.func33, Try.ntmps33
    go_wp2_with fail
    go_region_held3 (fun W => (((W.cell? ⟨w.heap.size, 0, none⟩ = some (.int .i64 xW) ∧ W.cell? ⟨w.heap.size, 1, none⟩ = some (.int .u64 xh) ∧ W.cell? ⟨w.heap.size, 2, none⟩ = some (.int .u64 xl)) ∧ W.cell? ⟨bx, 0, none⟩ = some (.pointer (some ⟨p, 0, none⟩))) ∧
        (W.cell? ⟨p, 1, none⟩ = some (.int .u8 5) ∧ W.cell? ⟨p, 2, none⟩ = some (.int .i64 xW) ∧ W.cell? ⟨p, 4, none⟩ = some (.int .i64 Burst))) ∧ MB w w.heap.size bx p ⟨xW, xh, xl⟩ ((⟨nm, 5, xW, Rate, Burst, cs, ls⟩ : Arr).vals A n c B m d) W)
      (first | exact s0 | assumption | exact (MB.next (And.right (by assumption)) hb5).all)
      ((go_simp; (first
        | (go_at_call 27; refine Calls.mono (HC.out _) ?_; rintro e w5 ⟨rfl, hb5⟩)
        | fail)))
    go_wp2
    go_ret
    rename_i hh
    exact ⟨rfl, hh.2.below⟩
  · have hkb : (kd == 5) = false := by simp [hk]
    have hne : ¬ kd = 5 := hk
    go_enter Try.func33, Try.ntmps33
    go_wp2_with fail
    obtain ⟨C, HF⟩ : ∃ C : World → Prop, Aside (∀ W, C W ↔ (((W.cell? ⟨w.heap.size, 0, none⟩ = some (.int .i64 xW) ∧ W.cell? ⟨w.heap.size, 1, none⟩ = some (.int .u64 xh) ∧ W.cell? ⟨w.heap.size, 2, none⟩ = some (.int .u64 xl)) ∧ W.cell? ⟨bx, 0, none⟩ = some (.pointer (some ⟨p, 0, none⟩))) ∧
        (W.cell? ⟨p, 1, none⟩ = some (.int .u8 kd) ∧ W.cell? ⟨p, 2, none⟩ = some (.int .i64 xW) ∧ W.cell? ⟨p, 4, none⟩ = some (.int .i64 Burst))) ∧ MB w w.heap.size bx p ⟨xW, xh, xl⟩ ((⟨nm, kd, xW, Rate, Burst, cs, ls⟩ : Arr).vals A n c B m d) W) := ⟨_, fun W => Iff.rfl⟩
    refine region_class C (by kernel_rfl) (by kernel_rfl) ((HF.out _).2 s0) ?_
    clear s0
    repeat
      (first
        | go_big_quiet_skip
        | (go_big_quiet_want; first
            | (go_big_quiet_op; go_big_quiet_on)
            | (unfold Oper.quiet; apply Exists.intro; refine ⟨fun W hW => ?_, ?_⟩
               · obtain ⟨⟨⟨⟨k0, k1, k2⟩, k3⟩, k4, k5, k6⟩, k7⟩ := (HF.out W).1 hW
                 go_simp
                 first
                   | with_reducible rfl
                   | (go_at_call 27; refine Calls.mono (HC.out _) ?_; rintro e w5 ⟨he, hb5⟩; exact ⟨he, (HF.out w5).2 (MB.next k7 hb5).all⟩)
               go_simp
               go_big_quiet_on)))
    refine wpQuiet_nil ?_
    intro W' hW'
    have hM := ((HF.out W').1 hW').2.below
    clear hW' HF
    go_wp2
    go_ret
    exact ⟨rfl, hM⟩
end Go.Proofs.Ytanimonhnngfkaa
