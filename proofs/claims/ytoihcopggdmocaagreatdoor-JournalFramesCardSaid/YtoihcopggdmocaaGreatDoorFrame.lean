/-
  The contract of journal.Frame.
-/
import Derived.Test.YtoihcopggdmocaaGreatDoorJr1
import Derived.Laws.CopyOwn
import Derived.Laws.MakeOwn
import Derived.Deep.DeepCutAuto
set_option linter.unusedVariables false
set_option linter.unusedSimpArgs false
namespace Go.Proofs.YtoihcopggdmocaaGreatDoor
open Go.RowKit SumsMath

/-- The frame of bytes. -/
def frm (xs : List Int) : List Int := JMath.frameF (sumF 2) xs
theorem four_lit (n : Int) (h0 : 0 ≤ n) (h1 : n ≤ 4294967295) (w : World) :
    Calls Tryz.prog 12 #[.int .u32 n] w fun e w' => e = .returned (.agg #[.int .u8 (n % 256), .int .u8 (n / 256 % 256), .int .u8 (n / 65536 % 256), .int .u8 (n / 16777216 % 256)]) ∧ Below w.heap.size w w' := four_any n h0 h1 w
theorem infoU8 : (Tryz.prog.info? 5).map (fun i => (i.zero, i.size, i.bytes)) = some (some (.int .u8 0), 1, 1) := by kernel_rfl
theorem sizeU8 : (Tryz.prog.info? 5).map (·.size) = some 1 := by kernel_rfl
theorem makeU8 (m : Nat) (h : m ≤ 140737488355328) : ∀ W : World, (Instr.makeSlice 22 (.int .i64 (m : Int)) (.int .i64 (m : Int))).run Tryz.prog W = .ok (.slice (some ⟨W.heap.size, 0, none⟩) m m) (W.alloc (.cells (nums .u8 (List.replicate m 0)).toArray 5)) := by
  intro W
  obtain ⟨i, hi, hzz⟩ := Option.map_eq_some_iff.1 infoU8
  simp only [Prod.mk.injEq] at hzz
  obtain ⟨hz, hs, hb⟩ := hzz
  have := run_make (P := Tryz.prog) W 22 5 i _ Tryz.underlying22 hi hz .i64 .i64 m m (by omega) (by omega) (by rw [hb]; omega) (by omega)
  rw [hs] at this
  have e : madeCells #[.int .u8 0] (m * 1) = (nums .u8 (List.replicate m 0)).toArray := by
    unfold nums
    rw [madeCells, List.map_replicate, Nat.mul_one]
    apply Array.toList_inj.1
    rw [Array.toList_map, Array.toList_range, List.toList_toArray, List.eq_replicate_iff]
    refine ⟨by simp, fun b hb => ?_⟩
    obtain ⟨i, _, rfl⟩ := List.mem_map.1 hb
    simp [Nat.mod_one]
  rw [this, Int.toNat_natCast, show (Value.int .u8 0).cells = #[.int .u8 0] from rfl, e]
theorem alloc3 (w : World) (o1 o2 o3 : Obj) : (((w.alloc o1).alloc o2).alloc o3).heap[w.heap.size]? = some o1 ∧ (((w.alloc o1).alloc o2).alloc o3).heap[w.heap.size + 1]? = some o2 ∧ (((w.alloc o1).alloc o2).alloc o3).heap[w.heap.size + 1 + 1]? = some o3 ∧
    (((w.alloc o1).alloc o2).alloc o3).heap.size = w.heap.size + 3 ∧ Below w.heap.size w (((w.alloc o1).alloc o2).alloc o3) := by
  have s1 : (w.alloc o1).heap.size = w.heap.size + 1 := by simp
  have s2 : ((w.alloc o1).alloc o2).heap.size = w.heap.size + 1 + 1 := by simp
  have s3 : (((w.alloc o1).alloc o2).alloc o3).heap.size = w.heap.size + 1 + 1 + 1 := by simp
  refine ⟨?_, ?_, ?_, s3, (((Below.refl _ _).alloc (Nat.le_refl _) _).alloc (by omega) _).alloc (by omega) _⟩
  · rw [Below.heap_alloc _ _ _ (by omega), Below.heap_alloc _ _ _ (by omega)]; exact World.alloc_heap_new w o1
  · rw [Below.heap_alloc _ _ _ (by omega)]; have := World.alloc_heap_new (w.alloc o1) o2; rwa [s1] at this
  · have := World.alloc_heap_new ((w.alloc o1).alloc o2) o3; rwa [s2] at this
theorem reads_block {w : World} {g n : Nat} {k : IntKind} {t : TypeId} {cs : Array Value} {fr : Nat × Nat} {xs : List Int} (h : w.heap[g]? = some (.cells cs t fr)) (hc : cs = (nums k xs).toArray) (hn : xs.length = n) (hm : n ≤ 9223372036854775807) : Reads w k (some ⟨g, 0, none⟩) n xs := by
  subst hc
  refine ⟨hn, hm, fun _ => ⟨_, rfl, fun j hj => ?_⟩⟩
  rw [add_plain]
  simp only [World.cell?, h]
  simp [nums, List.getD_eq_getElem?_getD, List.getElem?_eq_getElem (show j < xs.length by omega)]
theorem reads_src {w : World} {A : Option Addr} {n : Nat} {xs : List Int} (h : Reads w .u8 A n xs) (hn : 0 < n) : ∃ ad, A = some ad ∧ ∀ j v, (nums .u8 xs)[j]? = some v → w.cell? (ad.add j) = some v := by
  obtain ⟨ad, e, hc⟩ := h.2.2 hn
  refine ⟨ad, e, fun j v hv => ?_⟩
  have hl := h.1
  rcases Nat.lt_or_ge j xs.length with hj | hj
  · rw [hc j (by omega)]
    simp [nums, List.getElem?_eq_getElem hj] at hv
    subst hv
    simp [List.getD_eq_getElem?_getD, List.getElem?_eq_getElem hj]
  · simp [nums, List.getElem?_eq_none hj] at hv
theorem Reads.upto {B : Nat} {w w' : World} {k : IntKind} {A : Option Addr} {n : Nat} {xs : List Int} (h : Reads w k A n xs) (hb : Below B w w') (hB : ∀ ad, A = some ad → 0 < n → ad.block < B) : Reads w' k A n xs :=
  ⟨h.1, h.2.1, fun hn => by
    obtain ⟨ad, e, hc⟩ := h.2.2 hn
    exact ⟨ad, e, fun j hj => (hb.cell (by rw [add_block]; exact hB ad e hn)).trans (hc j hj)⟩⟩
theorem splice_len {α : Type} (L : List α) (off : Nat) (cs : List α) (h : off + cs.length ≤ L.length) : (splice L off cs).length = L.length := length_splice L off cs h
theorem nums_one (k : IntKind) (xs : List Int) : ∀ v ∈ nums k xs, v.oneCell' = true := by
  intro v hv
  simp only [nums, List.mem_map] at hv
  obtain ⟨q, _, rfl⟩ := hv
  rfl
theorem Frame_no (A : Option Addr) (n c : Nat) (hn : n ≤ 9223372036854775807) (h : n < 1 ∨ 65537 < n) (w : World) :
    Calls Tryz.prog 6 #[.slice A n c] w fun e w' => e = .returned (.tuple #[.slice none 0 0, .int .i64 1]) ∧ w' = w := by
  rcases h with h | h
  · have h1 : decide ((n : Int) < 1) = true := decide_eq_true (by omega)
    have h2 := eq_true (by omega : n < 1)
    have h3 := eq_true (by omega : n = 0)
    go_enter Tryz.func6, Tryz.ntmps6
    go_wp2
    go_ret2
    exact ⟨rfl, rfl⟩
  · have h1 : decide ((n : Int) < 1) = false := decide_eq_false (by omega)
    have h2 : decide (65537 < (n : Int)) = true := decide_eq_true (by omega)
    go_enter Tryz.func6, Tryz.ntmps6
    go_wp2
    go_ret2
    exact ⟨rfl, rfl⟩
set_option maxRecDepth 100000 in
set_option maxHeartbeats 1600000 in
theorem Frame_ok (A : Option Addr) (n c : Nat) (xs : List Int) (w : World) (hx : Bytes xs) (hR : Reads w .u8 A n xs) (h1 : 1 ≤ n) (h2 : n ≤ 65537) :
    Calls Tryz.prog 6 #[.slice A n c] w fun e w' => ∃ g, e = .returned (.tuple #[.slice (some ⟨g, 0, none⟩) (8 + n) (8 + n), .int .i64 0]) ∧ w.heap.size ≤ g ∧ w'.heap[g]? = some (.cells (nums .u8 (frm xs)).toArray 5 (0, 0)) ∧ Below w.heap.size w w' := by
  have HR := aside' (And.intro hx hR)
  have hbd := sumF_bd 2 xs hx
  have d1 : decide ((n : Int) < 1) = false := decide_eq_false (by omega)
  have d2 : decide (65537 < (n : Int)) = false := decide_eq_false (by omega)
  have H4 := aside' (fun W => four_lit (n : Int) (by omega) (by omega) W)
  have hmk := makeU8 (8 + n) (by omega)
  have hmk1 : (((8 + n : Nat)) : Int) = 8 + (n : Int) := by omega
  rw [hmk1] at hmk
  clear hx hR hmk1
  go_enter Tryz.func6, Tryz.ntmps6
  go_wp2_with fail
  refine Calls.mono (H4.out _) ?_
  rintro e w1 ⟨rfl, hb1⟩
  have HB1 := aside' hb1
  have HC := aside' (crc_any A n c xs (by omega) w1 HR.out.1 (HR.out.2.below hb1))
  obtain ⟨sm, hsm⟩ : ∃ sm, sm = sumF 2 xs := ⟨_, rfl⟩
  rw [← hsm] at HC hbd
  have HSM := aside' hsm
  have H5 := aside' (fun W => four_lit sm hbd.1 hbd.2 W)
  clear hsm hb1
  go_wp2_with fail
  refine Calls.mono HC.out ?_
  rintro e w2 ⟨rfl, hb2⟩
  have HB2 := aside' (HB1.out.trans (hb2.mono HB1.out.size))
  clear hb2
  go_wp2_with fail
  refine Calls.mono (H5.out _) ?_
  rintro e w3 ⟨rfl, hb3⟩
  have HB3 := aside' (HB2.out.trans (hb3.mono HB2.out.size))
  clear hb3
  go_upto_region 5 with fail
  obtain ⟨a1, a2, a3, a4, a5⟩ := alloc3 w3 (.cells #[.int .u8 ((n : Int) % 256), .int .u8 ((n : Int) / 256 % 256), .int .u8 ((n : Int) / 65536 % 256), .int .u8 ((n : Int) / 16777216 % 256)] 65) (.cells #[.int .u8 (sm % 256), .int .u8 (sm / 256 % 256), .int .u8 (sm / 65536 % 256), .int .u8 (sm / 16777216 % 256)] 65) (.cells (nums .u8 (List.replicate (8 + n) 0)).toArray 5)
  have r1 := aside' (reads_block (k := .u8) (n := 4) (xs := JMath.le4 (n : Int)) a1 rfl rfl (by decide))
  have r2 := aside' (reads_block (k := .u8) (n := 4) (xs := JMath.le4 sm) a2 rfl rfl (by decide))
  have b3 := aside' (HB3.out.trans (a5.mono HB3.out.size))
  have A3 := aside' a3
  have hH : w.heap.size ≤ w3.heap.size := HB3.out.size
  clear a1 a2 a3 a4 a5 hmk HB1 HB2 HC H4 H5
  generalize (((w3.alloc (.cells #[.int .u8 ((n : Int) % 256), .int .u8 ((n : Int) / 256 % 256), .int .u8 ((n : Int) / 65536 % 256), .int .u8 ((n : Int) / 16777216 % 256)] 65)).alloc (.cells #[.int .u8 (sm % 256), .int .u8 (sm / 256 % 256), .int .u8 (sm / 65536 % 256), .int .u8 (sm / 16777216 % 256)] 65)).alloc (.cells (nums .u8 (List.replicate (8 + n) 0)).toArray 5)) = w5 at *
  clear HB3
  generalize w3.heap.size = H at *
  have l1 : (nums .u8 (JMath.le4 (n : Int))).length = 4 := rfl
  have l2 : (nums .u8 (JMath.le4 sm)).length = 4 := rfl
  have l3 : (nums .u8 xs).length = n := by rw [nums_length]; exact HR.out.2.1
  have l0 : (nums .u8 (List.replicate (8 + n) 0)).length = 8 + n := by rw [nums_length]; simp
  have e1 : (nums .u8 (JMath.le4 (n : Int))).length = Nat.min 4 (8 + n) := by rw [l1]; exact (Nat.min_eq_left (by omega)).symm
  have e2 : (nums .u8 (JMath.le4 sm)).length = Nat.min 4 (8 + n - 4) := by rw [l2]; exact (Nat.min_eq_left (by omega)).symm
  have e3 : (nums .u8 xs).length = Nat.min n n := by rw [l3]; exact (Nat.min_eq_left (Nat.le_refl _)).symm
  have l4 : (splice (nums .u8 (List.replicate (8 + n) 0)) 0 (nums .u8 (JMath.le4 (n : Int)))).length = 8 + n := by rw [splice_len _ _ _ (by rw [l1, l0]; omega), l0]
  have l5 : (splice (splice (nums .u8 (List.replicate (8 + n) 0)) 0 (nums .u8 (JMath.le4 (n : Int)))) 4 (nums .u8 (JMath.le4 sm))).length = 8 + n := by rw [splice_len _ _ _ (by rw [l2, l4]; omega), l4]
  have L := aside' (And.intro l0 (And.intro l4 (And.intro l5 (And.intro l3 (And.intro e1 (And.intro e2 e3))))))
  clear l0 l1 l2 l3 l4 l5 e1 e2 e3
  have f1 : (4 : Int) ≤ 8 + (n : Int) := by omega
  have f2 : (8 : Int) ≤ 8 + (n : Int) := by omega
  have f3 := eq_false (by omega : ¬ 8 + n = 4)
  have f4 := eq_false (by omega : ¬ 8 + n = 8)
  have f5 := eq_false (by omega : ¬ n = 0)
  go_wp2_with (with_reducible refine wpList_copy_splice rfl (.tmp 26) (.tmp 27) 22 22 rfl 5 Tryz.underlying22 sizeU8 _ _ (8 + n) (8 + n) 4 4 rfl rfl (H + 1 + 1) 0 (nums .u8 (List.replicate (8 + n) 0)) 5 A3.out (nums .u8 (JMath.le4 (n : Int))) L.out.2.2.2.2.1 (fun _ => ⟨rfl, reads_src r1.out (by decide)⟩) (by rw [L.out.1, nums_length, JMath.le4_length]; omega) (nums_one _ _) (H + 2) w5 (Below.refl _ _) (Nat.le_refl _) ?_; intro w6 hg6 hb6)
  have G6 := aside' hg6.out
  have B6 := aside' hb6
  have r3 := aside' (r2.out.upto hb6 (fun ad e _ => by injection e with e; subst e; show H + 1 < H + 2; omega))
  clear hg6 hb6
  go_wp2_with fail
  go_region_law ((refine step_copy_splice (by rfl) (.tmp 30) (.tmp 31) 22 22 (by rfl) 5 Tryz.underlying22 sizeU8 _ _ (8 + n - 4) (8 + n - 4) 4 4 (by rfl) (by rfl) (H + 1 + 1) 4 (splice (nums .u8 (List.replicate (8 + n) 0)) 0 (nums .u8 (JMath.le4 (n : Int)))) 5 (by exact G6.out) (nums .u8 (JMath.le4 sm)) L.out.2.2.2.2.2.1 (fun _ => ⟨by rfl, reads_src (by exact r3.out) (by decide)⟩) (by rw [L.out.2.1, nums_length, JMath.le4_length]; omega) (nums_one _ _) (H + 2) w5 (by exact below_drewN B6.out 1) (Nat.le_refl _) ?_; intro w7 hg7 hb7))
  have G7 := aside' hg7.out
  have B7 := aside' hb7
  have r4 := aside' ((HR.out.2.below b3.out).upto hb7 (fun ad e h0 => by have := HR.out.2.block_lt ad e h0; omega))
  clear hg7 hb7
  go_wp2_with (with_reducible refine wpList_copy_splice rfl (.tmp 34) (.tmp 35) 22 22 rfl 5 Tryz.underlying22 sizeU8 _ _ n n n c rfl rfl (H + 1 + 1) 8 (splice (splice (nums .u8 (List.replicate (8 + n) 0)) 0 (nums .u8 (JMath.le4 (n : Int)))) 4 (nums .u8 (JMath.le4 sm))) 5 G7.out (nums .u8 xs) L.out.2.2.2.2.2.2 (fun _ => ⟨rfl, reads_src r4.out (by omega)⟩) (by rw [L.out.2.2.1, L.out.2.2.2.1]; omega) (nums_one _ _) (H + 2) w5 B7.out (Nat.le_refl _) ?_; intro w8 hg8 hb8)
  go_ret2
  have hfin : nums .u8 (frm xs) = splice (splice (splice (nums .u8 (List.replicate (8 + n) 0)) 0 (nums .u8 (JMath.le4 (n : Int)))) 4 (nums .u8 (JMath.le4 sm))) 8 (nums .u8 xs) := by
    have h := splice_splice_splice (nums .u8 (List.replicate (8 + n) 0)) (nums .u8 (JMath.le4 (n : Int))) (nums .u8 (JMath.le4 sm)) (nums .u8 xs) 4 4 rfl rfl (by rw [L.out.1, L.out.2.2.2.1])
    rw [show (8 : Nat) = 4 + 4 from rfl, h, ← nums_append, ← nums_append, HSM.out]
    unfold frm JMath.frameF
    rw [HR.out.2.1]
  refine ⟨H + 1 + 1, rfl, by omega, ?_, b3.out.trans (hb8.mono (by omega))⟩
  rw [hfin]
  exact hg8.out
end Go.Proofs.YtoihcopggdmocaaGreatDoor
