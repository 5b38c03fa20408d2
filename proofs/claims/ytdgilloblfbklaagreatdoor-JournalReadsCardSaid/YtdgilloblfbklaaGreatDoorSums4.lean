/-
  The two sums of words; folding; the four sums as functions.
-/
import Derived.Test.YtdgilloblfbklaaGreatDoorWords
set_option linter.unusedVariables false
set_option linter.unusedSimpArgs false
namespace Go.Proofs.YtdgilloblfbklaaGreatDoor
open Go.RowKit Go.Shelf SumsMath
attribute [local go_sem] Oper.semAt_some

/-- As words are added up. -/
def foldF (n : Int) : Int := if n = 0 then 0 else (n - 1) % 65535 + 1
theorem foldF_step (m : Int) (h0 : 65535 < m) (h1 : m ≤ 4294967295) : foldF (m % 65536 + m / 65536) = foldF m := by
  unfold foldF
  rw [if_neg (by omega), if_neg (by omega)]
  omega
theorem foldF_small (m : Int) (h0 : 0 ≤ m) (h1 : m ≤ 65535) : foldF m = m := by
  unfold foldF
  split <;> omega
theorem foldF_bd (m : Int) : 0 ≤ foldF m ∧ foldF m ≤ 65535 := by
  unfold foldF
  split <;> omega
theorem wraps_u32 (n : Int) (h₀ : 0 ≤ n) (h₁ : n < 2 ^ 32) : IntKind.u32.wrap n = n := by rw [IntKind.wrap_u32]; omega
theorem and_65535 (m : Int) (h0 : 0 ≤ m) (h1 : m ≤ 4294967295) : bits .and .u32 m 65535 = m % 65536 := by
  exact bits_mask .u32 32 (by decide) wraps_u32 16 (by decide) m h0 (by omega)

theorem fold_any (n : Int) (h0 : 0 ≤ n) (h1 : n ≤ 4294967295) (w : World) : Calls Tryz.prog 187 #[.int .u32 n] w fun e w' => e = .returned (.int .u32 (foldF n)) ∧ w = w' := by
  go_enter Tryz.func187, Tryz.ntmps187
  go_wp2
  go_loop [0] (fun v => ∃ m : Int, v = .int .u32 m ∧ 0 ≤ m ∧ m ≤ 4294967295 ∧ Aside (foldF m = foldF n)) (fun v => (intOf v).toNat)
  case atStart => exact ⟨n, rfl, h0, h1, rfl⟩
  case round =>
    obtain ⟨m, rfl, hm0, hm1, hf⟩ := hrel
    by_cases hb : 65535 < m
    · have ha := and_65535 m hm0 hm1
      have hs := foldF_step m hb hm1
      have HS : Aside (foldF (m % 65536 + m / 65536) = foldF m) := hs
      clear hs
      go_wp2
      go_round
      case rel => exact ⟨m % 65536 + m / 65536, by go_num, by omega, by omega, HS.out.trans hf.out⟩
      case measure => simp [intOf]; omega
    · have hsm : Aside (foldF m = m) := foldF_small m hm0 (by omega)
      go_wp2
      go_ret
      exact ⟨by rw [← hf.out, hsm.out]; rfl, rfl⟩

def xorW (l : List Int) : Int := l.foldl (fun n w => bits .xor .u32 n w) 0
theorem xorW_snoc (l : List Int) (x : Int) : xorW (l ++ [x]) = bits .xor .u32 (xorW l) x := by simp [xorW]
def csW (l : List Int) : Int := l.foldl (fun n w => foldF ((n + w) % 4294967296)) 0
theorem csW_snoc (l : List Int) (x : Int) : csW (l ++ [x]) = foldF ((csW l + x) % 4294967296) := by simp [csW]
theorem csW_bd (l : List Int) : 0 ≤ csW l ∧ csW l ≤ 65535 := by
  rcases List.eq_nil_or_concat l with rfl | ⟨l', x, rfl⟩
  · exact ⟨by decide, by decide⟩
  · rw [List.concat_eq_append, csW_snoc]; exact foldF_bd _

set_option maxRecDepth 100000 in
set_option maxHeartbeats 2000000 in
theorem xor_in (F : Fence) (n : Nat) (h37 : F.fn 188) (h36 : F.fn 186) (h42 : F.fn 194) (hro : F.round = none) (hn : 3 ≤ n) (A : Option Addr) (len cap : Nat) (zs : List Int) (hlen : len ≤ 1000000000000) (w : World) (hx : Bytes zs) (hR : Reads w .u8 A len zs) :
    CallsIn F n Tryz.prog 188 #[.slice A len cap] w fun e W' => e = .returned (.int .u32 (xorW (wordsOf zs))) ∧ Below w.heap.size w W' := by
  have h1 : 1 ≤ n := by omega
  have hwl : Aside (wordsTo zs ((len + 1) / 2) = wordsOf zs) := by rw [wordsOf, hR.1]; rfl
  refine callsIn_of_wp_marks Tryz.func188 rfl h37 ?_ hro
  simp only [Tryz.ntmps188, List.size_toArray, List.length_cons, List.length_nil, Nat.reduceAdd, Nat.reduceSub, Array.replicate_succ, Array.replicate_zero, List.push_toArray, List.append_toArray, List.nil_append, List.cons_append]
  have HR : Aside (Reads w .u8 A len zs) := hR
  clear hR
  gi_wp2_with (gi_at_call 186; refine (words_in F (n - 1) h36 hro _ _ _ _).mono ?_; rintro e w' ⟨rfl, rfl⟩)
  have bS := Boxed.new w 70 (.int .u32 0)
  have bN := Boxed.new (w.alloc (.cells #[.int .u32 0] 70)) 22 (.slice A len cap)
  rw [World.size_alloc] at bN
  have hB0 : Below w.heap.size w ((w.alloc (.cells #[.int .u32 0] 70)).alloc (.cells #[.slice A len cap] 22)) := ((Below.refl _ w).alloc (Nat.le_refl _) _).alloc (by simp) _
  refine wpIn_rangeFunc_ownG hro h1 (gf := 194) (lb := #[.pointer (some ⟨w.heap.size + 1, 0, none⟩)]) rfl h42 (enters_of Tryz.func194 (by kernel_rfl) rfl)
    (words_stops F (n - 1) h42 hro (by omega) (w.heap.size + 1) w.heap.size A len cap zs hlen _ (by simp) (by simp; omega) bN.cell hx (fun W' hW' => HR.out.below (hB0.trans hW')))
    (fun h k => ⟨h.1.trans k.1, k.2.trans h.2⟩) (fun W l o o' hl h ho hw => ⟨belowK_b (w := (w.alloc (.cells #[.int .u32 0] 70)).alloc (.cells #[.slice A len cap] 22)) (by simp; omega) W l o o' hl h ho hw, World.putObj_heap_other (by simp at hl; omega)⟩) (Below.refl _ _) (fun _ => rfl)
    (fun pre W => (W.cell? ⟨w.heap.size, 0, none⟩ = some (.int .u32 (xorW pre)) ∧ W.frozen? ⟨w.heap.size, 0, none⟩ = false) ∧ Below w.heap.size w W)
    (fun _ _ _ => False)
    (OwnFrom.and (Own.from (fun s A B row hs hg hr => ⟨cell_kept hs.1 hg hr, (frozen_kept hs.1 hg hr).trans hs.2⟩) _) (ownFrom_below (Nat.le_refl _) (by simp; omega)))
    (fun _ _ _ _ _ hs _ _ => hs)
    ⟨⟨(bS.alloc _).cell, (bS.alloc _).frozen⟩, hB0⟩
    (fun x => { tmps := #[.slice A len cap, undef, .int .u32 0, .pointer (some ⟨w.heap.size, 0, none⟩), .int .u32 x, .slice A len cap, .func (.func 194) #[] #[.pointer (some ⟨w.heap.size + 1, 0, none⟩)], .int .u32 x, undef, undef, undef, undef], defers := [] }) ?assign ?body ?done ?stop
  case assign =>
    intro l x W K hK
    gi_wp2
    exact hK
  case body =>
    rintro l pre x W ⟨⟨hc, hf⟩, hB⟩ _
    gi_wp2
    exact ⟨(KeepsOthers.setCell _ _ _).from _, ⟨(Below.refl w.heap.size W).setCell (p := ⟨w.heap.size, 0, none⟩) (Nat.le_refl _) _, Below.heap_setCell _ _ _ _ (by simp)⟩, ⟨by rw [xorW_snoc]; exact World.cell?_setCell_same' _ _ _ (by rw [hc]; rfl), by rw [World.frozen?_setCell]; exact hf⟩, hB.setCell (p := ⟨w.heap.size, 0, none⟩) (Nat.le_refl _) _⟩
  case done =>
    rintro D ys W hD rfl ⟨⟨hc, _⟩, hB⟩ hK
    gi_wp2
    refine ⟨by simp, .inl ⟨_, _, rfl, run_takeDeferred hK, ?_⟩⟩
    exact ⟨_, results_tmp rfl _ _ _, by rw [← hwl.out]; rfl, hB.trans (belowK_b (w := w) (Nat.le_refl _) W D _ _ (by simp at hD; omega) hK rfl rfl)⟩
  case stop =>
    rintro D c pre W _ _ h _
    exact h.elim
theorem xor_any (A : Option Addr) (len cap : Nat) (zs : List Int) (hlen : len ≤ 1000000000000) (w : World) (hx : Bytes zs) (hR : Reads w .u8 A len zs) :
    Calls Tryz.prog 188 #[.slice A len cap] w fun e W' => e = .returned (.int .u32 (xorW (wordsOf zs))) ∧ Below w.heap.size w W' :=
  (callsIn_wide (n := 3)).1 (xor_in Fence.wide 3 trivial trivial trivial rfl (by omega) A len cap zs hlen w hx hR)

theorem not_B32 (c : BitVec 32) : B32 (~~~c) = 4294967295 - B32 c := by
  unfold B32
  rw [BitVec.toNat_not]
  have := c.isLt
  omega
theorem not_u32 (n : Int) (h0 : 0 ≤ n) (h1 : n ≤ 4294967295) : bits .xor .u32 IntKind.u32.max n = 4294967295 - n := by
  have h := bits_xor (BitVec.allOnes 32) (BitVec.ofInt 32 n)
  rw [B32_ofInt n ⟨h0, h1⟩] at h
  have e : B32 (BitVec.allOnes 32) = IntKind.u32.max := by decide
  rw [e] at h
  rw [h, BitVec.allOnes_xor, not_B32, B32_ofInt n ⟨h0, h1⟩]
theorem not_and (n : Int) (h0 : 0 ≤ n) (h1 : n ≤ 65535) : bits .and .u32 (bits .xor .u32 IntKind.u32.max n) 65535 = 65535 - n := by
  rw [not_u32 n h0 (by omega), and_65535 _ (by omega) (by omega)]
  omega

set_option maxRecDepth 100000 in
set_option maxHeartbeats 2000000 in
theorem csum_in (n : Nat) (hn : 3 ≤ n) (A : Option Addr) (len cap : Nat) (zs : List Int) (hlen : len ≤ 1000000000000) (w : World) (hx : Bytes zs) (hR : Reads w .u8 A len zs) :
    CallsIn Fence.wide n Tryz.prog 185 #[.slice A len cap] w fun e W' => e = .returned (.int .u32 (65535 - csW (wordsOf zs))) ∧ Below w.heap.size w W' := by
  have h1 : 1 ≤ n := by omega
  have hro : Fence.wide.round = none := rfl
  have h42 : Fence.wide.fn 42 := trivial
  have hwl : Aside (wordsTo zs ((len + 1) / 2) = wordsOf zs) := by rw [wordsOf, hR.1]; rfl
  refine callsIn_of_wp_marks Tryz.func185 rfl trivial ?_ rfl
  simp only [Tryz.ntmps185, List.size_toArray, List.length_cons, List.length_nil, Nat.reduceAdd, Nat.reduceSub, Array.replicate_succ, Array.replicate_zero, List.push_toArray, List.append_toArray, List.nil_append, List.cons_append]
  have HR : Aside (Reads w .u8 A len zs) := hR
  clear hR
  gi_wp2_with (refine ⟨trivial, ?_⟩; gi_at_call 186; refine (words_in Fence.wide (n - 1) trivial rfl _ _ _ _).mono ?_; rintro e w' ⟨rfl, rfl⟩)
  have bS := Boxed.new w 70 (.int .u32 0)
  have bN := Boxed.new (w.alloc (.cells #[.int .u32 0] 70)) 22 (.slice A len cap)
  rw [World.size_alloc] at bN
  have hB0 : Below w.heap.size w ((w.alloc (.cells #[.int .u32 0] 70)).alloc (.cells #[.slice A len cap] 22)) := ((Below.refl _ w).alloc (Nat.le_refl _) _).alloc (by simp) _
  refine wpIn_rangeFunc_ownG hro h1 (gf := 194) (lb := #[.pointer (some ⟨w.heap.size + 1, 0, none⟩)]) rfl h42 (enters_of Tryz.func194 (by kernel_rfl) rfl)
    (words_stops Fence.wide (n - 1) h42 hro (by omega) (w.heap.size + 1) w.heap.size A len cap zs hlen _ (by simp) (by simp; omega) bN.cell hx (fun W' hW' => HR.out.below (hB0.trans hW')))
    (fun h k => ⟨h.1.trans k.1, k.2.trans h.2⟩) (fun W l o o' hl h ho hw => ⟨belowK_b (w := (w.alloc (.cells #[.int .u32 0] 70)).alloc (.cells #[.slice A len cap] 22)) (by simp; omega) W l o o' hl h ho hw, World.putObj_heap_other (by simp at hl; omega)⟩) (Below.refl _ _) (fun _ => rfl)
    (fun pre W => (W.cell? ⟨w.heap.size, 0, none⟩ = some (.int .u32 (csW pre)) ∧ W.frozen? ⟨w.heap.size, 0, none⟩ = false) ∧ Below w.heap.size w W)
    (fun _ _ _ => False)
    (OwnFrom.and (Own.from (fun s A B row hs hg hr => ⟨cell_kept hs.1 hg hr, (frozen_kept hs.1 hg hr).trans hs.2⟩) _) (ownFrom_below (Nat.le_refl _) (by simp; omega)))
    (fun _ _ _ _ _ hs _ _ => hs)
    ⟨⟨(bS.alloc _).cell, (bS.alloc _).frozen⟩, hB0⟩
    (fun x => { tmps := #[.slice A len cap, undef, .int .u32 0, .pointer (some ⟨w.heap.size, 0, none⟩), .int .u32 x, .slice A len cap, .func (.func 194) #[] #[.pointer (some ⟨w.heap.size + 1, 0, none⟩)], .int .u32 x, undef, undef, undef, undef, undef, undef, undef], defers := [] }) ?assign ?body ?done ?stop
  case assign =>
    intro l x W K hK
    gi_wp2
    exact hK
  case body =>
    rintro l pre x W ⟨⟨hc, hf⟩, hB⟩ _
    gi_wp2_with (refine ⟨trivial, (fun h => by simp [Fence.wide] at h), ?_⟩; gi_at_call 187; refine (CallsIn.inRound l (callsIn_wide.2 (fold_any ((csW pre + x) % 4294967296) (by omega) (by omega) _))).mono ?_; rintro e w' ⟨rfl, rfl⟩)
    exact ⟨(KeepsOthers.setCell _ _ _).from _, ⟨(Below.refl w.heap.size W).setCell (p := ⟨w.heap.size, 0, none⟩) (Nat.le_refl _) _, Below.heap_setCell _ _ _ _ (by simp)⟩, ⟨by rw [csW_snoc]; exact World.cell?_setCell_same' _ _ _ (by rw [hc]; rfl), by rw [World.frozen?_setCell]; exact hf⟩, hB.setCell (p := ⟨w.heap.size, 0, none⟩) (Nat.le_refl _) _⟩
  case done =>
    rintro D ys W hD rfl ⟨⟨hc, _⟩, hB⟩ hK
    have hbd := csW_bd (wordsTo zs ((len + 1) / 2))
    have hna := not_and _ hbd.1 hbd.2
    gi_wp2
    refine ⟨by simp, .inl ⟨_, _, rfl, run_takeDeferred hK, ?_⟩⟩
    exact ⟨_, results_tmp rfl _ _ _, by rw [← hwl.out]; rfl, hB.trans (belowK_b (w := w) (Nat.le_refl _) W D _ _ (by simp at hD; omega) hK rfl rfl)⟩
  case stop =>
    rintro D c pre W _ _ h _
    exact h.elim
theorem csum_any (A : Option Addr) (len cap : Nat) (zs : List Int) (hlen : len ≤ 1000000000000) (w : World) (hx : Bytes zs) (hR : Reads w .u8 A len zs) :
    Calls Tryz.prog 185 #[.slice A len cap] w fun e W' => e = .returned (.int .u32 (65535 - csW (wordsOf zs))) ∧ Below w.heap.size w W' :=
  (callsIn_wide (n := 3)).1 (csum_in 3 (by omega) A len cap zs hlen w hx hR)
end Go.Proofs.YtdgilloblfbklaaGreatDoor
