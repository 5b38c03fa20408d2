/-
  slices.Clone and slices.Clip of ints.
-/
import Derived.Test.YtanimonhnngfkaaChk
set_option linter.unusedVariables false
set_option linter.unusedSimpArgs false
namespace Go.Proofs.Ytanimonhnngfkaa
open Go.RowKit

theorem reads_lit0 (w : World) (B : Option Addr) (m : Nat) (ls : List Int) (h : Reads w .i64 B m ls) (h0 : B = none) : m = 0 ∧ ls = [] := by
  subst h0
  rcases Nat.eq_zero_or_pos m with hm | hm
  · exact ⟨hm, List.eq_nil_of_length_eq_zero (by rw [h.1]; exact hm)⟩
  · obtain ⟨ad, h1, _⟩ := h.2.2 hm; cases h1
set_option maxRecDepth 100000 in
theorem Clone_any (B : Option Addr) (m d : Nat) (ls : List Int) (w : World) (hS : Reads w .i64 B m ls) (hm : m ≤ 4096) (hd : B = none → d = 0) :
    Calls Try.prog 38 #[.slice B m d] w fun e w' => ∃ v, e = .returned v ∧ w'.ownsRow w.heap.size 3 1 v m (nums .i64 ls) ∧ Below w.heap.size w w' := by
  rcases B with _ | ad
  · obtain ⟨rfl, rfl⟩ := reads_lit0 w _ _ _ hS rfl
    obtain rfl := hd rfl
    have hnil : ∀ W, (binOp BinOp.eql 36 (.slice none 0 0) (.slice none 0 0)).run Try.prog W = .ok (.bool true) W := fun W => by kernel_rfl
    clear hd hm
    go_enter Try.func38, Try.ntmps38
    go_wp2_with fail
    go_ret
    exact ⟨_, rfl, World.ownsRow_nil _ _ _ _, Below.refl _ _⟩
  · have hnil : ∀ W, (binOp BinOp.eql 36 (.slice (some ad) m d) (.slice none 0 0)).run Try.prog W = .ok (.bool false) W := fun W => by kernel_rfl
    have hS1 := hS.below ((Below.refl w.heap.size w).alloc (Nat.le_refl _) (.cells #[] 3))
    have HO : Aside _ := World.ownsRow_lit (base := w.heap.size) (e := 3) (size := 1) w #[] 0 (Nat.le_refl _) (by simp [maxLen]) rfl
    have HS : Aside _ := hS1
    have HB : Aside _ := ((Below.refl w.heap.size w).alloc (Nat.le_refl _) (.cells #[] 3))
    clear hS hS1 hd
    go_enter Try.func38, Try.ntmps38
    go_wp2_with (at_builtin; refine append_row w.heap.size rfl _ _ 36 3 .i64 8 rfl Try.underlying36 infoI64 (by decide) (.slice (some ⟨w.heap.size, 0, none⟩) 0 0) [] ls (some ad) m d rfl rfl HO.out HS.out HB.out.size (by simp; omega) ?_; intro v1 w8 hown hg hat; have hb := HB.out.trans ((own_grown HO.out hg HB.out.size).mono (Nat.le_refl _)); clear hg hat)
    go_ret
    rw [List.nil_append, HS.out.1] at hown
    exact ⟨v1, rfl, hown, hb⟩
set_option maxRecDepth 100000 in
theorem Clip_any (v : Value) (m base : Nat) (ls : List Int) (w : World) (hO : w.ownsRow base 3 1 v m (nums .i64 ls)) (hm : m ≤ 4096) :
    Calls Try.prog 37 #[v] w fun e w' => ∃ B, e = .returned (.slice B m m) ∧ (B = none ∨ ∃ b, B = some ⟨b, 0, none⟩ ∧ base ≤ b) ∧ Reads w .i64 B m ls ∧ w' = w := by
  obtain ⟨A, L, c, rfl, hL⟩ := own_form hO
  obtain rfl : L = m := hL
  have HR := own_rd' hO
  have hnc : L ≤ c ∧ (A = none ∨ ∃ b, A = some ⟨b, 0, none⟩ ∧ base ≤ b) ∧ c ≤ 9223372036854775807 := by
    rcases hO.2 with ⟨h1, h2⟩ | ⟨g, cap, cur, h1, h2, h3, h4, h5, _⟩
    · cases h1; exact ⟨Nat.le_refl _, .inl rfl, by omega⟩
    · cases h1; exact ⟨h4, .inr ⟨g, rfl, h2⟩, by simpa [maxLen] using h5⟩
  obtain ⟨n1, n2, n3⟩ := hnc
  have hL0 : (0 : Int) ≤ (L : Int) := by omega
  have hLc : (L : Int) ≤ (c : Int) := by omega
  have HN2 : Aside _ := n2
  have HRR : Aside _ := HR
  clear hO HR n2
  have hsl : ∀ W : World, (Instr.slice 36 (.slice A L c) none (some (.int .i64 (L : Int))) (some (.int .i64 (L : Int)))).run Try.prog W = .ok (.slice A L L) W := by
    intro W
    rw [run_slice_hm (P := Try.prog) W 36 A L c (by kernel_rfl) .i64 .i64 (L : Int) (L : Int) (by omega) (by omega) (by omega)]
    have hsz : (sizeOf (Try.prog.elem 36)).run Try.prog W = .ok 1 W := by kernel_rfl
    rw [hsz]
    rcases HN2.out with rfl | ⟨b, rfl, _⟩
    · simp [sliced, Result.andThen]
    · simp [sliced, Result.andThen, add_plain]
  go_enter Try.func37, Try.ntmps37
  go_wp2_with fail
  go_ret
  exact ⟨A, rfl, HN2.out, HRR.out, rfl⟩
end Go.Proofs.Ytanimonhnngfkaa
