/-
  slices.Clone and slices.Clip of bytes.
-/
import Derived.Test.YtdgilloblfbklabGreatDoorQ2
set_option linter.unusedVariables false
set_option linter.unusedSimpArgs false
namespace Go.Proofs.YtdgilloblfbklabGreatDoor.Own
open Go.RowKit

theorem infoByte' : ((Tryz.prog.info? 5).map fun i => (i.zero, i.size, i.bytes)) = some (some (.int .u8 0), 1, 1) := by kernel_rfl
theorem reads_lit0 (w : World) (B : Option Addr) (m : Nat) (ls : List Int) (h : Reads w .u8 B m ls) (h0 : B = none) : m = 0 ∧ ls = [] := by
  subst h0
  rcases Nat.eq_zero_or_pos m with hm | hm
  · exact ⟨hm, List.eq_nil_of_length_eq_zero (by rw [h.1]; exact hm)⟩
  · obtain ⟨ad, h1, _⟩ := h.2.2 hm; cases h1
set_option maxRecDepth 100000 in
theorem Clone_bytes (B : Option Addr) (m d : Nat) (ls : List Int) (w : World) (hS : Reads w .u8 B m ls) (hm : m ≤ 140737488351232) (hd : B = none → d = 0) :
    Calls Tryz.prog 21 #[.slice B m d] w fun e w' => ∃ v, e = .returned v ∧ w'.ownsRow w.heap.size 5 1 v m (nums .u8 ls) ∧ Below w.heap.size w w' := by
  rcases B with _ | ad
  · obtain ⟨rfl, rfl⟩ := reads_lit0 w _ _ _ hS rfl
    obtain rfl := hd rfl
    have hnil : ∀ W, (binOp BinOp.eql 35 (.slice none 0 0) (.slice none 0 0)).run Tryz.prog W = .ok (.bool true) W := fun W => by kernel_rfl
    clear hd hm
    go_enter Tryz.func21, Tryz.ntmps21
    go_wp2_with fail
    go_ret
    exact ⟨_, rfl, World.ownsRow_nil _ _ _ _, Below.refl _ _⟩
  · have hnil : ∀ W, (binOp BinOp.eql 35 (.slice (some ad) m d) (.slice none 0 0)).run Tryz.prog W = .ok (.bool false) W := fun W => by kernel_rfl
    have hS1 := hS.below ((Below.refl w.heap.size w).alloc (Nat.le_refl _) (.cells #[] 5))
    have HO := aside' (World.ownsRow_lit (base := w.heap.size) (e := 5) (size := 1) w #[] 0 (Nat.le_refl _) (by simp [maxLen]) rfl)
    have HS := aside' hS1
    have HB := aside' ((Below.refl w.heap.size w).alloc (Nat.le_refl _) (.cells #[] 5))
    clear hS hS1 hd
    go_enter Tryz.func21, Tryz.ntmps21
    go_wp2_with (at_builtin; refine append_row w.heap.size rfl _ _ 35 5 .u8 1 rfl Tryz.underlying35 infoByte' (by decide) (.slice (some ⟨w.heap.size, 0, none⟩) 0 0) [] ls (some ad) m d rfl rfl HO.out HS.out HB.out.size (by simp; omega) ?_; intro v1 w8 hown hg hat; have hb := HB.out.trans ((own_grown HO.out hg HB.out.size).mono (Nat.le_refl _)); clear hg hat)
    go_ret
    rw [List.nil_append, HS.out.1] at hown
    exact ⟨v1, rfl, hown, hb⟩
/-- A row of the call's own as a copy's bytes. -/
theorem CpAt.own {w : World} {q base m : Nat} {v : Value} {xs : List Int} (h : w.ownsRow base 5 1 v m (nums .u8 xs)) (hl : xs.length = m) (hq : q < base) : CpAt w q v xs := by
  subst hl
  exact CpAt.of ((FRow.of_own h).base_ hq)
/-- A copy's bytes in a block from lo on. -/
def CpF (lo : Nat) (w : World) (q : Nat) (v : Value) (xs : List Int) : Prop := CpAt w q v xs ∧ ∀ k, v.ownBlock = some k → lo ≤ k
theorem CpAt.footq {w w' : World} {q : Nat} {v : Value} {xs : List Int} (h : CpAt w q v xs) (hf : Foot (fun i => i = q) w w') : CpAt w' q v xs :=
  h.foot hf (fun k hk e => by have := (h.fr.lt k hk).1; omega)
theorem CpF.footq {lo : Nat} {w w' : World} {q : Nat} {v : Value} {xs : List Int} (h : CpF lo w q v xs) (hf : Foot (fun i => i = q) w w') : CpF lo w' q v xs := ⟨h.1.footq hf, h.2⟩
theorem CpAt.drew {w : World} {q : Nat} {v : Value} {xs : List Int} (h : CpAt w q v xs) : CpAt w.drew q v xs := h.below (Below.refl _ _).drew
set_option maxRecDepth 100000 in
theorem Clip_bytes (A : Option Addr) (L c : Nat) (w : World) (hL : L ≤ c) (hc : c ≤ 9223372036854775807) (hA : ∀ ad, A = some ad → ad.spot = none) :
    Calls Tryz.prog 19 #[.slice A L c] w fun e w' => e = .returned (.slice A L L) ∧ w' = w := by
  have hL0 : (0 : Int) ≤ (L : Int) := by omega
  have hLc : (L : Int) ≤ (c : Int) := by omega
  have hsl : ∀ W : World, (Instr.slice 35 (.slice A L c) none (some (.int .i64 (L : Int))) (some (.int .i64 (L : Int)))).run Tryz.prog W = .ok (.slice A L L) W := by
    intro W
    rw [run_slice_hm (P := Tryz.prog) W 35 A L c (by kernel_rfl) .i64 .i64 (L : Int) (L : Int) (by omega) (by omega) (by omega)]
    have hsz : (sizeOf (Tryz.prog.elem 35)).run Tryz.prog W = .ok 1 W := by kernel_rfl
    rw [hsz]
    rcases A with _ | ⟨b, off, spot⟩
    · simp [sliced, Result.andThen]
    · have := hA _ rfl
      simp only at this
      subst this
      simp [sliced, Result.andThen, Addr.add_lit]
  clear hA
  go_enter Tryz.func19, Tryz.ntmps19
  go_wp2_with fail
  go_ret
  exact ⟨rfl, rfl⟩
end Go.Proofs.YtdgilloblfbklabGreatDoor.Own
