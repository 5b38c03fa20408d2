/-
  The contracts of the document's answer: Width, Name, Find, fold, Turn.
-/
import Derived.Test.YtdgilloblfbklaaGreatDoorNames
set_option linter.unusedVariables false
set_option linter.unusedSimpArgs false
namespace Go.Proofs.YtdgilloblfbklaaGreatDoor
open Go.RowKit SumsMath

theorem refWidth_any (n : Int) (w : World) : Calls Tryz.prog 177 #[.int .i64 n] w fun e w' => e = .returned (.int .i64 (widthF n)) ∧ w = w' := by
  by_cases h1 : n = 1
  · subst h1
    go_enter Tryz.func177, Tryz.ntmps177
    go_wp2
    go_ret
    exact ⟨rfl, rfl⟩
  by_cases h3 : n = 3
  · subst h3
    go_enter Tryz.func177, Tryz.ntmps177
    go_wp2
    go_ret
    exact ⟨rfl, rfl⟩
  by_cases h4 : n = 4
  · subst h4
    go_enter Tryz.func177, Tryz.ntmps177
    go_wp2
    go_ret
    exact ⟨rfl, rfl⟩
  by_cases h2 : n = 2
  · subst h2
    go_enter Tryz.func177, Tryz.ntmps177
    go_wp2
    go_ret
    exact ⟨rfl, rfl⟩
  · have hw : widthF n = 0 := by unfold widthF; rw [if_neg h1, if_neg h2, if_neg h3, if_neg h4]
    rw [hw]
    have e1 : decide (n = 1) = false := by simp [h1]
    have e2 : decide (n = 2) = false := by simp [h2]
    have e3 : decide (n = 3) = false := by simp [h3]
    have e4 : decide (n = 4) = false := by simp [h4]
    go_enter Tryz.func177, Tryz.ntmps177
    go_wp2
    go_ret
    exact ⟨rfl, rfl⟩

theorem refFold_any (n : Int) (h0 : 0 ≤ n) (h1 : n ≤ 4294967295) (w : World) : Calls Tryz.prog 175 #[.int .u32 n] w fun e w' => e = .returned (.int .u32 (foldF n)) ∧ w = w' := by
  go_enter Tryz.func175, Tryz.ntmps175
  go_wp2
  go_loop [0] (fun v => ∃ m : Int, v = .int .u32 m ∧ 0 ≤ m ∧ m ≤ 4294967295 ∧ Aside (foldF m = foldF n)) (fun v => (intOf v).toNat)
  case atStart => exact ⟨n, rfl, h0, h1, rfl⟩
  case round =>
    obtain ⟨m, rfl, hm0, hm1, hf⟩ := hrel
    by_cases hb : 65535 < m
    · have ha := and_65535 m hm0 hm1
      have hs := foldF_step m hb hm1
      have HS : Aside (foldF (m % 65536 + m / 65536) = foldF m) := hs
      clear hs
      go_wp2
      go_round
      case rel => exact ⟨m % 65536 + m / 65536, by go_num, by omega, by omega, HS.out.trans hf.out⟩
      case measure => simp [intOf]; omega
    · have hsm : Aside (foldF m = m) := foldF_small m hm0 (by omega)
      go_wp2
      go_ret
      exact ⟨by rw [← hf.out, hsm.out]; rfl, rfl⟩
end Go.Proofs.YtdgilloblfbklaaGreatDoor
