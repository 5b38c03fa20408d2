/-
  same: copies that are the same.
-/
import Derived.Test.YtdgilloblfbklabGreatDoorQ5
import Derived.Test.YtdgilloblfbklabGreatDoorSame
import Derived.Test.YtdgilloblfbklabGreatDoorClassRegion
set_option linter.unusedVariables false
set_option linter.unusedSimpArgs false
set_option maxRecDepth 100000
namespace Go.Proofs.YtdgilloblfbklabGreatDoor.Own
open Go.RowKit

set_option maxHeartbeats 3200000 in
theorem same_ok {w W : World} {base q : Nat} {A : Option Addr} {L : List Cp} {Vs : List Value} {v1 : Value} {c : Nat} (hC : CpsAt base W q A L Vs) (hO : OutAt w W v1 L) (hb : Below w.heap.size w W) (hL : L.length ≤ 64) :
    Calls Tryz.prog 15 #[.slice A L.length c, v1] W fun e w' => e = .returned (.bool true) ∧ ∃ d, w' = W.drewN d := by
  obtain ⟨O, o1, ⟨base2, o2, _⟩, o3⟩ := hO
  obtain ⟨A1, L1, c1, rfl, HL1⟩ := own_form o2
  have hL1 := HL1.out
  subst hL1
  have H := aside' (And.intro hC (And.intro o1 (And.intro o2 (And.intro o3 hb))))
  have hne : ((L.length : Int) != (L.length : Int)) = false := by simp
  clear hC o1 o2 o3 hb HL1
  obtain ⟨n, hn⟩ : ∃ n, n = L.length := ⟨_, rfl⟩
  have HN := aside' hn
  rw [← hn] at hL hne ⊢
  clear hn
  go_enter Tryz.func15, Tryz.ntmps15
  go_wp2
  go_loopw [5] (fun i wr => ∃ k : Nat, k ≤ n ∧ i = .int .i64 k ∧ Aside (∃ d, wr = W.drewN d)) (fun i _ => n - (intOf i).toNat)
  case atStart => exact ⟨0, Nat.zero_le _, rfl, 0, rfl⟩
  case round =>
    obtain ⟨k, hk, rfl, HI⟩ := hrel
    obtain ⟨dd, rfl⟩ := HI.out
    by_cases hlt : k < n
    · have g1 : decide ((k : Int) < (n : Int)) = true := decide_eq_true (by omega)
      have hkL : k < L.length := by have := HN.out; omega
      obtain ⟨g, rfl, _, _, _⟩ := H.out.1.ad (by omega)
      obtain ⟨ca, v, cb, hcl⟩ := H.out.1.at_ g rfl k hkL
      obtain ⟨Av, cv, _, rfl, hfr⟩ := hcl
      obtain ⟨g2, c2, hv2, _⟩ := own_some H.out.2.2.1 (by omega)
      injection hv2 with hv2 _ hv3
      subst hv2
      subst hv3
      obtain ⟨p1, A5, c5, p2, p3⟩ := H.out.2.2.2.1 k hkL
      have o1 := H.out.2.1
      obtain ⟨h1, h2⟩ := outCells_get O k (by omega)
      rw [p1] at h1
      rw [p2] at h2
      have cc := H.out.2.2.1.cells (g := g2) rfl (2 * k) _ h1
      have cd := H.out.2.2.1.cells (g := g2) rfl (2 * k + 1) _ h2
      rw [add_plain] at cc cd
      rw [Nat.mul_comm] at ca cb cc cd
      have HSB := aside' (fun (e : Nat) => same_bytes Av A5 _ (L.getD k zCp).2.length _ c5 _ _ (W.drewN e) (hfr.rd.below (below_drewN (Below.refl _ _) e)) (p3.below (H.out.2.2.2.2.trans ((below_drewN (Below.refl W.heap.size W) e).mono H.out.2.2.2.2.size))))
      rw [decide_eq_true rfl] at HSB
      have e0 : ((L.getD k zCp).1 != (L.getD k zCp).1) = false := by simp
      generalize (L.getD k zCp).2.length = m at *
      generalize (L.getD k zCp).1 = p at *
      have i0 : (0 : Int) ≤ (k : Int) := by omega
      have i1 : (k : Int) < (n : Int) := by omega
      clear hfr p1 p2 p3 o1 h1 h2 HI hkL
      go_wp2_with fail
      refine region_class (fun V => ∃ e, V = W.drewN e) (by kernel_rfl) (by kernel_rfl) ⟨dd + 1, rfl⟩ ?_
      repeat
        (first
          | go_big_quiet_skip
          | (go_big_quiet_want; first
              | (go_big_quiet_op; go_big_quiet_on)
              | (unfold Oper.quiet; apply Exists.intro; refine ⟨fun V hV => ?_, ?_⟩
                 · obtain ⟨ee, rfl⟩ := hV
                   have da : (W.drewN ee).cell? ⟨g, k * 2, none⟩ = some (.int .i64 p) := ca
                   have db : (W.drewN ee).cell? ⟨g, k * 2 + 1, none⟩ = some (.slice Av m m) := cb
                   have dc : (W.drewN ee).cell? ⟨g2, k * 2, none⟩ = some (.int .i64 p) := cc
                   have de : (W.drewN ee).cell? ⟨g2, k * 2 + 1, none⟩ = some (.slice A5 m c5) := cd
                   go_simp
                   first
                     | with_reducible rfl
                     | (go_at_call 23; refine Calls.mono (HSB.out ee) ?_; rintro e w5 ⟨he5, q5, hw5⟩; exact ⟨he5, ee + q5, by rw [hw5]; first | rfl | simp⟩)
                 go_simp
                 go_big_quiet_on)))
      refine wpQuiet_nil ?_
      rintro V ⟨ee, rfl⟩
      go_wp2
      go_roundw
      case rel => exact ⟨k + 1, by omega, by go_num, _, rfl⟩
      case measure => (simp [intOf]; omega)
    · obtain rfl : k = n := by omega
      have g1 : decide ((k : Int) < (k : Int)) = false := decide_eq_false (by omega)
      go_wp2
      go_ret
      exact ⟨rfl, _, rfl⟩
end Go.Proofs.YtdgilloblfbklabGreatDoor.Own
