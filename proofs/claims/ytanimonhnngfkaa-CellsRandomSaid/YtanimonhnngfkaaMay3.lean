/-
  may, of an array that may be.
-/
import Derived.Test.YtanimonhnngfkaaMay2
set_option linter.unusedVariables false
set_option linter.unusedSimpArgs false
namespace Go.Proofs.Ytanimonhnngfkaa
open Go.RowKit

set_option maxRecDepth 100000 in
set_option maxHeartbeats 4000000 in
theorem may_ok (a : Arr) (ho : a.ok) (A : Option Addr) (n c : Nat) (B : Option Addr) (m d p : Nat) (w : World) (hR : ReadsNums w A n a.cs) (hS : Reads w .i64 B m a.ls) (hp : w.heap[p]? = some (.cells (a.vals A n c B m d) 63 (0, 0))) :
    Calls Try.prog 20 #[.pointer (some ⟨p, 0, none⟩)] w fun e w' => e = .returned (.bool true) ∧ Below w.heap.size w w' := by
  have hB : Below w.heap.size w (w.alloc (.cells #[.pointer (some ⟨p, 0, none⟩)] 65)) := (Below.refl _ _).alloc (Nat.le_refl _) _
  have hp1 := (Below.heap_alloc w (.cells #[.pointer (some ⟨p, 0, none⟩)] 65) p (Array.getElem?_eq_some_iff.1 hp).1).trans hp
  have hb1 := heap_alloc_new w (.cells #[.pointer (some ⟨p, 0, none⟩)] 65)
  have hM : Aside (MA w w.heap.size p (a.vals A n c B m d) (w.alloc (.cells #[.pointer (some ⟨p, 0, none⟩)] 65))) := ⟨hb1, hp1, hB⟩
  have HH1 : Aside (∀ V, MA w w.heap.size p (a.vals A n c B m d) V → Calls Try.prog 35 #[.slice A n c, .func (.func 33) #[] #[.pointer (some ⟨w.heap.size, 0, none⟩)]] V fun e w' => e = .returned (.bool false) ∧ Below V.heap.size V w') :=
    fun V hV => has1_none a ho A n c B m d A n c w.heap.size p V (hR.below hV.below) hV.hb hV.hp
  have HH2 : Aside (∀ V, MA w w.heap.size p (a.vals A n c B m d) V → Calls Try.prog 36 #[.slice B m d, .func (.func 34) #[] #[]] V fun e w' => e = .returned (.bool false) ∧ w' = V) :=
    fun V hV => has2_none a.ls ho.last B m d V (hS.below hV.below)
  have hn1 : 1 ≤ n := by have := ho.len.1; rw [hR.1] at this; exact this
  have hn2 : n ≤ 4096 := by have := ho.len.2; rw [hR.1] at this; exact this
  have hml : a.ls.length = m := hS.1
  have hnl : a.cs.length = n := hR.1
  have hkd := ho.kd
  have hsc := ho.scal
  rw [hml, hnl] at hsc
  have hls : a.ls = [] → m = 0 := fun h => by rw [h] at hml; simpa using hml.symm
  have c1 : ∀ (V : World), MA w w.heap.size p (a.vals A n c B m d) V → (V.cell? ⟨w.heap.size, 0, none⟩ = some (.pointer (some ⟨p, 0, none⟩)) ∧ V.cell? ⟨p, 1, none⟩ = some (.int .u8 a.kd) ∧ V.cell? ⟨p, 2, none⟩ = some (.int .i64 a.W)) ∧ (V.cell? ⟨p, 3, none⟩ = some (.int .i64 a.Rate) ∧ V.cell? ⟨p, 4, none⟩ = some (.int .i64 a.Burst) ∧ V.cell? ⟨p, 5, none⟩ = some (.slice A n c) ∧ V.cell? ⟨p, 6, none⟩ = some (.slice B m d)) :=
    fun V h => ⟨⟨cellOf h.hb 0, cellOf h.hp 1, cellOf h.hp 2⟩, cellOf h.hp 3, cellOf h.hp 4, cellOf h.hp 5, cellOf h.hp 6⟩
  have HCL : Aside (∀ (V : World), MA w w.heap.size p (a.vals A n c B m d) V → (V.cell? ⟨w.heap.size, 0, none⟩ = some (.pointer (some ⟨p, 0, none⟩)) ∧ V.cell? ⟨p, 1, none⟩ = some (.int .u8 a.kd) ∧ V.cell? ⟨p, 2, none⟩ = some (.int .i64 a.W)) ∧ (V.cell? ⟨p, 3, none⟩ = some (.int .i64 a.Rate) ∧ V.cell? ⟨p, 4, none⟩ = some (.int .i64 a.Burst) ∧ V.cell? ⟨p, 5, none⟩ = some (.slice A n c) ∧ V.cell? ⟨p, 6, none⟩ = some (.slice B m d))) := c1
  obtain ⟨⟨k0, k1, k2⟩, k3, k4, k5, k6⟩ := c1 _ hM.out
  generalize a.vals A n c B m d = vals at *
  generalize a.kd = kd at *
  generalize a.W = aW at *
  generalize a.Rate = Rate at *
  generalize a.Burst = Burst at *
  generalize hlsl : a.ls = ls at *
  clear c1 hp hp1 hb1 hB hml hnl hR hS ho hlsl
  obtain ⟨sc1, sc2, sc3, sc4⟩ := hsc
  by_cases h5 : kd = 5
  · subst h5
    obtain ⟨r0, r1, b1, b2, hmn⟩ := sc4 rfl
    have hW := sc3 (by decide)
    subst hW hmn
    clear sc1 sc2 sc3 sc4 hkd hls
    by_cases hr : Rate = 0
    · subst hr
      have hb0 : (Burst == 0) = false := by simp; omega
      have e1 : decide (Burst < 1) = false := decide_eq_false (by omega)
      have e2 : decide (65535 < Burst) = false := decide_eq_false (by omega)
      go_enter Try.func20, Try.ntmps20
      go_wp2_with fail
      go_quiet (fail)
      have hMq := hM.out.next (below_drewN (Below.refl _ _) nq)
      clear k0 k1 k2 k3 k4 k5 k6
      obtain ⟨⟨k0, k1, k2⟩, k3, k4, k5, k6⟩ := HCL.out _ hMq
      go_wp2_with fail
      refine Calls.mono (HH1.out _ hMq) ?_
      rintro e w5 ⟨rfl, hb5⟩
      have hM5 := hMq.next hb5
      clear k0 k1 k2 k3 k4 k5 k6
      obtain ⟨⟨k0, k1, k2⟩, k3, k4, k5, k6⟩ := HCL.out _ hM5
      go_wp2_with fail
      refine Calls.mono (HH2.out _ hM5) ?_
      rintro e w6 ⟨rfl, rfl⟩
      go_wp2
      go_ret
      exact ⟨rfl, hM5.below⟩
    · have hr0 : (Rate == 0) = false := by simp [hr]
      have e1 : decide (Burst < 1) = false := decide_eq_false (by omega)
      have e2 : decide (65535 < Burst) = false := decide_eq_false (by omega)
      have e3 : decide (Rate < 0) = false := decide_eq_false (by omega)
      have e4 : decide (65535 < Rate) = false := decide_eq_false (by omega)
      clear hr
      go_enter Try.func20, Try.ntmps20
      go_wp2_with fail
      go_quiet (fail)
      have hMq := hM.out.next (below_drewN (Below.refl _ _) nq)
      clear k0 k1 k2 k3 k4 k5 k6
      obtain ⟨⟨k0, k1, k2⟩, k3, k4, k5, k6⟩ := HCL.out _ hMq
      go_wp2_with fail
      refine Calls.mono (HH1.out _ hMq) ?_
      rintro e w5 ⟨rfl, hb5⟩
      have hM5 := hMq.next hb5
      clear k0 k1 k2 k3 k4 k5 k6
      obtain ⟨⟨k0, k1, k2⟩, k3, k4, k5, k6⟩ := HCL.out _ hM5
      go_wp2_with fail
      refine Calls.mono (HH2.out _ hM5) ?_
      rintro e w6 ⟨rfl, rfl⟩
      go_wp2
      go_ret
      exact ⟨rfl, hM5.below⟩
  · obtain ⟨hR0, hB0, hl0⟩ := sc1 h5
    obtain rfl := hls hl0
    subst hR0 hB0
    by_cases h3 : kd = 3
    · subst h3
      obtain ⟨w1, w2⟩ := sc2 rfl
      have e1 : decide (aW < 1) = false := decide_eq_false (by omega)
      have e2 : decide (128 < aW) = false := decide_eq_false (by omega)
      clear sc1 sc2 sc3 sc4 hkd hls hl0 h5
      go_enter Try.func20, Try.ntmps20
      go_wp2_with fail
      refine Calls.mono (HH1.out _ hM.out) ?_
      rintro e w5 ⟨rfl, hb5⟩
      have hM5 := hM.out.next hb5
      obtain ⟨⟨k0, k1, k2⟩, k3, k4, k5, k6⟩ := HCL.out _ hM5
      go_wp2_with fail
      refine Calls.mono (HH2.out _ hM5) ?_
      rintro e w6 ⟨rfl, rfl⟩
      go_wp2
      go_ret
      exact ⟨rfl, hM5.below⟩
    · obtain rfl : kd = 4 := by omega
      have hW := sc3 (by decide)
      subst hW
      clear sc1 sc2 sc3 sc4 hkd hls hl0 h5 h3
      go_enter Try.func20, Try.ntmps20
      go_wp2_with fail
      refine Calls.mono (HH1.out _ hM.out) ?_
      rintro e w5 ⟨rfl, hb5⟩
      have hM5 := hM.out.next hb5
      obtain ⟨⟨k0, k1, k2⟩, k3, k4, k5, k6⟩ := HCL.out _ hM5
      go_wp2_with fail
      refine Calls.mono (HH2.out _ hM5) ?_
      rintro e w6 ⟨rfl, rfl⟩
      go_wp2
      go_ret
      exact ⟨rfl, hM5.below⟩
end Go.Proofs.Ytanimonhnngfkaa
