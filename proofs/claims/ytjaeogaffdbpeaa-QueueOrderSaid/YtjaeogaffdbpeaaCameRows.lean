/-
  A slice of slices of bytes that came in, opened.
-/
import Derived.Test.YtjaeogaffdbpeaaCame
import Derived.Test.YtjaeogaffdbpeaaNone
set_option linter.unusedVariables false
set_option linter.unusedSimpArgs false
namespace Go.Proofs.Ytjaeogaffdbpeaa.Own
open Go.RowKit Go.Deep Go.ChangeShapes Go.WideShapes

theorem came_rows {H : Type} {enc : TypeId × Value → H} {W : World} {A : Option Addr} {n c : Nat} (h : Came enc Try.prog W 22 [.slice A n c]) : ∃ xss, ReadsRows W A n xss := by
  obtain ⟨A', n', c', h1, h2, h3, h4, h5, h6, h7⟩ := h.slice1 Try.underlying22 (by kernel_rfl)
  injection h1 with h1 _
  injection h1 with h1 h1' h1''
  subst h1 h1' h1''
  unfold maxLen at h3
  rcases A with _ | ad
  · obtain ⟨rfl, _⟩ := h6 rfl
    exact ⟨[], rfl, by omega, fun h => by omega⟩
  · obtain ⟨xss, hl, hx⟩ := list_of ([] : List Int) n (p := fun i xs => ∃ B m c, W.cell? (ad.add i) = some (.slice B m c) ∧ m ≤ 140737488351232 ∧ (B = none → c = 0) ∧ Reads W .u8 B m xs) (fun i hi => by
      obtain ⟨v, h8, h9⟩ := h7 ad rfl i hi
      obtain ⟨B, m, d, xs, h10, h11, h12, h13, h14, h15⟩ := h9.ints Try.underlying23 Try.underlying5 (by kernel_rfl)
      have hd : B = none → d = 0 := by
        obtain ⟨B2, m2, d2, g1, _, _, _, _, g6, _⟩ := h9.slice1 Try.underlying23 (by kernel_rfl)
        rw [h10] at g1
        injection g1 with g1 _
        injection g1 with g1 g1' g1''
        subst g1 g1' g1''
        exact fun e => (g6 e).2
      injection h10 with h10 _
      have hb1 : Try.prog.bytesOf 5 = 1 := by kernel_rfl
      rw [hb1] at h12
      exact ⟨xs, B, m, d, by rw [h8, h10], by omega, hd, h14⟩)
    refine ⟨xss, hl, by omega, fun hn => ?_⟩
    obtain ⟨b, off, spot⟩ := ad
    obtain ⟨B0, m0, d0, hc0, _⟩ := hx 0 hn
    have hs : spot = none := by simpa [Addr.add] using World.cell?_spot hc0
    subst hs
    refine ⟨b, off, rfl, ?_, fun j hj => ?_⟩
    · have := World.block_lt_of_cell? W _ hc0
      rwa [add_block] at this
    · obtain ⟨B, m, d, hc, r⟩ := hx j hj
      rw [Addr.add_lit] at hc
      exact ⟨B, m, d, hc, r⟩
end Go.Proofs.Ytjaeogaffdbpeaa.Own
