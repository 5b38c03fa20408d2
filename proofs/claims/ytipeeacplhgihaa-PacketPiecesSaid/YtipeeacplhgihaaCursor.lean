/-
  The cursor: New, gone, left, At, Left, Rest.
-/
import Derived.Test.YtipeeacplhgihaaProg
import Derived.Test.YtipeeacplhgihaaBits2
import Derived.Test.YtipeeacplhgihaaBitsPkg
set_option linter.unusedVariables false
set_option linter.unusedSimpArgs false
namespace Go.Proofs.Ytipeeacplhgihaa
open Go.RowKit PkMath

theorem infoByte : (Try.prog.info? 5).map (fun i => (i.zero, i.size, i.bytes)) = some (some (.int .u8 0), 1, 1) := by kernel_rfl

/-- A cursor: its block, its bytes (memory of its own), how many bits were taken. -/
def CurAt (base : Nat) (w : World) (g : Nat) (zs : List Int) (at_ : Nat) : Prop :=
  base ≤ g ∧ zs.length ≤ 65536 ∧ at_ ≤ 8 * zs.length ∧ ∃ A c, w.heap[g]? = some (.cells #[.slice A zs.length c, .int .i64 at_, .bool true] 52 (0, 0)) ∧ w.ownsRow base 5 1 (.slice A zs.length c) zs.length (nums .u8 zs) ∧ (∀ ad, A = some ad → ad.block ≠ g)
theorem CurAt.lt {base : Nat} {w : World} {g : Nat} {zs : List Int} {at_ : Nat} (h : CurAt base w g zs at_) : g < w.heap.size := by
  obtain ⟨_, _, _, A, c, hb, _⟩ := h
  exact (Array.getElem?_eq_some_iff.1 hb).1
theorem CurAt.below {base : Nat} {w w' : World} {g : Nat} {zs : List Int} {at_ : Nat} (h : CurAt base w g zs at_) (hb : Below w.heap.size w w') : CurAt base w' g zs at_ := by
  obtain ⟨h1, h2, h3, A, c, h4, h5, h6⟩ := h
  exact ⟨h1, h2, h3, A, c, (hb.block g (Array.getElem?_eq_some_iff.1 h4).1).trans h4, own_keep h5 hb, h6⟩

theorem New_any (A : Option Addr) (n c : Nat) (zs : List Int) (w : World) (hR : Reads w .u8 A n zs) (hn : n ≤ 65536) :
    Calls Try.prog 8 #[.slice A n c] w fun e w' => ∃ g, e = .returned (.tuple #[.pointer (some ⟨g, 0, none⟩), .int .i64 0]) ∧ CurAt w.heap.size w' g zs 0 ∧ Below w.heap.size w w' := by
  have HR : Aside (Reads w .u8 A n zs) := hR
  have HO : Aside (w.ownsRow w.heap.size 5 1 (.slice none 0 0) ([] : List Int).length (nums .u8 [])) := World.ownsRow_nil _ _ _ _
  clear hR
  go_enter Try.func8, Try.ntmps8
  go_wp2_with (
    at_builtin
    refine append_row w.heap.size rfl _ _ 24 5 .u8 1 rfl Try.underlying24 infoByte (by omega) (.slice none 0 0) [] zs A n c rfl rfl HO.out HR.out (Nat.le_refl _) (by simp; omega) ?_
    intro v1 w1 hown hg hat
    have hzl : ([] ++ zs : List Int).length = n := by simpa using HR.out.1
    rw [hzl, List.nil_append] at hown
    obtain ⟨A1, L1, c1, rfl, HL1⟩ := own_form hown
    have hB : Below w.heap.size w w1 := own_grown HO.out hg (Nat.le_refl _))
  go_ret2
  have hlen : zs.length = n := HR.out.1
  subst hlen
  obtain rfl : L1 = zs.length := HL1.out
  refine ⟨w1.heap.size, rfl, ⟨hB.size, hn, Nat.zero_le _, A1, c1, heap_alloc_new _ _, hown.alloc _, ?_⟩, hB.alloc hB.size _⟩
  intro ad had e
  have := (hown.lt ad.block (by rw [had]; rfl)).2
  omega
theorem New_big (A : Option Addr) (n c : Nat) (w : World) (hn : 65536 < n) (hm : n ≤ 9223372036854775807) :
    Calls Try.prog 8 #[.slice A n c] w fun e w' => e = .returned (.tuple #[.pointer none, .int .i64 3]) ∧ w = w' := by
  go_enter Try.func8, Try.ntmps8
  go_wp2
  go_ret2
  exact ⟨rfl, rfl⟩

section
variable {base : Nat} {w : World} {g : Nat} {zs : List Int} {at_ : Nat}
theorem eql_ptr (a : Addr) (w : World) : (binOp .eql 28 (.pointer (some a)) (.pointer none)).run Try.prog w = .ok (.bool false) w := by kernel_rfl
theorem gone_any (h : CurAt base w g zs at_) : Calls Try.prog 18 #[.pointer (some ⟨g, 0, none⟩)] w fun e w' => e = .returned (.bool false) ∧ w = w' := by
  obtain ⟨_, _, _, A, c, hb, _⟩ := h
  have c2 : w.cell? ⟨g, 2, none⟩ = some (.bool true) := cellOf hb 2
  clear hb
  go_enter Try.func18, Try.ntmps18
  go_wp2
  go_ret
  exact ⟨rfl, rfl⟩
theorem left1_any (h : CurAt base w g zs at_) : Calls Try.prog 19 #[.pointer (some ⟨g, 0, none⟩)] w fun e w' => e = .returned (.int .i64 (8 * (zs.length : Int) - at_)) ∧ ∃ q, w' = w.drewN q := by
  obtain ⟨_, h1, h2, A, c, hb, _⟩ := h
  have c0 : w.cell? ⟨g, 0, none⟩ = some (.slice A zs.length c) := cellOf hb 0
  have c1 : w.cell? ⟨g, 1, none⟩ = some (.int .i64 at_) := cellOf hb 1
  generalize zs.length = n at *
  clear hb
  have s1 : IntKind.i64.wrap (8 * (n : Int)) = 8 * (n : Int) := by rw [IntKind.wrap_i64]; omega
  have s2 : IntKind.i64.wrap (8 * (n : Int) - (at_ : Int)) = 8 * (n : Int) - (at_ : Int) := by rw [IntKind.wrap_i64]; omega
  go_enter Try.func19, Try.ntmps19
  go_wp2_with fail
  go_quiet (fail)
  go_wp2
  go_ret
  exact ⟨rfl, _, rfl⟩
theorem At_any (h : CurAt base w g zs at_) : Calls Try.prog 10 #[.pointer (some ⟨g, 0, none⟩)] w fun e w' => e = .returned (.int .i64 at_) ∧ w = w' := by
  have H : Aside (CurAt base w g zs at_) := h
  obtain ⟨_, h1, h2, A, c, hb, _⟩ := h
  have c1 : w.cell? ⟨g, 1, none⟩ = some (.int .i64 at_) := cellOf hb 1
  clear hb
  go_enter Try.func10, Try.ntmps10
  go_wp2_with fail
  refine (gone_any H.out).mono ?_
  rintro e w' ⟨rfl, rfl⟩
  go_wp2
  go_ret
  exact ⟨rfl, rfl⟩
theorem Left_any (h : CurAt base w g zs at_) : Calls Try.prog 11 #[.pointer (some ⟨g, 0, none⟩)] w fun e w' => e = .returned (.int .i64 (8 * (zs.length : Int) - at_)) ∧ ∃ q, w' = w.drewN q := by
  have H : Aside (CurAt base w g zs at_) := h
  clear h
  go_enter Try.func11, Try.ntmps11
  go_wp2_with fail
  refine (gone_any H.out).mono ?_
  rintro e w' ⟨rfl, rfl⟩
  go_wp2_with fail
  refine (left1_any H.out).mono ?_
  rintro e w' ⟨rfl, q, rfl⟩
  go_wp2
  go_ret
  exact ⟨rfl, _, rfl⟩
end
end Go.Proofs.Ytipeeacplhgihaa
