/-
  The contracts of Width, Name, Find and Turn.
-/
import Derived.Test.YtdgilloblfbklaaGreatDoorBits
import Derived.Test.YtdgilloblfbklaaGreatDoorSums4
import Derived.Test.YtdgilloblfbklaaGreatDoorRows1
import Derived.WideLaws
set_option linter.unusedVariables false
set_option linter.unusedSimpArgs false
namespace Go.Proofs.YtdgilloblfbklaaGreatDoor
open Go.RowKit SumsMath

def widthF (n : Int) : Int := if n = 1 then 16 else if n = 2 then 32 else if n = 3 then 16 else if n = 4 then 16 else 0
def nameF (n : Int) : ByteArray := if n = 1 then ⟨#[99, 114, 99, 49, 54]⟩ else if n = 2 then ⟨#[99, 114, 99, 51, 50]⟩ else if n = 3 then ⟨#[99, 115, 117, 109, 49, 54]⟩ else if n = 4 then ⟨#[120, 111, 114, 49, 54]⟩ else ⟨#[]⟩
def fnF (n : Int) : Value := if n = 1 then .func (.func 182) #[] #[] else if n = 2 then .func (.func 184) #[] #[] else if n = 3 then .func (.func 185) #[] #[] else if n = 4 then .func (.func 188) #[] #[] else .nilFunc
def inF (n : Int) : Bool := if n = 1 then true else if n = 2 then true else if n = 3 then true else if n = 4 then true else false
theorem look_any (w : World) (n : Int) (ok : Bool) :
    (Instr.lookup 292 (.map (some w.heap.size)) (.int .i64 n) ok).run Tryz.prog (w.alloc (.map rowsEs 4)) = .ok (if ok then .tuple #[.agg #[.string (nameF n), .int .i64 (widthF n), fnF n], .bool (inF n)] else .agg #[.string (nameF n), .int .i64 (widthF n), fnF n]) (w.alloc (.map rowsEs 4)) := by
  by_cases h1 : n = 1
  · subst h1; exact rows_look w 1 row1 0 rfl ok
  by_cases h2 : n = 2
  · subst h2; exact rows_look w 2 row2 1 rfl ok
  by_cases h3 : n = 3
  · subst h3; exact rows_look w 3 row3 2 rfl ok
  by_cases h4 : n = 4
  · subst h4; exact rows_look w 4 row4 3 rfl ok
  · rw [rows_none w n (find_none n (by omega)) ok]
    simp only [nameF, widthF, fnF, inF, if_neg h1, if_neg h2, if_neg h3, if_neg h4]
    cases ok <;> rfl

theorem field_name (a b c : Value) (w : World) : (Instr.field 290 (.agg #[a, b, c]) 0).run Tryz.prog w = .ok a w := by kernel_rfl
theorem field_width (a b c : Value) (w : World) : (Instr.field 290 (.agg #[a, b, c]) 1).run Tryz.prog w = .ok b w := by kernel_rfl

def findF (s : ByteArray) : Int := if (nameF 1).toList == s.toList then 1 else if (nameF 2).toList == s.toList then 2 else if (nameF 3).toList == s.toList then 3 else if (nameF 4).toList == s.toList then 4 else 0
theorem findF_at (s : ByteArray) (k : Int) (h1 : 1 ≤ k) (h4 : k ≤ 4) (hk : ((nameF k).toList == s.toList) = true) (hp : ∀ j : Int, 1 ≤ j → j < k → ((nameF j).toList == s.toList) = false) : findF s = k := by
  unfold findF
  obtain rfl | rfl | rfl | rfl : k = 1 ∨ k = 2 ∨ k = 3 ∨ k = 4 := by omega
  · rw [if_pos hk]
  · rw [if_neg (by rw [hp 1 (by omega) (by omega)]; decide), if_pos hk]
  · rw [if_neg (by rw [hp 1 (by omega) (by omega)]; decide), if_neg (by rw [hp 2 (by omega) (by omega)]; decide), if_pos hk]
  · rw [if_neg (by rw [hp 1 (by omega) (by omega)]; decide), if_neg (by rw [hp 2 (by omega) (by omega)]; decide), if_neg (by rw [hp 3 (by omega) (by omega)]; decide), if_pos hk]
theorem findF_none (s : ByteArray) (hp : ∀ j : Int, 1 ≤ j → j < 5 → ((nameF j).toList == s.toList) = false) : findF s = 0 := by
  unfold findF
  rw [if_neg (by rw [hp 1 (by omega) (by omega)]; decide), if_neg (by rw [hp 2 (by omega) (by omega)]; decide), if_neg (by rw [hp 3 (by omega) (by omega)]; decide), if_neg (by rw [hp 4 (by omega) (by omega)]; decide)]

set_option maxRecDepth 100000 in
set_option maxHeartbeats 1600000 in
theorem find_any (s : ByteArray) (w : World) : Calls Tryz.prog 173 #[.string s] w fun e w' => e = .returned (.int .i64 (findF s)) ∧ Below w.heap.size w w' := by
  go_enter Tryz.func173, Tryz.ntmps173
  go_wp2
  go_loopw [3] (fun i wr => ∃ k : Int, 1 ≤ k ∧ k ≤ 5 ∧ i = .int .i64 k ∧ Below w.heap.size w wr ∧ Aside (∀ j : Int, 1 ≤ j → j < k → ((nameF j).toList == s.toList) = false)) (fun i _ => 6 - (intOf i).toNat)
  case atStart => exact ⟨1, by omega, by omega, rfl, Below.refl _ _, fun j h1 h2 => by omega⟩
  case round =>
    obtain ⟨k, hk1, hk5, rfl, hB, hp⟩ := hrel
    have hlen := run_len_map (P := Tryz.prog) (w := wr.alloc (.map rowsEs 4)) 292 3 wr.heap.size rowsEs 4 Tryz.underlying292 (heap_alloc_new _ _)
    have hsz : (rowsEs.size : Int) = 4 := rfl
    rw [hsz] at hlen
    have hB1 : Below w.heap.size w (wr.alloc (.map rowsEs 4)) := hB.alloc hB.size _
    have hs1 := hB1.size
    have hB2 : Below w.heap.size w ((wr.alloc (.map rowsEs 4)).alloc (.map rowsEs 4)) := hB1.alloc hs1 _
    have hla := look_any (wr.alloc (.map rowsEs 4)) k false
    simp only [World.size_alloc] at hla
    have hfn := field_name
    by_cases h4 : k ≤ 4
    · go_wp2_with fail
      refine (rows_any _).mono ?_
      rintro e w' ⟨rfl, rfl⟩
      go_wp2_with fail
      refine (rows_any _).mono ?_
      rintro e w' ⟨rfl, rfl⟩
      cases hq : ((nameF k).toList == s.toList) with
      | true =>
        have hF : Aside (findF s = k) := findF_at s k hk1 h4 hq hp.out
        go_wp2
        go_ret
        exact ⟨by rw [hF.out]; rfl, hB2⟩
      | false =>
        go_wp2
        go_roundw
        case rel =>
          exact ⟨k + 1, by omega, by omega, by go_num, hB2, fun j h1 h2 => by
            by_cases he : j = k
            · subst he; exact hq
            · exact hp.out j h1 (by omega)⟩
        case measure => simp [intOf]; omega
    · obtain rfl : k = 5 := by omega
      have hF : Aside (findF s = 0) := findF_none s hp.out
      go_wp2_with fail
      refine (rows_any _).mono ?_
      rintro e w' ⟨rfl, rfl⟩
      go_wp2
      go_ret
      exact ⟨by rw [hF.out]; rfl, hB1⟩
end Go.Proofs.YtdgilloblfbklaaGreatDoor
