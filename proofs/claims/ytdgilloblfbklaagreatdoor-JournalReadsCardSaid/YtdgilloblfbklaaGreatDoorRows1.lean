/-
  The table of package sums.
-/
import Derived.Test.YtdgilloblfbklaaGreatDoorProg
import Derived.Test.YtdgilloblfbklaaGreatDoorLib
import Derived.WalkSpells
import Derived.WideMake
set_option linter.unusedVariables false
set_option linter.unusedSimpArgs false
namespace Go.Proofs.YtdgilloblfbklaaGreatDoor
open Go.RowKit

/-- A store of a new key into a map that was made last. -/
theorem run_insert_last {P : Program} (w : World) (mty kt et : TypeId) (es : Array MapEntry) (clock : Nat) (n : Int) (val : Value) (hm : P.underlying mty = some (.map kt et)) (hk : P.underlying kt = some (.int .i64))
    (hf : Instr.findNow (.int .i64) (.int .i64 n) es.toList 0 = some none) :
    (Instr.mapUpdate mty (.map (some w.heap.size)) (.int .i64 n) val).run P (w.alloc (.map es clock)) = .ok () (w.alloc (.map (es.push { key := .int .i64 n, val := val, born := clock }) (clock + 1))) := by
  have hc : (Instr.checkKey false 10000 kt (.int .i64 n)).run P (w.alloc (.map es clock)) = .ok () (w.alloc (.map es clock)) := MapKept.run_checkKey (k := .int .i64 n) hk (by simp [MapKept.IsKey]) false 9999
  have hb : (w.alloc (.map es clock)).heap[w.heap.size]? = some (.map es clock) := heap_alloc_new w _
  have he : ∀ o : Obj, ({ (w.alloc (.map es clock)) with heap := (w.alloc (.map es clock)).heap.setIfInBounds w.heap.size o } : World) = w.alloc o := by
    intro o
    have : (w.heap.push (.map es clock)).setIfInBounds w.heap.size o = w.heap.push o := by
      apply Array.ext_getElem?
      intro i
      rw [Array.getElem?_setIfInBounds, Array.getElem?_push, Array.getElem?_push]
      by_cases h : i = w.heap.size
      · subst h; simp
      · rw [if_neg (Ne.symm h), if_neg h, if_neg h]
    show ({ w with heap := (w.heap.push (.map es clock)).setIfInBounds w.heap.size o } : World) = { w with heap := w.heap.push o }
    rw [this]
  simp [Instr.mapUpdate, run_underlying hm, MapKept.run_getObj_map hb, hc, MapKept.run_findKey hk hf, MapKept.run_setObj_map _ hb, Result.andThen]
  exact he _

def crc16 : ByteArray := ⟨#[99, 114, 99, 49, 54]⟩
def crc32 : ByteArray := ⟨#[99, 114, 99, 51, 50]⟩
def csum16 : ByteArray := ⟨#[99, 115, 117, 109, 49, 54]⟩
def xor16 : ByteArray := ⟨#[120, 111, 114, 49, 54]⟩
def row1 : Value := .agg #[.string { data := #[99, 114, 99, 49, 54] }, .int .i64 16, .func (.func 182) #[] #[]]
def row2 : Value := .agg #[.string { data := #[99, 114, 99, 51, 50] }, .int .i64 32, .func (.func 184) #[] #[]]
def row3 : Value := .agg #[.string { data := #[99, 115, 117, 109, 49, 54] }, .int .i64 16, .func (.func 185) #[] #[]]
def row4 : Value := .agg #[.string { data := #[120, 111, 114, 49, 54] }, .int .i64 16, .func (.func 188) #[] #[]]
def rowsEs : Array MapEntry := #[⟨.int .i64 1, row1, 0⟩, ⟨.int .i64 2, row2, 1⟩, ⟨.int .i64 3, row3, 2⟩, ⟨.int .i64 4, row4, 3⟩]

theorem rows_any (w : World) : Calls Tryz.prog 179 #[] w fun e w' => e = .returned (.map (some w.heap.size)) ∧ w' = w.alloc (.map rowsEs 4) := by
  have hmm := @run_makeMap Tryz.prog
  have i1 := run_insert_last (P := Tryz.prog) w 292 3 290 #[] 0 1 row1 Tryz.underlying292 Tryz.underlying3 rfl
  have i2 := run_insert_last (P := Tryz.prog) w 292 3 290 #[⟨.int .i64 1, row1, 0⟩] 1 2 row2 Tryz.underlying292 Tryz.underlying3 rfl
  have i3 := run_insert_last (P := Tryz.prog) w 292 3 290 #[⟨.int .i64 1, row1, 0⟩, ⟨.int .i64 2, row2, 1⟩] 2 3 row3 Tryz.underlying292 Tryz.underlying3 rfl
  have i4 := run_insert_last (P := Tryz.prog) w 292 3 290 #[⟨.int .i64 1, row1, 0⟩, ⟨.int .i64 2, row2, 1⟩, ⟨.int .i64 3, row3, 2⟩] 3 4 row4 Tryz.underlying292 Tryz.underlying3 rfl
  simp only [row1, row2, row3, row4, List.push_toArray, List.nil_append, List.cons_append, Nat.zero_add, Nat.reduceAdd] at i1 i2 i3 i4
  go_enter Tryz.func179, Tryz.ntmps179
  go_wp2
  go_ret
  exact ⟨rfl, rfl⟩

/-- A look-up in the table. -/
theorem rows_look (w : World) (n : Int) (v : Value) (i : Nat) (h : Instr.findNow (.int .i64) (.int .i64 n) rowsEs.toList 0 = some (some (i, v))) (ok : Bool) :
    (Instr.lookup 292 (.map (some w.heap.size)) (.int .i64 n) ok).run Tryz.prog (w.alloc (.map rowsEs 4)) = .ok (if ok then .tuple #[v, .bool true] else v) (w.alloc (.map rowsEs 4)) := by
  have hc : (Instr.checkKey false 10000 3 (.int .i64 n)).run Tryz.prog (w.alloc (.map rowsEs 4)) = .ok () (w.alloc (.map rowsEs 4)) := MapKept.run_checkKey (k := .int .i64 n) Tryz.underlying3 (by simp [MapKept.IsKey]) false 9999
  have hb : (w.alloc (.map rowsEs 4)).heap[w.heap.size]? = some (.map rowsEs 4) := heap_alloc_new w _
  have he : rowsEs.isEmpty = false := rfl
  simp [Instr.lookup, run_underlying Tryz.underlying292, MapKept.run_getObj_map hb, hc, he, MapKept.run_findKey Tryz.underlying3 h, Result.andThen]
def row0 : Value := .agg #[.string { data := #[] }, .int .i64 0, .nilFunc]
theorem rows_none (w : World) (n : Int) (h : Instr.findNow (.int .i64) (.int .i64 n) rowsEs.toList 0 = some none) (ok : Bool) :
    (Instr.lookup 292 (.map (some w.heap.size)) (.int .i64 n) ok).run Tryz.prog (w.alloc (.map rowsEs 4)) = .ok (if ok then .tuple #[row0, .bool false] else row0) (w.alloc (.map rowsEs 4)) := by
  have hc : (Instr.checkKey false 10000 3 (.int .i64 n)).run Tryz.prog (w.alloc (.map rowsEs 4)) = .ok () (w.alloc (.map rowsEs 4)) := MapKept.run_checkKey (k := .int .i64 n) Tryz.underlying3 (by simp [MapKept.IsKey]) false 9999
  have hb : (w.alloc (.map rowsEs 4)).heap[w.heap.size]? = some (.map rowsEs 4) := heap_alloc_new w _
  have he : rowsEs.isEmpty = false := rfl
  have hz : ∀ W : World, (zeroValue 290).run Tryz.prog W = .ok row0 W := fun _ => by kernel_rfl
  simp [Instr.lookup, run_underlying Tryz.underlying292, MapKept.run_getObj_map hb, hc, he, MapKept.run_findKey Tryz.underlying3 h, Result.andThen, hz]
theorem find_none (n : Int) (h : n < 1 ∨ 4 < n) : Instr.findNow (.int .i64) (.int .i64 n) rowsEs.toList 0 = some none := by
  have h1 : (n == 1) = false := by simp; omega
  have h2 : (n == 2) = false := by simp; omega
  have h3 : (n == 3) = false := by simp; omega
  have h4 : (n == 4) = false := by simp; omega
  simp [rowsEs, Instr.findNow, Instr.sameNow, h1, h2, h3, h4]
end Go.Proofs.YtdgilloblfbklaaGreatDoor
