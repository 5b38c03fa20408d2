/-
  The plain law: of bytes of which one is another one, the records ahead are read; and where records begin.
-/
import Derived.Test.YtkngnoimjpeolaaMathSpoils
import Derived.Test.YtkngnoimjpeolaaJBack
set_option linter.unusedVariables false
set_option linter.unusedSimpArgs false
namespace Go.Proofs.Ytkngnoimjpeolaa
open Go.RowKit SumsMath

theorem X_ne (a ch : Int) (ha : 0 ≤ a ∧ a ≤ 255) (hch : 1 ≤ ch ∧ ch ≤ 255) : X a ch ≠ a := by
  intro h
  have h1 := ofInt_X a ch ha ⟨by omega, hch.2⟩
  rw [h] at h1
  have h2 : BitVec.ofInt 32 ch = 0#32 := by
    have h4 : BitVec.ofInt 32 a ^^^ BitVec.ofInt 32 a = BitVec.ofInt 32 a ^^^ (BitVec.ofInt 32 a ^^^ BitVec.ofInt 32 ch) := by rw [← h1]
    rw [BitVec.xor_self, ← BitVec.xor_assoc, BitVec.xor_self, BitVec.zero_xor] at h4
    exact h4.symm
  have h3 := B32_ofInt ch ⟨by omega, by omega⟩
  rw [h2] at h3
  have h5 : B32 0#32 = 0 := rfl
  omega
theorem bit_some (ch : Int) (h : 1 ≤ ch ∧ ch ≤ 255) : ∃ i, i < 8 ∧ bitOf ch i = true := by
  obtain ⟨n, rfl⟩ := Int.eq_ofNat_of_zero_le (show 0 ≤ ch by omega)
  have key : (List.range 256).all (fun n => n == 0 || (List.range 8).any fun i => bitOf (n : Int) i) = true := by decide +kernel
  have h1 := List.all_eq_true.1 key n (List.mem_range.2 (by omega))
  rw [Bool.or_eq_true] at h1
  rcases h1 with h1 | h1
  · have := eq_of_beq h1; omega
  · obtain ⟨i, hi, hb⟩ := List.any_eq_true.1 h1
    exact ⟨i, List.mem_range.1 hi, hb⟩
theorem changed_one (x : List Int) (hb : Bytes x) (i : Nat) (hi : i < x.length) (ch : Int) (hch : 1 ≤ ch ∧ ch ≤ 255) : Changed x (x.set i (X (x.getD i 0) ch)) ch (8 * i) 8 := by
  refine ⟨fun j => ?_, by rw [List.length_set], fun j t hj ht => ?_⟩
  · rw [getD_set _ _ _ _ hi]
    split
    · exact X_8 _ _ (hb i) ⟨by omega, hch.2⟩
    · exact hb j
  · rw [getD_set _ _ _ _ hi]
    unfold flip
    split
    · rename_i e
      subst e
      rw [bitOf_X _ _ (hb i) ⟨by omega, hch.2⟩, show 8 * i + t - 8 * i = t by omega, decide_eq_true (show 8 * i ≤ 8 * i + t by omega), decide_eq_true (show 8 * i + t < 8 * i + 8 by omega)]
      simp
    · rename_i e
      by_cases h1 : 8 * i ≤ 8 * j + t
      · rw [decide_eq_false (show ¬ 8 * j + t < 8 * i + 8 by omega)]; simp
      · rw [decide_eq_false h1]; simp
theorem sum_one (x : List Int) (hb : Bytes x) (i : Nat) (hi : i < x.length) (ch : Int) (hch : 1 ≤ ch ∧ ch ≤ 255) : sumF 2 (x.set i (X (x.getD i 0) ch)) ≠ sumF 2 x := by
  obtain ⟨k, hk, hkb⟩ := bit_some ch hch
  exact spoils2 x _ hb ch (8 * i) 8 (by omega) (changed_one x hb i hi ch hch) ⟨k, hk, by omega, hkb⟩
/-- A frame of which a byte is another one is none. -/
theorem step_spoil (x rest : List Int) (a : Nat) (ch : Int) (hg : JMath.good (sumF 2) x) (hb : Bytes x) (ha : a < 4 + x.length) (hch : 1 ≤ ch ∧ ch ≤ 255) :
    JMath.stepF (sumF 2) ((frm x).set (4 + a) (X ((frm x).getD (4 + a) 0) ch) ++ rest) = none := by
  have hn : JMath.num4 (JMath.le4 (x.length : Int) ++ []) = (x.length : Int) := JMath.num4_le4 _ (by omega) (by have := hg.2.1; omega) _
  have hs := hg.2.2
  unfold JMath.stepF
  rw [if_neg]
  rintro ⟨_, _, _, _, h⟩
  have hfr : frm x = JMath.le4 (x.length : Int) ++ (JMath.le4 (sumF 2 x) ++ x) := rfl
  generalize hS : sumF 2 x = s at *
  have key : ∀ (l4 y : List Int), l4.length = 4 → y.length = x.length → (frm x).set (4 + a) (X ((frm x).getD (4 + a) 0) ch) = JMath.le4 (x.length : Int) ++ (l4 ++ y) → sumF 2 y = JMath.num4 (l4 ++ []) := by
    intro l4 y h4 hy e
    rw [e] at h
    match l4, h4 with
    | [p, q, r, t], _ =>
      have e1 : JMath.num4 (JMath.le4 (x.length : Int) ++ ([p, q, r, t] ++ y) ++ rest) = (x.length : Int) := by rw [List.append_assoc]; exact JMath.num4_le4 _ (by omega) (by have := hg.2.1; omega) _
      rw [e1] at h
      simp only [JMath.le4, JMath.num4, List.cons_append, List.nil_append, List.drop_succ_cons, List.drop_zero, List.getD_cons_zero, List.getD_cons_succ, Int.toNat_natCast] at h ⊢
      rw [← hy, List.take_left] at h
      exact h
  by_cases ha4 : a < 4
  · have hfin : ∀ v : Int, v ≠ (JMath.le4 s).getD a 0 → JMath.num4 ((JMath.le4 s).set a v ++ []) ≠ s := by
      intro v hv
      obtain rfl | rfl | rfl | rfl : a = 0 ∨ a = 1 ∨ a = 2 ∨ a = 3 := by omega
      all_goals
        simp only [JMath.le4, JMath.num4, List.set_cons_zero, List.set_cons_succ, List.cons_append, List.nil_append, List.getD_cons_zero, List.getD_cons_succ] at hv ⊢
        omega
    have hget : (frm x).getD (4 + a) 0 = (JMath.le4 s).getD a 0 := by
      rw [hfr]
      obtain rfl | rfl | rfl | rfl : a = 0 ∨ a = 1 ∨ a = 2 ∨ a = 3 := by omega
      all_goals rfl
    have hby : 0 ≤ (JMath.le4 s).getD a 0 ∧ (JMath.le4 s).getD a 0 ≤ 255 := by
      obtain rfl | rfl | rfl | rfl : a = 0 ∨ a = 1 ∨ a = 2 ∨ a = 3 := by omega
      all_goals
        simp only [JMath.le4, List.getD_cons_zero, List.getD_cons_succ]
        omega
    have h1 := key ((JMath.le4 s).set a (X ((JMath.le4 s).getD a 0) ch)) x (by rw [List.length_set]; rfl) rfl (by
      rw [hget, hfr]
      obtain rfl | rfl | rfl | rfl : a = 0 ∨ a = 1 ∨ a = 2 ∨ a = 3 := by omega
      all_goals rfl)
    rw [hS] at h1
    exact hfin _ (X_ne _ ch hby hch) h1.symm
  · obtain ⟨i, rfl⟩ : ∃ i, a = 4 + i := ⟨a - 4, by omega⟩
    have hget : (frm x).getD (4 + (4 + i)) 0 = x.getD i 0 := by
      rw [hfr, show 4 + (4 + i) = i + 8 by omega]
      rfl
    have h1 := key (JMath.le4 s) (x.set i (X (x.getD i 0) ch)) rfl (by rw [List.length_set]) (by
      rw [hget, hfr, show 4 + (4 + i) = i + 8 by omega]
      rfl)
    rw [JMath.num4_le4 s hs.1 hs.2, ← hS] at h1
    exact sum_one x hb i (by omega) ch hch h1
theorem split_at (l : List (List Int)) (k : Nat) (hk : k < l.length) : JMath.flat (sumF 2) l = JMath.flat (sumF 2) (l.take k) ++ (frm (l.getD k []) ++ JMath.flat (sumF 2) (l.drop (k + 1))) := by
  conv => lhs; rw [← List.take_append_drop k l, List.drop_eq_getElem_cons hk]
  rw [JMath.flat_append, JMath.flat_cons, List.getD_eq_getElem?_getD, List.getElem?_eq_getElem hk]
  rfl
/-- What is read of bytes of which one is another one. -/
theorem recs_spoil (l : List (List Int)) (k : Nat) (hk : k < l.length) (a : Nat) (ch : Int) (ha : a < 4 + (l.getD k []).length) (hch : 1 ≤ ch ∧ ch ≤ 255) (hg : ∀ x ∈ l, JMath.good (sumF 2) x) (hb : ∀ x ∈ l, Bytes x) :
    JMath.recsF (sumF 2) ((JMath.flat (sumF 2) l).set (JMath.total (l.take k) + (4 + a)) (X ((JMath.flat (sumF 2) l).getD (JMath.total (l.take k) + (4 + a)) 0) ch)) = l.take k := by
  have hmem : l.getD k [] ∈ l := by rw [List.getD_eq_getElem?_getD, List.getElem?_eq_getElem hk]; exact List.getElem_mem hk
  have hfl : (JMath.flat (sumF 2) (l.take k)).length = JMath.total (l.take k) := JMath.flat_length (sumF 2) _
  have hfx : (frm (l.getD k [])).length = 8 + (l.getD k []).length := JMath.frame_length (sumF 2) _
  have hget : (JMath.flat (sumF 2) l).getD (JMath.total (l.take k) + (4 + a)) 0 = (frm (l.getD k [])).getD (4 + a) 0 := by
    rw [split_at l k hk, List.getD_eq_getElem?_getD, List.getElem?_append_right (by omega), hfl, Nat.add_sub_cancel_left, List.getElem?_append_left (by omega), ← List.getD_eq_getElem?_getD]
  have hset : (JMath.flat (sumF 2) l).set (JMath.total (l.take k) + (4 + a)) (X ((JMath.flat (sumF 2) l).getD (JMath.total (l.take k) + (4 + a)) 0) ch) = JMath.flat (sumF 2) (l.take k) ++ ((frm (l.getD k [])).set (4 + a) (X ((frm (l.getD k [])).getD (4 + a) 0) ch) ++ JMath.flat (sumF 2) (l.drop (k + 1))) := by
    rw [hget]
    conv => lhs; rw [split_at l k hk]
    rw [List.set_append_right _ _ (by omega), hfl, Nat.add_sub_cancel_left, List.set_append_left _ _ (by omega)]
  rw [hset]
  exact JMath.recsF_flat (sumF 2) (l.take k) _ (step_spoil _ _ a ch (hg _ hmem) (hb _ hmem) ha hch) (fun x hx => hg x (List.mem_of_mem_take hx))
def begsOf (l : List (List Int)) : List Int := (List.range l.length).map fun i => (JMath.total (l.take i) : Int)
theorem begsOf_length (l : List (List Int)) : (begsOf l).length = l.length := by simp [begsOf]
theorem begsOf_get (l : List (List Int)) (i : Nat) (h : i < l.length) : (begsOf l).getD i 0 = (JMath.total (l.take i) : Int) := by
  simp [begsOf, List.getD_eq_getElem?_getD, h]
theorem begsOf_push (l : List (List Int)) (x : List Int) : begsOf (l ++ [x]) = begsOf l ++ [(JMath.total l : Int)] := by
  unfold begsOf
  rw [List.length_append, List.length_singleton, List.range_succ, List.map_append]
  congr 1
  · apply List.map_congr_left
    intro i hi
    rw [List.mem_range] at hi
    rw [List.take_append_of_le_length (by omega)]
  · simp only [List.map_cons, List.map_nil]
    rw [List.take_left]
theorem total_at (l : List (List Int)) (k : Nat) (hk : k < l.length) : JMath.total (l.take k) + (8 + (l.getD k []).length) ≤ JMath.total l := by
  have h := split_at l k hk
  have h2 := congrArg List.length h
  rw [List.length_append, List.length_append, JMath.flat_length, JMath.flat_length] at h2
  have hfx : (frm (l.getD k [])).length = 8 + (l.getD k []).length := JMath.frame_length (sumF 2) _
  omega
theorem BK.put {w W : World} {vw ve : Value} {g n c p : Nat} {y : Int} {bs es : List Int} {l : List (List Int)} (h : BK w W (.slice (some ⟨g, 0, none⟩) n c) vw ve bs l es) (hn : bs.length = n) : BK w (W.setCell ⟨g, p, none⟩ (.int .u8 y)) (.slice (some ⟨g, 0, none⟩) n c) vw ve (bs.set p y) l es := by
  have hb := h.b
  rw [hn] at hb
  obtain ⟨vs, hw1, hw2⟩ := h.wn
  refine ⟨by rw [List.length_set, hn]; exact own_put hb p y, ⟨vs, own_map hw1 (fun q cs t _ hq hh => (Below.heap_setCell W _ _ q (fun e => h.bw q hq (by rw [e]; rfl))).trans hh), hw2⟩, own_map h.e (fun q cs t _ hq hh => (Below.heap_setCell W _ _ q (fun e => h.eb q hq (by rw [e]; rfl))).trans hh), h.bw, h.eb, h.ew, h.below.setCell (p := ⟨g, p, none⟩) (own_lt hb rfl).1 _⟩
theorem BK.drew {w W : World} {vb vw ve : Value} {bs es : List Int} {l : List (List Int)} (h : BK w W vb vw ve bs l es) : BK w W.drew vb vw ve bs l es := h.later (Below.refl _ _).drew
/-- A block that was made behind the rows, when one of them grew. -/
theorem BK.fresh {w W W' : World} {vb vw ve : Value} {bs es : List Int} {l : List (List Int)} {v : Value} {q : Nat} {o : Obj} (h : BK w W vb vw ve bs l es) (hv : v = vb ∨ v = ve) (hq : W.heap.size ≤ q) {V : World} (hlt : q < V.heap.size) (hg : V.grownBy W' v.ownBlock) (hh : V.heap[q]? = some o) : W'.heap[q]? = some o := by
  refine (hg.block q hlt (fun e => ?_)).trans hh
  rcases hv with rfl | rfl
  · have := (own_lt h.b e.symm).2; omega
  · have := (own_lt h.e e.symm).2; omega
end Go.Proofs.Ytkngnoimjpeolaa
