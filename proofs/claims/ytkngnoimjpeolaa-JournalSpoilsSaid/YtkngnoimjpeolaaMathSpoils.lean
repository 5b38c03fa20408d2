/-
  The plain law: a change of bytes within so many neighbouring bits changes their CRC.
-/
import Derived.Test.YtkngnoimjpeolaaMathJoins
set_option linter.unusedVariables false
set_option linter.unusedSimpArgs false
namespace Go.Proofs.Ytkngnoimjpeolaa
open Go.RowKit SumsMath

/-- The t-th bit of a byte. -/
def bitOf (x : Int) (t : Nat) : Bool := (BitVec.ofInt 32 x).getLsbD t
/-- Is bit q of all bits changed, i bits of the change being done? -/
def flip (ch : Int) (from_ i q : Nat) : Bool := decide (from_ ≤ q) && decide (q < from_ + i) && bitOf ch (q - from_)
def Changed (zs cs : List Int) (ch : Int) (from_ i : Nat) : Prop := Bytes cs ∧ cs.length = zs.length ∧ ∀ j t, j < zs.length → t < 8 → bitOf (cs.getD j 0) t = (bitOf (zs.getD j 0) t ^^ flip ch from_ i (8 * j + t))
theorem flip_0 (ch : Int) (from_ q : Nat) : flip ch from_ 0 q = false := by
  unfold flip
  by_cases h : from_ ≤ q
  · rw [decide_eq_false (show ¬ q < from_ + 0 by omega)]; simp
  · simp [h]
theorem Changed.start (zs : List Int) (hx : Bytes zs) (ch : Int) (from_ : Nat) : Changed zs zs ch from_ 0 := ⟨hx, rfl, fun j t hj ht => by
  rw [flip_0]; simp⟩
theorem flip_succ (ch : Int) (from_ i q : Nat) : flip ch from_ (i + 1) q = (flip ch from_ i q ^^ (decide (q = from_ + i) && bitOf ch i)) := by
  unfold flip
  by_cases h : q = from_ + i
  · subst h
    simp
  · by_cases h1 : from_ ≤ q
    · by_cases h2 : q < from_ + i
      · have h3 : q < from_ + (i + 1) := by omega
        simp [h1, h2, h3, h]
      · have h3 : ¬ q < from_ + (i + 1) := by omega
        simp [h1, h2, h3, h]
    · simp [h1, h]
theorem Changed.skip {zs cs : List Int} {ch : Int} {from_ i : Nat} (h : Changed zs cs ch from_ i) (hb : bitOf ch i = false) : Changed zs cs ch from_ (i + 1) := ⟨h.1, h.2.1, fun j t hj ht => by
  rw [h.2.2 j t hj ht, flip_succ, hb]; simp⟩
theorem pow_byte (s : Nat) (hs : s < 8) : 0 ≤ (2 : Int) ^ s ∧ (2 : Int) ^ s ≤ 255 := by
  obtain rfl | rfl | rfl | rfl | rfl | rfl | rfl | rfl : s = 0 ∨ s = 1 ∨ s = 2 ∨ s = 3 ∨ s = 4 ∨ s = 5 ∨ s = 6 ∨ s = 7 := by omega
  all_goals decide
theorem bitOf_pow (s t : Nat) (hs : s < 8) (ht : t < 8) : bitOf ((2 : Int) ^ s) t = decide (s = t) := by
  unfold bitOf
  have e : (2 : Int) ^ s = ((2 ^ s : Nat) : Int) := by simp
  rw [e, BitVec.ofInt_natCast, BitVec.getLsbD_ofNat, Nat.testBit_two_pow]
  simp
  omega
theorem bitOf_X (a b : Int) (ha : 0 ≤ a ∧ a ≤ 255) (hb : 0 ≤ b ∧ b ≤ 255) (t : Nat) : bitOf (X a b) t = (bitOf a t ^^ bitOf b t) := by
  unfold bitOf
  rw [ofInt_X a b ha hb, BitVec.getLsbD_xor]
theorem Changed.step {zs cs : List Int} {ch : Int} {from_ i : Nat} (h : Changed zs cs ch from_ i) (hb : bitOf ch i = true) (hk : from_ + i < 8 * zs.length) : Changed zs (cs.set ((from_ + i) / 8) (X (cs.getD ((from_ + i) / 8) 0) (2 ^ ((from_ + i) % 8)))) ch from_ (i + 1) := by
  have hj8 : (from_ + i) / 8 < cs.length := by rw [h.2.1]; omega
  have hp := pow_byte ((from_ + i) % 8) (by omega)
  have hc := h.1 ((from_ + i) / 8)
  refine ⟨fun j => ?_, by rw [List.length_set]; exact h.2.1, fun j t hj ht => ?_⟩
  · rw [getD_set _ _ _ _ hj8]
    split
    · exact X_8 _ _ hc hp
    · exact h.1 j
  · rw [getD_set _ _ _ _ hj8, flip_succ, hb]
    split
    · rename_i e
      subst e
      rw [bitOf_X _ _ hc hp, bitOf_pow _ t (by omega) ht, h.2.2 _ t (by omega) ht]
      have e2 : decide ((from_ + i) % 8 = t) = decide (8 * ((from_ + i) / 8) + t = from_ + i) := by
        by_cases h1 : (from_ + i) % 8 = t
        · rw [decide_eq_true h1, decide_eq_true (by omega)]
        · rw [decide_eq_false h1, decide_eq_false (by omega)]
      rw [e2]
      simp [Bool.xor_assoc]
    · rename_i e
      rw [h.2.2 j t hj ht, decide_eq_false (by omega)]
      simp
theorem bits_getD (l : List (BitVec 32)) : ∀ q, (l.flatMap bits8).getD q false = if q < 8 * l.length then (l.getD (q / 8) 0#32).getLsbD (q % 8) else false := by
  induction l with
  | nil => intro q; simp
  | cons x l ih =>
    intro q
    have h8 : (bits8 x).length = 8 := rfl
    rw [List.flatMap_cons, List.getD_eq_getElem?_getD]
    by_cases hq : q < 8
    · rw [List.getElem?_append_left (by rw [h8]; exact hq), if_pos (by simp; omega)]
      obtain rfl | rfl | rfl | rfl | rfl | rfl | rfl | rfl : q = 0 ∨ q = 1 ∨ q = 2 ∨ q = 3 ∨ q = 4 ∨ q = 5 ∨ q = 6 ∨ q = 7 := by omega
      all_goals rfl
    · rw [List.getElem?_append_right (by rw [h8]; omega), h8, ← List.getD_eq_getElem?_getD, ih (q - 8)]
      have e1 : q / 8 = (q - 8) / 8 + 1 := by omega
      have e2 : q % 8 = (q - 8) % 8 := by omega
      by_cases h1 : q - 8 < 8 * l.length
      · rw [if_pos h1, if_pos (by simp; omega), e1, e2, List.getD_cons_succ]
      · rw [if_neg h1, if_neg (by simp; omega)]
theorem flat_length (l : List (BitVec 32)) : (l.flatMap bits8).length = 8 * l.length := by
  induction l with
  | nil => rfl
  | cons x l ih => rw [List.flatMap_cons, List.length_append, ih, List.length_cons]; show 8 + _ = _; omega

/-- What was changed by something has another remainder. -/
theorem burst (p : BitVec 32) (wd : Nat) (hw : 0 < wd) (hw2 : wd ≤ 32) (hp : p.getLsbD (wd - 1) = true) (hp2 : ∀ i, wd ≤ i → p.getLsbD i = false)
    (c0 : BitVec 32) (zs cs : List Int) (hx : Bytes zs) (ch : Int) (from_ m : Nat) (hm : m ≤ wd) (h : Changed zs cs ch from_ m) (hone : ∃ i, i < m ∧ from_ + i < 8 * zs.length ∧ bitOf ch i = true) : crc p c0 (bvs cs) ≠ crc p c0 (bvs zs) := by
  intro heq
  have hz := crc_zip p c0 c0 cs zs h.2.1 h.1 hx
  rw [heq, BitVec.xor_self, BitVec.xor_self] at hz
  have hdb : Bytes (zipX cs zs) := zipX_bytes _ _ h.2.1 h.1 hx
  rw [crc_bits p _ _ (bvs_byte _ hdb)] at hz
  have hdl : (zipX cs zs).length = zs.length := by rw [zipX_length _ _ h.2.1, h.2.1]
  have hbl : (bvs (zipX cs zs)).length = zs.length := by simp [bvs, hdl]
  have hbit : ∀ q, ((bvs (zipX cs zs)).flatMap bits8).getD q false = if q < 8 * zs.length then flip ch from_ m q else false := by
    intro q
    rw [bits_getD, hbl]
    split
    · rename_i hq
      have e : (bvs (zipX cs zs)).getD (q / 8) 0#32 = BitVec.ofInt 32 ((zipX cs zs).getD (q / 8) 0) := by
        unfold bvs
        rw [List.getD_eq_getElem?_getD, List.getD_eq_getElem?_getD, List.getElem?_map, List.getElem?_eq_getElem (by rw [hdl]; omega)]
        rfl
      rw [e, zipX_getD _ _ h.2.1]
      show bitOf (X (cs.getD (q / 8) 0) (zs.getD (q / 8) 0)) (q % 8) = _
      rw [bitOf_X _ _ (h.1 _) (hx _), h.2.2 (q / 8) (q % 8) (by omega) (by omega), show 8 * (q / 8) + q % 8 = q by omega]
      cases bitOf (zs.getD (q / 8) 0) (q % 8) <;> cases flip ch from_ m q <;> rfl
    · rfl
  generalize hL : (bvs (zipX cs zs)).flatMap bits8 = L at *
  have hLl : L.length = 8 * zs.length := by rw [← hL, flat_length, hbl]
  have hsplit : L = L.take from_ ++ (L.drop from_).take m ++ (L.drop from_).drop m := by
    rw [List.append_assoc, List.take_append_drop, List.take_append_drop]
  rw [hsplit] at hz
  have hfa : ∀ q, (∀ b, b = L.getD q false → (q < from_ ∨ from_ + m ≤ q) → b = false) := by
    intro q b hb hq
    rw [hb, hbit]
    split
    · unfold flip
      rcases hq with hq | hq
      · simp [show ¬ from_ ≤ q by omega]
      · simp [show ¬ q < from_ + m by omega]
    · rfl
  have hm2 := feed_burst p wd hw hw2 hp hp2 (L.take from_) ((L.drop from_).take m) ((L.drop from_).drop m)
    (by
      intro x hxm
      obtain ⟨q, hq, rfl⟩ := List.mem_iff_getElem.1 hxm
      have hq' : q < from_ ∧ q < L.length := by rw [List.length_take] at hq; omega
      exact hfa q _ (by rw [List.getElem_take, List.getD_eq_getElem?_getD, List.getElem?_eq_getElem hq'.2]; rfl) (.inl hq'.1))
    (by
      intro x hxm
      rw [List.drop_drop] at hxm
      obtain ⟨q, hq, rfl⟩ := List.mem_iff_getElem.1 hxm
      have hq' : from_ + m + q < L.length := by simp at hq; omega
      exact hfa (from_ + m + q) _ (by rw [List.getElem_drop, List.getD_eq_getElem?_getD, List.getElem?_eq_getElem hq']; rfl) (.inr (by omega)))
    (by simp; omega) hz
  obtain ⟨i, hi, hin, hb⟩ := hone
  have hmem : L.getD (from_ + i) false ∈ (L.drop from_).take m := by
    have hlt : i < ((L.drop from_).take m).length := by simp; omega
    have : ((L.drop from_).take m)[i] = L.getD (from_ + i) false := by
      rw [List.getElem_take, List.getElem_drop, List.getD_eq_getElem?_getD, List.getElem?_eq_getElem (by omega)]; rfl
    rw [← this]
    exact List.getElem_mem hlt
  have h0 := hm2 _ hmem
  rw [hbit, if_pos hin] at h0
  unfold flip at h0
  rw [show from_ + i - from_ = i by omega, hb] at h0
  simp at h0
  omega
theorem spoils1 (zs cs : List Int) (hx : Bytes zs) (ch : Int) (from_ m : Nat) (hm : m ≤ 16) (h : Changed zs cs ch from_ m) (hone : ∃ i, i < m ∧ from_ + i < 8 * zs.length ∧ bitOf ch i = true) : sumF 1 cs ≠ sumF 1 zs := by
  intro he
  have he' : B32 (crc poly1 0#32 (bvs cs)) = B32 (crc poly1 0#32 (bvs zs)) := he
  exact burst poly1 16 (by omega) (by omega) (by decide) poly1_small 0#32 zs cs hx ch from_ m hm h hone (B32_inj he')
theorem spoils2 (zs cs : List Int) (hx : Bytes zs) (ch : Int) (from_ m : Nat) (hm : m ≤ 32) (h : Changed zs cs ch from_ m) (hone : ∃ i, i < m ∧ from_ + i < 8 * zs.length ∧ bitOf ch i = true) : sumF 2 cs ≠ sumF 2 zs := by
  intro he
  have he' : 4294967295 - B32 (crc poly2 (BitVec.allOnes 32) (bvs cs)) = 4294967295 - B32 (crc poly2 (BitVec.allOnes 32) (bvs zs)) := he
  exact burst poly2 32 (by omega) (by omega) (by decide) (fun i hi => BitVec.getLsbD_of_ge _ _ hi) (BitVec.allOnes 32) zs cs hx ch from_ m hm h hone (B32_inj (by omega))
end Go.Proofs.Ytkngnoimjpeolaa
