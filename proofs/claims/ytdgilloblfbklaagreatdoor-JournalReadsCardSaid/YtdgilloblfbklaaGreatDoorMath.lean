/-
  Sums of bits: the plain mathematics.
-/
set_option linter.unusedVariables false
namespace Go.Proofs.YtdgilloblfbklaaGreatDoor.SumsMath

theorem bv_ext {a b : BitVec 32} (h : ∀ i, i < 32 → a.getLsbD i = b.getLsbD i) : a = b := BitVec.eq_of_getLsbD_eq (fun i hi => h i hi)
theorem get_ite (x : Bool) (p : BitVec 32) (i : Nat) : (if x then p else 0#32).getLsbD i = (x && p.getLsbD i) := by cases x <;> simp

/-- One step of a CRC's register. -/
def stp (p c : BitVec 32) : BitVec 32 := (c >>> 1) ^^^ (if c.getLsbD 0 then p else 0#32)
def stpn (p : BitVec 32) : Nat → BitVec 32 → BitVec 32
  | 0, c => c
  | n + 1, c => stpn p n (stp p c)

theorem stp_get (p c : BitVec 32) (i : Nat) : (stp p c).getLsbD i = (c.getLsbD (1 + i) ^^ (c.getLsbD 0 && p.getLsbD i)) := by
  unfold stp
  rw [BitVec.getLsbD_xor, BitVec.getLsbD_ushiftRight, get_ite]
theorem stp_xor (p a b : BitVec 32) : stp p (a ^^^ b) = stp p a ^^^ stp p b := by
  apply bv_ext
  intro i hi
  rw [BitVec.getLsbD_xor, stp_get, stp_get, stp_get, BitVec.getLsbD_xor, BitVec.getLsbD_xor]
  cases a.getLsbD 0 <;> cases b.getLsbD 0 <;> cases a.getLsbD (1 + i) <;> cases b.getLsbD (1 + i) <;> cases p.getLsbD i <;> rfl
theorem stpn_xor (p : BitVec 32) (n : Nat) : ∀ a b : BitVec 32, stpn p n (a ^^^ b) = stpn p n a ^^^ stpn p n b := by
  induction n with
  | zero => intro a b; rfl
  | succ n ih => intro a b; simp only [stpn, stp_xor, ih]
theorem stp_zero (p : BitVec 32) : stp p 0#32 = 0#32 := by unfold stp; simp
theorem stpn_zero (p : BitVec 32) (n : Nat) : stpn p n 0#32 = 0#32 := by
  induction n with
  | zero => rfl
  | succ n ih => simp only [stpn, stp_zero, ih]
theorem stpn_add (p : BitVec 32) (m n : Nat) : ∀ c, stpn p (m + n) c = stpn p n (stpn p m c) := by
  induction m with
  | zero => intro c; simp [stpn]
  | succ m ih => intro c; rw [Nat.succ_add]; simp only [stpn, ih]
theorem stpn_succ (p : BitVec 32) (n : Nat) (c : BitVec 32) : stpn p (n + 1) c = stp p (stpn p n c) := by rw [stpn_add]; rfl

/-- Where the lowest n bits are 0, n steps only shift. -/
theorem stpn_high (p : BitVec 32) (n : Nat) : ∀ c : BitVec 32, (∀ i, i < n → c.getLsbD i = false) → stpn p n c = c >>> n := by
  induction n with
  | zero => intro c _; simp [stpn]
  | succ n ih =>
    intro c h
    have h0 : stp p c = c >>> 1 := by unfold stp; rw [h 0 (by omega)]; simp
    rw [stpn, h0, ih]
    · rw [← BitVec.shiftRight_add, Nat.add_comm]
    · intro i hi
      rw [BitVec.getLsbD_ushiftRight]
      exact h _ (by omega)

theorem mask255 (i : Nat) (hi : i < 32) : (255#32).getLsbD i = decide (i < 8) := by
  have : ∀ j : Fin 32, (255#32).getLsbD j.1 = decide (j.1 < 8) := by decide
  exact this ⟨i, hi⟩
theorem split8 (z : BitVec 32) : z = (z &&& 255#32) ^^^ ((z >>> 8) <<< 8) := by
  apply bv_ext
  intro i hi
  rw [BitVec.getLsbD_xor, BitVec.getLsbD_and, BitVec.getLsbD_shiftLeft, BitVec.getLsbD_ushiftRight, mask255 i hi]
  by_cases h : i < 8
  · simp [h]
  · have : 8 + (i - 8) = i := by omega
    simp [h, this, hi]

/-- The table's way is the step's way, eight times. -/
theorem table_step (p z : BitVec 32) : (z >>> 8) ^^^ stpn p 8 (z &&& 255#32) = stpn p 8 z := by
  have h : stpn p 8 ((z >>> 8) <<< 8) = z >>> 8 := by
    rw [stpn_high]
    · apply bv_ext
      intro i hi
      rw [BitVec.getLsbD_ushiftRight, BitVec.getLsbD_shiftLeft, BitVec.getLsbD_ushiftRight, BitVec.getLsbD_ushiftRight]
      have e : 8 + (8 + i - 8) = 8 + i := by omega
      rw [e]
      by_cases h : 8 + i < 32
      · simp [h]
      · simp [h]; exact BitVec.getLsbD_of_ge _ _ (by omega)
    · intro i hi
      simp [BitVec.getLsbD_shiftLeft, hi]
  have e : stpn p 8 z = stpn p 8 ((z &&& 255#32) ^^^ ((z >>> 8) <<< 8)) := congrArg _ (split8 z)
  rw [e, stpn_xor, h, BitVec.xor_comm]

/-- A bit is fed. -/
def bv1 (x : Bool) : BitVec 32 := if x then 1#32 else 0#32
def fb (p c : BitVec 32) (x : Bool) : BitVec 32 := stp p (c ^^^ bv1 x)
theorem bv1_xor (x y : Bool) : bv1 (x ^^ y) = bv1 x ^^^ bv1 y := by cases x <;> cases y <;> rfl

/-- Bits, the lowest first, as a number. -/
def num : List Bool → BitVec 32
  | [] => 0#32
  | x :: l => bv1 x ^^^ (num l <<< 1)
theorem bv1_get (x : Bool) (i : Nat) : (bv1 x).getLsbD i = (x && decide (i = 0)) := by
  unfold bv1
  cases x <;> simp
theorem num_get (l : List Bool) : ∀ i, i < 32 → (num l).getLsbD i = l.getD i false := by
  induction l with
  | nil => intro i _; simp [num]
  | cons x l ih =>
    intro i hi
    rw [num, BitVec.getLsbD_xor, BitVec.getLsbD_shiftLeft, bv1_get]
    cases i with
    | zero => simp
    | succ i => simp [hi, ih i (by omega)]
theorem num_zero (l : List Bool) (hl : l.length ≤ 32) (h : num l = 0#32) : ∀ x ∈ l, x = false := by
  intro x hx
  obtain ⟨i, hi, rfl⟩ := List.getElem_of_mem hx
  have := num_get l i (by omega)
  rw [h] at this
  simp [hi] at this
  exact this

/-- Bits that are fed are taken into the register ahead of the steps. -/
theorem feed_num (p : BitVec 32) (l : List Bool) : ∀ c, l.length ≤ 32 → l.foldl (fb p) c = stpn p l.length (c ^^^ num l) := by
  induction l with
  | nil => intro c _; simp [num, stpn]
  | cons x l ih =>
    intro c hl
    simp only [List.length_cons] at hl
    rw [List.foldl_cons, ih _ (by omega), List.length_cons, stpn, num]
    congr 1
    unfold fb
    rw [← BitVec.xor_assoc, stp_xor p (c ^^^ bv1 x)]
    congr 1
    apply bv_ext
    intro i hi
    rw [stp_get, BitVec.getLsbD_shiftLeft, BitVec.getLsbD_shiftLeft]
    by_cases h : 1 + i < 32
    · simp [h]
    · have h31 : i = 31 := by omega
      subst h31
      have : (num l).getLsbD 31 = false := by rw [num_get l 31 (by omega)]; rw [List.getD_eq_getElem?_getD, List.getElem?_eq_none (by omega)]; rfl
      rw [this]
      simp
/-- The top bit of the polynomial makes a step one that can be taken back. -/
theorem stp_inj (p : BitVec 32) (w : Nat) (hw : 0 < w) (hw2 : w ≤ 32) (hp : p.getLsbD (w - 1) = true) (c : BitVec 32) (hc : ∀ i, w ≤ i → c.getLsbD i = false) (h : stp p c = 0#32) : c = 0#32 := by
  have hb : ∀ i, (c.getLsbD (1 + i) ^^ (c.getLsbD 0 && p.getLsbD i)) = false := by
    intro i; rw [← stp_get, h]; simp
  have h0 : c.getLsbD 0 = false := by
    have := hb (w - 1)
    rw [hc (1 + (w - 1)) (by omega), hp] at this
    simpa using this
  apply bv_ext
  intro i hi
  cases i with
  | zero => simpa using h0
  | succ i =>
    have := hb i
    rw [h0] at this
    rw [Nat.add_comm i 1]
    simpa using this
theorem stp_small (p : BitVec 32) (w : Nat) (hp : ∀ i, w ≤ i → p.getLsbD i = false) (c : BitVec 32) (hc : ∀ i, w ≤ i → c.getLsbD i = false) : ∀ i, w ≤ i → (stp p c).getLsbD i = false := by
  intro i hi
  rw [stp_get, hc (1 + i) (by omega), hp i hi]
  simp
theorem stpn_inj (p : BitVec 32) (w : Nat) (hw : 0 < w) (hw2 : w ≤ 32) (hp : p.getLsbD (w - 1) = true) (hp2 : ∀ i, w ≤ i → p.getLsbD i = false) (n : Nat) :
    ∀ c : BitVec 32, (∀ i, w ≤ i → c.getLsbD i = false) → stpn p n c = 0#32 → c = 0#32 := by
  induction n with
  | zero => intro c _ h; exact h
  | succ n ih =>
    intro c hc h
    exact stp_inj p w hw hw2 hp c hc (ih _ (stp_small p w hp2 c hc) h)

/-- Bits are fed into the empty register: none but noughts leave it empty. -/
theorem feed_burst (p : BitVec 32) (w : Nat) (hw : 0 < w) (hw2 : w ≤ 32) (hp : p.getLsbD (w - 1) = true) (hp2 : ∀ i, w ≤ i → p.getLsbD i = false)
    (a m z : List Bool) (ha : ∀ x ∈ a, x = false) (hz : ∀ x ∈ z, x = false) (hm : m.length ≤ w) (h : (a ++ m ++ z).foldl (fb p) 0#32 = 0#32) : ∀ x ∈ m, x = false := by
  have noughts : ∀ (l : List Bool), (∀ x ∈ l, x = false) → ∀ c, l.foldl (fb p) c = stpn p l.length c := by
    intro l
    induction l with
    | nil => intro _ c; rfl
    | cons x l ih =>
      intro hl c
      obtain rfl : x = false := hl x (by simp)
      rw [List.foldl_cons, ih (fun y hy => hl y (by simp [hy])), List.length_cons, stpn]
      simp [fb, bv1]
  rw [List.foldl_append, List.foldl_append, noughts a ha, stpn_zero, noughts z hz, feed_num p m _ (by omega)] at h
  have hsmall : ∀ i, w ≤ i → (num m).getLsbD i = false := by
    intro i hi
    by_cases h32 : i < 32
    · rw [num_get m i h32]; rw [List.getD_eq_getElem?_getD, List.getElem?_eq_none (by omega)]; rfl
    · exact BitVec.getLsbD_of_ge _ _ (by omega)
  rw [BitVec.zero_xor] at h
  have hst : ∀ n (c : BitVec 32), (∀ i, w ≤ i → c.getLsbD i = false) → ∀ i, w ≤ i → (stpn p n c).getLsbD i = false := by
    intro n
    induction n with
    | zero => intro c hc; exact hc
    | succ n ih => intro c hc; exact ih _ (stp_small p w hp2 c hc)
  have h1 := stpn_inj p w hw hw2 hp hp2 _ _ (hst _ _ hsmall) h
  have h2 := stpn_inj p w hw hw2 hp hp2 _ _ hsmall h1
  exact num_zero m (by omega) h2

/-- The eight bits of a byte, the lowest first. -/
def bits8 (x : BitVec 32) : List Bool := [x.getLsbD 0, x.getLsbD 1, x.getLsbD 2, x.getLsbD 3, x.getLsbD 4, x.getLsbD 5, x.getLsbD 6, x.getLsbD 7]
theorem num_bits8 (x : BitVec 32) (hx : ∀ i, 8 ≤ i → x.getLsbD i = false) : num (bits8 x) = x := by
  apply bv_ext
  intro i hi
  rw [num_get _ i hi]
  unfold bits8
  match i, hi with
  | 0, _ | 1, _ | 2, _ | 3, _ | 4, _ | 5, _ | 6, _ | 7, _ => rfl
  | i + 8, _ => rw [hx (i + 8) (by omega)]; simp
theorem feed_byte (p c x : BitVec 32) (hx : ∀ i, 8 ≤ i → x.getLsbD i = false) : (bits8 x).foldl (fb p) c = stpn p 8 (c ^^^ x) := by
  rw [feed_num p _ c (by simp [bits8]), num_bits8 x hx]
  rfl

/-- The register behind bytes. -/
def crc (p c : BitVec 32) (l : List (BitVec 32)) : BitVec 32 := l.foldl (fun c x => stpn p 8 (c ^^^ x)) c
theorem crc_cons (p c x : BitVec 32) (l : List (BitVec 32)) : crc p c (x :: l) = crc p (stpn p 8 (c ^^^ x)) l := rfl
theorem crc_bits (p : BitVec 32) (l : List (BitVec 32)) : ∀ c, (∀ x ∈ l, ∀ i, 8 ≤ i → x.getLsbD i = false) → crc p c l = (l.flatMap bits8).foldl (fb p) c := by
  induction l with
  | nil => intro c _; rfl
  | cons x l ih =>
    intro c h
    rw [crc_cons, ih _ (fun y hy => h y (by simp [hy])), List.flatMap_cons, List.foldl_append, feed_byte p c x (h x (by simp))]
/-- Two lists as long, taken one against the other. -/
theorem crc_xor (p : BitVec 32) (l : List (BitVec 32 × BitVec 32)) : ∀ a b, crc p (a ^^^ b) (l.map fun x => x.1 ^^^ x.2) = crc p a (l.map (·.1)) ^^^ crc p b (l.map (·.2)) := by
  induction l with
  | nil => intro a b; rfl
  | cons x l ih =>
    intro a b
    simp only [List.map_cons, crc_cons]
    rw [← ih, ← stpn_xor]
    congr 2
    rw [BitVec.xor_assoc, BitVec.xor_assoc]
    congr 1
    rw [← BitVec.xor_assoc, BitVec.xor_comm b x.1, BitVec.xor_assoc]
end Go.Proofs.YtdgilloblfbklaaGreatDoor.SumsMath
