/-
  Both disks, side by side, apart from what is watched (N).
-/
import Derived.Test.YtmoakgkoahjijaaGreatDoorR2
import Derived.Test.YtmoakgkoahjijaaGreatDoorOp2
set_option linter.unusedVariables false
set_option linter.unusedSimpArgs false
set_option maxRecDepth 100000
namespace Go.Proofs.YtmoakgkoahjijaaGreatDoor
open Go.RowKit SumsMath

def oApp (room : Int) (S : Option DSt) (ys : List Int) : Int × Option DSt := match S with | none => (2, none) | some s => ((apF room s ys).1, some (apF room s ys).2)
def oTrim (S : Option DSt) (n : Int) : Int × Option DSt := match S with | none => (2, none) | some s => ((trimF s n).1, some (trimF s n).2)
def oFail (S : Option DSt) (n : Int) : Int × Option DSt := match S with | none => (2, none) | some s => ((failF s n).1, some (failF s n).2)
def oUp (S : Option DSt) : Int × Option DSt := match S with | none => (2, none) | some s => (0, some (upF s))
def oDown (S : Option DSt) : Bool := match S with | none => false | some s => s.off
def oBytes (S : Option DSt) : List Int := match S with | none => [] | some s => s.bs
def PT (base : Nat) (N : Nat → Prop) (W : World) (d r : Option Addr) (room : Int) : Option DSt → Option DSt → Prop
  | none, none => d = none ∧ r = none
  | some s, some t => Inv room s ∧ Inv room t ∧ ∃ g1 g2 F G, d = some ⟨g1, 0, none⟩ ∧ r = some ⟨g2, 0, none⟩ ∧ DAt F W g1 room s ∧ RAt G W g2 room t ∧ (∀ k, F k → base ≤ k ∧ ¬ N k) ∧ (∀ k, G k → base ≤ k ∧ ¬ N k) ∧ ∀ k, F k → ¬ G k
  | _, _ => False
/-- The disks at work: N are the blocks that they leave alone. -/
structure PD (base : Nat) (N : Nat → Prop) (W : World) (d r : Option Addr) (room : Int) (S T : Option DSt) : Prop where
  bs : base ≤ W.heap.size
  nlt : ∀ k, N k → k < W.heap.size
  two : PT base N W d r room S T
/-- What a disk's work touches. -/
def Wk (base : Nat) (N : Nat → Prop) (W W' : World) : Prop := Foot (fun k => base ≤ k ∧ ¬ N k) W W'
section
variable {base : Nat} {N : Nat → Prop} {W W' : World} {d r : Option Addr} {room : Int} {S T : Option DSt} {xs : List Int} {A : Option Addr} {m c : Nat}
theorem Wk.refl : Wk base N W W := Foot.refl _ _
theorem Wk.later (h : Below W.heap.size W W') : Wk base N W W' := Foot.ofBelow h _
theorem Wk.trans {W'' : World} (h : Wk base N W W') (k : Wk base N W' W'') : Wk base N W W'' := Foot.trans h k (fun i hi => .inl hi)
theorem Wk.below (h : Wk base N W W') (hb : base ≤ W.heap.size) : Below base W W' := Foot.below h (fun i hi => hi.1) hb
/-- Something else is at work: it touches what is watched, or new blocks; other blocks are watched then. -/
theorem PD.renew {H N' : Nat → Prop} (h : PD base N W d r room S T) (hf : Foot H W W') (hH : ∀ k, k < W.heap.size → H k → N k) (hN : ∀ k, N' k → k < W'.heap.size ∧ (N k ∨ W.heap.size ≤ k)) : PD base N' W' d r room S T := by
  refine ⟨Nat.le_trans h.bs hf.size, fun k hk => (hN k hk).1, ?_⟩
  have h2 := h.two
  revert h2
  cases S <;> cases T
  · exact id
  · exact id
  · exact id
  · rintro ⟨i1, i2, g1, g2, F, G, e1, e2, hD, hR, hF, hG, hFG⟩
    refine ⟨i1, i2, g1, g2, F, G, e1, e2, DiskAt.foot hD (hf.mono (G := fun k => k < W.heap.size ∧ H k) (fun k hk hh => ⟨hk, hh⟩)) (fun k hk hh => (hF k hk).2 (hH k hh.1 hh.2)), hR.foot (hf.mono (G := fun k => k < W.heap.size ∧ H k) (fun k hk hh => ⟨hk, hh⟩)) (fun k hk hh => (hG k hk).2 (hH k hh.1 hh.2)), ?_, ?_, hFG⟩
    · intro k hk
      refine ⟨(hF k hk).1, fun hn => ?_⟩
      rcases (hN k hn).2 with h' | h'
      · exact (hF k hk).2 h'
      · have := hD.2.1 k hk; omega
    · intro k hk
      refine ⟨(hG k hk).1, fun hn => ?_⟩
      rcases (hN k hn).2 with h' | h'
      · exact (hG k hk).2 h'
      · have := hR.2.1 k hk; omega
theorem PD.later (h : PD base N W d r room S T) (hb : Below W.heap.size W W') : PD base N W' d r room S T :=
  h.renew (Foot.ofBelow hb (fun _ => False)) (fun _ _ h => h.elim) (fun k hk => ⟨Nat.lt_of_lt_of_le (h.nlt k hk) hb.size, .inl hk⟩)
theorem PD.nd (h : PD base N W d r room none T) : d = none ∧ T = none := by
  have h2 := h.two
  revert h2
  cases T
  · rintro ⟨h, _⟩; exact ⟨h, rfl⟩
  · exact fun h => h.elim
theorem PD.nr (h : PD base N W d r room S none) : r = none ∧ S = none := by
  have h2 := h.two
  revert h2
  cases S
  · rintro ⟨_, h⟩; exact ⟨h, rfl⟩
  · exact fun h => h.elim
theorem PD.dd {s : DSt} (h : PD base N W d r room (some s) T) : ∃ g F, d = some ⟨g, 0, none⟩ ∧ DAt F W g room s ∧ Inv room s ∧ ∀ W' s', Inv room s' → DTo F W W' g room s' → PD base N W' d r room (some s') T ∧ Wk base N W W' := by
  obtain ⟨hbs, hn, h2⟩ := h
  revert h2
  cases T with
  | none => exact fun h => h.elim
  | some t =>
    rintro ⟨i1, i2, g1, g2, F, G, e1, e2, hD, hR, hF, hG, hFG⟩
    refine ⟨g1, F, e1, hD, i1, ?_⟩
    rintro W' s' i1' ⟨hf, F', hF', hD'⟩
    refine ⟨⟨Nat.le_trans hbs hf.size, fun k hk => Nat.lt_of_lt_of_le (hn k hk) hf.size, i1', i2, g1, g2, F', G, e1, e2, hD', hR.foot hf (fun k hk hFk => hFG k hFk hk), ?_, hG, ?_⟩, hf.mono (fun k _ hk => hF k hk)⟩
    · intro k hk
      rcases hF' k hk with h | h
      · exact hF k h
      · exact ⟨by omega, fun h' => by have := hn k h'; omega⟩
    · intro k hk hGk
      rcases hF' k hk with h | h
      · exact hFG k h hGk
      · have := hR.2.1 k hGk; omega
theorem PD.rr {t : DSt} (h : PD base N W d r room S (some t)) : ∃ g G, r = some ⟨g, 0, none⟩ ∧ RAt G W g room t ∧ Inv room t ∧ ∀ W' t', Inv room t' → RTo G W W' g room t' → PD base N W' d r room S (some t') ∧ Wk base N W W' := by
  obtain ⟨hbs, hn, h2⟩ := h
  revert h2
  cases S with
  | none => exact fun h => h.elim
  | some s =>
    rintro ⟨i1, i2, g1, g2, F, G, e1, e2, hD, hR, hF, hG, hFG⟩
    refine ⟨g2, G, e2, hR, i2, ?_⟩
    rintro W' t' i2' ⟨hf, G', hG', hR'⟩
    refine ⟨⟨Nat.le_trans hbs hf.size, fun k hk => Nat.lt_of_lt_of_le (hn k hk) hf.size, i1, i2', g1, g2, F, G', e1, e2, DiskAt.foot hD hf (fun k hk hGk => hFG k hk hGk), hR', hF, ?_, ?_⟩, hf.mono (fun k _ hk => hG k hk)⟩
    · intro k hk
      rcases hG' k hk with h | h
      · exact hG k h
      · exact ⟨by omega, fun h' => by have := hn k h'; omega⟩
    · intro k hk hGk
      rcases hG' k hGk with h | h
      · exact hFG k hk h
      · have := hD.2.1 k hk; omega
/-- A disk answers; both go on. -/
def Did (base : Nat) (N : Nat → Prop) (W : World) (d r : Option Addr) (room : Int) (S T : Option DSt) (x : Int) (e : Ending) (w' : World) : Prop := e = .returned (.int .i64 x) ∧ PD base N w' d r room S T ∧ Wk base N W w'
theorem PD.dApp (h : PD base N W d r room S T) (hx : Bytes xs) (HR : Reads W .u8 A m xs) (hmc : m ≤ c) :
    Calls Tryz.prog 34 #[.pointer d, .slice A m c] W (Did base N W d r room (oApp room S xs).2 T (oApp room S xs).1) := by
  cases S with
  | none =>
    obtain ⟨rfl, rfl⟩ := h.nd
    exact (append_none (ready_nil W)).mono fun e w' ⟨he, hw⟩ => ⟨he, hw ▸ h, hw ▸ Wk.refl⟩
  | some s =>
    obtain ⟨g, F, rfl, hD, hi, hto⟩ := h.dd
    exact (D_append hD hi HR hmc).mono fun e w' ⟨he, ht⟩ => ⟨he, hto w' _ (hi.ap hx) ht⟩
theorem PD.rApp (h : PD base N W d r room S T) (hx : Bytes xs) (HR : Reads W .u8 A m xs) (hmc : m ≤ c) :
    Calls Tryz.prog 35 #[.pointer r, .slice A m c] W (Did base N W d r room S (oApp room T xs).2 (oApp room T xs).1) := by
  cases T with
  | none =>
    obtain ⟨rfl, rfl⟩ := h.nr
    exact rnil_append.mono fun e w' ⟨he, hw⟩ => ⟨he, hw ▸ h, hw ▸ Wk.refl⟩
  | some s =>
    obtain ⟨g, F, rfl, hD, hi, hto⟩ := h.rr
    exact (R_append hD hi HR hmc).mono fun e w' ⟨he, ht⟩ => ⟨he, hto w' _ (hi.ap hx) ht⟩
theorem PD.dTrim (n : Int) (h : PD base N W d r room S T) : Calls Tryz.prog 28 #[.pointer d, .int .i64 n] W (Did base N W d r room (oTrim S n).2 T (oTrim S n).1) := by
  cases S with
  | none =>
    obtain ⟨rfl, rfl⟩ := h.nd
    exact (trim_none n (ready_nil W)).mono fun e w' ⟨he, hw⟩ => ⟨he, hw ▸ h, hw ▸ Wk.refl⟩
  | some s =>
    obtain ⟨g, F, rfl, hD, hi, hto⟩ := h.dd
    exact (D_trim n hD hi).mono fun e w' ⟨he, ht⟩ => ⟨he, hto w' _ hi.trim ht⟩
theorem PD.rTrim (n : Int) (h : PD base N W d r room S T) : Calls Tryz.prog 29 #[.pointer r, .int .i64 n] W (Did base N W d r room S (oTrim T n).2 (oTrim T n).1) := by
  cases T with
  | none =>
    obtain ⟨rfl, rfl⟩ := h.nr
    exact (rnil_trim n).mono fun e w' ⟨he, hw⟩ => ⟨he, hw ▸ h, hw ▸ Wk.refl⟩
  | some s =>
    obtain ⟨g, F, rfl, hD, hi, hto⟩ := h.rr
    exact (R_trim_any n hD).mono fun e w' ⟨he, ht⟩ => ⟨he, hto w' _ hi.trim ht⟩
theorem PD.dFail (n : Int) (h : PD base N W d r room S T) : Calls Tryz.prog 30 #[.pointer d, .int .i64 n] W (Did base N W d r room (oFail S n).2 T (oFail S n).1) := by
  cases S with
  | none =>
    obtain ⟨rfl, rfl⟩ := h.nd
    exact (fail_none n (fun w1 _ => ready_nil w1)).mono fun e w' ⟨he, hb⟩ => ⟨he, h.later hb, Wk.later hb⟩
  | some s =>
    obtain ⟨g, F, rfl, hD, hi, hto⟩ := h.dd
    exact (D_fail n hD hi).mono fun e w' ⟨he, ht⟩ => ⟨he, hto w' _ hi.fail ht⟩
theorem PD.rFail (n : Int) (h : PD base N W d r room S T) : Calls Tryz.prog 31 #[.pointer r, .int .i64 n] W (Did base N W d r room S (oFail T n).2 (oFail T n).1) := by
  cases T with
  | none =>
    obtain ⟨rfl, rfl⟩ := h.nr
    exact (rnil_fail n).mono fun e w' ⟨he, hw⟩ => ⟨he, hw ▸ h, hw ▸ Wk.refl⟩
  | some s =>
    obtain ⟨g, F, rfl, hD, hi, hto⟩ := h.rr
    exact (R_fail n hD hi).mono fun e w' ⟨he, ht⟩ => ⟨he, hto w' _ hi.fail ht⟩
theorem PD.dUp (h : PD base N W d r room S T) : Calls Tryz.prog 32 #[.pointer d] W (Did base N W d r room (oUp S).2 T (oUp S).1) := by
  cases S with
  | none =>
    obtain ⟨rfl, rfl⟩ := h.nd
    exact (up_none (ready_nil W)).mono fun e w' ⟨he, hw⟩ => ⟨he, hw ▸ h, hw ▸ Wk.refl⟩
  | some s =>
    obtain ⟨g, F, rfl, hD, hi, hto⟩ := h.dd
    exact (D_up hD hi).mono fun e w' ⟨he, ht⟩ => ⟨he, hto w' _ hi.up ht⟩
theorem PD.rUp (h : PD base N W d r room S T) : Calls Tryz.prog 33 #[.pointer r] W (Did base N W d r room S (oUp T).2 (oUp T).1) := by
  cases T with
  | none =>
    obtain ⟨rfl, rfl⟩ := h.nr
    exact rnil_up.mono fun e w' ⟨he, hw⟩ => ⟨he, hw ▸ h, hw ▸ Wk.refl⟩
  | some s =>
    obtain ⟨g, F, rfl, hD, hi, hto⟩ := h.rr
    exact (R_up hD).mono fun e w' ⟨he, ht⟩ => ⟨he, hto w' _ hi.up ht⟩
theorem PD.dDown (h : PD base N W d r room S T) : Calls Tryz.prog 36 #[.pointer d] W fun e w' => e = .returned (.bool (oDown S)) ∧ W = w' := by
  cases S with
  | none => obtain ⟨rfl, rfl⟩ := h.nd; exact down_none
  | some s => obtain ⟨g, F, rfl, hD, hi, hto⟩ := h.dd; exact D_down hD
theorem PD.rDown (h : PD base N W d r room S T) : Calls Tryz.prog 37 #[.pointer r] W fun e w' => e = .returned (.bool (oDown T)) ∧ W = w' := by
  cases T with
  | none => obtain ⟨rfl, rfl⟩ := h.nr; exact rnil_down
  | some s => obtain ⟨g, F, rfl, hD, hi, hto⟩ := h.rr; exact R_down hD
theorem PD.dBytes (h : PD base N W d r room S T) : Calls Tryz.prog 38 #[.pointer d] W fun e w' => ∃ v, e = .returned v ∧ w'.ownsRow W.heap.size 5 1 v (oBytes S).length (nums .u8 (oBytes S)) ∧ Below W.heap.size W w' := by
  cases S with
  | none => obtain ⟨rfl, rfl⟩ := h.nd; exact bytes_none.mono fun e w' ⟨he, hw⟩ => ⟨_, he, World.ownsRow_nil _ _ _ _, hw ▸ Below.refl _ _⟩
  | some s => obtain ⟨g, F, rfl, hD, hi, hto⟩ := h.dd; exact D_bytes hD hi
theorem PD.rBytes (h : PD base N W d r room S T) : Calls Tryz.prog 39 #[.pointer r] W fun e w' => ∃ v, e = .returned v ∧ w'.ownsRow W.heap.size 5 1 v (oBytes T).length (nums .u8 (oBytes T)) ∧ Below W.heap.size W w' := by
  cases T with
  | none => obtain ⟨rfl, rfl⟩ := h.nr; exact rnil_bytes.mono fun e w' ⟨he, hw⟩ => ⟨_, he, World.ownsRow_nil _ _ _ _, hw ▸ Below.refl _ _⟩
  | some s => obtain ⟨g, F, rfl, hD, hi, hto⟩ := h.rr; exact R_bytes hD hi
theorem PD.len (h : PD base N W d r room S T) : (oBytes S).length ≤ 16777216 := by
  cases S with
  | none => exact Nat.zero_le _
  | some s => obtain ⟨g, F, _, _, hi, _⟩ := h.dd; have := hi.hl; have := hi.h2; simp only [oBytes]; omega
end
end Go.Proofs.YtmoakgkoahjijaaGreatDoor
