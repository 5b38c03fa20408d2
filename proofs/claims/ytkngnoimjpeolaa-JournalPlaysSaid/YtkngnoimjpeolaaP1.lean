/-
  Both disks, side by side: each as a machine says.
-/
import Derived.Test.YtkngnoimjpeolaaR5
import Derived.Test.YtkngnoimjpeolaaOp2
set_option linter.unusedVariables false
set_option linter.unusedSimpArgs false
namespace Go.Proofs.Ytkngnoimjpeolaa
open Go.RowKit SumsMath

def oApp (room : Int) (S : Option DSt) (ys : List Int) : Int × Option DSt := match S with | none => (2, none) | some s => ((apF room s ys).1, some (apF room s ys).2)
def oAdd (room : Int) (S : Option DSt) (xs : List Int) : Int × Option DSt := match S with | none => (2, none) | some s => ((addF room s xs).1, some (addF room s xs).2)
def oFail (S : Option DSt) (n : Int) : Int × Option DSt := match S with | none => (2, none) | some s => ((failF s n).1, some (failF s n).2)
def oUp (S : Option DSt) : Int × Option DSt := match S with | none => (2, none) | some s => (0, some (upF s))
def oOpen (S : Option DSt) : Int × List (List Int) × Option DSt := match S with | none => (2, [], none) | some s => ((openF s).1, (openF s).2.1, some (openF s).2.2)
def oDown (S : Option DSt) : Bool := match S with | none => false | some s => s.off
def oBytes (S : Option DSt) : List Int := match S with | none => [] | some s => s.bs

def PRs (base : Nat) (W : World) (z q : Nat) (d r : Option Addr) (room : Int) : Option DSt → Option DSt → Prop
  | none, none => d = none ∧ r = none
  | some s, some t => Inv room s ∧ Inv room t ∧ ∃ g1 g2 F G, d = some ⟨g1, 0, none⟩ ∧ r = some ⟨g2, 0, none⟩ ∧ DAt F W g1 room s ∧ RAt G W g2 room t ∧ (∀ k, F k → base ≤ k ∧ k ≠ z ∧ k ≠ q) ∧ (∀ k, G k → base ≤ k ∧ k ≠ z ∧ k ≠ q) ∧ ∀ k, F k → ¬ G k
  | _, _ => False
structure PR (w0 W : World) (z q : Nat) (bx : Obj) (d r : Option Addr) (room : Int) (S T : Option DSt) : Prop where
  box : W.heap[q]? = some bx
  below : Below w0.heap.size w0 W
  zero : Zero W z
  zb : w0.heap.size ≤ z
  two : PRs w0.heap.size W z q d r room S T
section
variable {w0 W W' : World} {z q : Nat} {bx : Obj} {d r : Option Addr} {room : Int} {S T : Option DSt} {xs : List Int} {A : Option Addr} {m c : Nat}
theorem PR.later (h : PR w0 W z q bx d r room S T) (hb : Below W.heap.size W W') : PR w0 W' z q bx d r room S T := by
  refine ⟨(hb.block q (Array.getElem?_eq_some_iff.1 h.box).1).trans h.box, h.below.trans (hb.mono h.below.size), h.zero.later hb, h.zb, ?_⟩
  have h2 := h.two
  revert h2
  cases S <;> cases T
  · exact id
  · exact id
  · exact id
  · rintro ⟨i1, i2, g1, g2, F, G, e1, e2, hD, hR, r⟩
    exact ⟨i1, i2, g1, g2, F, G, e1, e2, DiskAt.later hD hb, hR.later hb, r⟩
/-- Another block is watched: a new one. -/
theorem PR.rebox (h : PR w0 W z q bx d r room S T) (bx' : Obj) : PR w0 (W.alloc bx') z W.heap.size bx' d r room S T := by
  have ha : Below W.heap.size W (W.alloc bx') := (Below.refl _ _).alloc (Nat.le_refl _) _
  have h' := h.later ha
  refine ⟨heap_alloc_new W bx', h'.below, h'.zero, h'.zb, ?_⟩
  have h2 := h.two
  revert h2
  cases S <;> cases T
  · exact id
  · exact id
  · exact id
  · rintro ⟨i1, i2, g1, g2, F, G, e1, e2, hD, hR, hF, hG, r⟩
    exact ⟨i1, i2, g1, g2, F, G, e1, e2, DiskAt.later hD ha, hR.later ha, fun k hk => ⟨(hF k hk).1, (hF k hk).2.1, by have := hD.2.1 k hk; omega⟩, fun k hk => ⟨(hG k hk).1, (hG k hk).2.1, by have := hR.2.1 k hk; omega⟩, r⟩
theorem PR.nd (h : PR w0 W z q bx d r room none T) : d = none ∧ T = none := by
  have h2 := h.two
  revert h2
  cases T
  · rintro ⟨h, _⟩; exact ⟨h, rfl⟩
  · exact fun h => h.elim
theorem PR.nr (h : PR w0 W z q bx d r room S none) : r = none ∧ S = none := by
  have h2 := h.two
  revert h2
  cases S
  · rintro ⟨_, h⟩; exact ⟨h, rfl⟩
  · exact fun h => h.elim
theorem PR.dd {s : DSt} (h : PR w0 W z q bx d r room (some s) T) : ∃ g F, d = some ⟨g, 0, none⟩ ∧ DAt F W g room s ∧ Inv room s ∧ ∀ W' s', Inv room s' → DTo F W W' g room s' → PR w0 W' z q bx d r room (some s') T := by
  obtain ⟨hbx, hb, hz, hzb, h2⟩ := h
  revert h2
  cases T with
  | none => exact fun h => h.elim
  | some t =>
    rintro ⟨i1, i2, g1, g2, F, G, e1, e2, hD, hR, hF, hG, hFG⟩
    refine ⟨g1, F, e1, hD, i1, ?_⟩
    rintro W' s' i1' ⟨hf, F', hF', hD'⟩
    have hzW : z < W.heap.size := (Array.getElem?_eq_some_iff.1 hz).1
    have hqW : q < W.heap.size := (Array.getElem?_eq_some_iff.1 hbx).1
    refine ⟨hf.blk hbx (fun hk => (hF q hk).2.2 rfl), hb.trans (hf.below (fun k hk => (hF k hk).1) hb.size), hf.blk hz (fun hk => (hF z hk).2.1 rfl), hzb, i1', i2, g1, g2, F', G, e1, e2, hD', hR.foot hf (fun k hk hFk => hFG k hFk hk), ?_, hG, ?_⟩
    · intro k hk
      rcases hF' k hk with h | h
      · exact hF k h
      · have := hb.size; exact ⟨by omega, by omega, by omega⟩
    · intro k hk hGk
      rcases hF' k hk with h | h
      · exact hFG k h hGk
      · have := hR.2.1 k hGk; omega
theorem PR.rr {t : DSt} (h : PR w0 W z q bx d r room S (some t)) : ∃ g G, r = some ⟨g, 0, none⟩ ∧ RAt G W g room t ∧ Inv room t ∧ ∀ W' t', Inv room t' → RTo G W W' g room t' → PR w0 W' z q bx d r room S (some t') := by
  obtain ⟨hbx, hb, hz, hzb, h2⟩ := h
  revert h2
  cases S with
  | none => exact fun h => h.elim
  | some s =>
    rintro ⟨i1, i2, g1, g2, F, G, e1, e2, hD, hR, hF, hG, hFG⟩
    refine ⟨g2, G, e2, hR, i2, ?_⟩
    rintro W' t' i2' ⟨hf, G', hG', hR'⟩
    have hzW : z < W.heap.size := (Array.getElem?_eq_some_iff.1 hz).1
    have hqW : q < W.heap.size := (Array.getElem?_eq_some_iff.1 hbx).1
    refine ⟨hf.blk hbx (fun hk => (hG q hk).2.2 rfl), hb.trans (hf.below (fun k hk => (hG k hk).1) hb.size), hf.blk hz (fun hk => (hG z hk).2.1 rfl), hzb, i1, i2', g1, g2, F, G', e1, e2, DiskAt.foot hD hf (fun k hk hGk => hFG k hk hGk), hR', hF, ?_, ?_⟩
    · intro k hk
      rcases hG' k hk with h | h
      · exact hG k h
      · have := hb.size; exact ⟨by omega, by omega, by omega⟩
    · intro k hk hGk
      rcases hG' k hGk with h | h
      · exact hFG k hk h
      · have := hD.2.1 k hk; omega
theorem PR.dApp (h : PR w0 W z q bx d r room S T) (hx : Bytes xs) (HR : Reads W .u8 A m xs) (hmc : m ≤ c) :
    Calls Try.prog 22 #[.pointer d, .slice A m c] W fun e w' => e = .returned (.int .i64 (oApp room S xs).1) ∧ PR w0 w' z q bx d r room (oApp room S xs).2 T := by
  cases S with
  | none =>
    obtain ⟨rfl, rfl⟩ := h.nd
    exact (append_none (ready_nil W)).mono fun e w' ⟨he, hw⟩ => ⟨he, hw ▸ h⟩
  | some s =>
    obtain ⟨g, F, rfl, hD, hi, hto⟩ := h.dd
    exact (D_append hD hi HR hmc).mono fun e w' ⟨he, ht⟩ => ⟨he, hto w' _ (hi.ap hx) ht⟩
theorem PR.rApp (h : PR w0 W z q bx d r room S T) (hx : Bytes xs) (HR : Reads W .u8 A m xs) (hmc : m ≤ c) :
    Calls Try.prog 23 #[.pointer r, .slice A m c] W fun e w' => e = .returned (.int .i64 (oApp room T xs).1) ∧ PR w0 w' z q bx d r room S (oApp room T xs).2 := by
  cases T with
  | none =>
    obtain ⟨rfl, rfl⟩ := h.nr
    exact rnil_append.mono fun e w' ⟨he, hw⟩ => ⟨he, hw ▸ h⟩
  | some s =>
    obtain ⟨g, F, rfl, hD, hi, hto⟩ := h.rr
    exact (R_append hD hi HR hmc).mono fun e w' ⟨he, ht⟩ => ⟨he, hto w' _ (hi.ap hx) ht⟩
theorem PR.dAdd (h : PR w0 W z q bx d r room S T) (hx : Bytes xs) (HR : Reads W .u8 A m xs) :
    Calls Try.prog 13 #[.pointer d, .slice A m c] W fun e w' => e = .returned (.int .i64 (oAdd room S xs).1) ∧ PR w0 w' z q bx d r room (oAdd room S xs).2 T := by
  cases S with
  | none =>
    obtain ⟨rfl, rfl⟩ := h.nd
    exact (nil_add hx HR).mono fun e w' ⟨he, hb⟩ => ⟨he, h.later hb⟩
  | some s =>
    obtain ⟨g, F, rfl, hD, hi, hto⟩ := h.dd
    exact (D_add hD hi hx HR).mono fun e w' ⟨he, ht⟩ => ⟨he, hto w' _ (hi.add hx) ht⟩
theorem PR.rAdd (h : PR w0 W z q bx d r room S T) (hx : Bytes xs) (HR : Reads W .u8 A m xs) :
    Calls Try.prog 24 #[.pointer r, .slice A m c] W fun e w' => e = .returned (.int .i64 (oAdd room T xs).1) ∧ PR w0 w' z q bx d r room S (oAdd room T xs).2 := by
  cases T with
  | none =>
    obtain ⟨rfl, rfl⟩ := h.nr
    exact rnil_add.mono fun e w' ⟨he, hw⟩ => ⟨he, hw ▸ h⟩
  | some s =>
    obtain ⟨g, F, rfl, hD, hi, hto⟩ := h.rr
    exact (R_add hD hi hx HR).mono fun e w' ⟨he, ht⟩ => ⟨he, hto w' _ (hi.add hx) ht⟩
theorem PR.zAdd (h : PR w0 W z q bx d r room S T) (hx : Bytes xs) (HR : Reads W .u8 A m xs) :
    Calls Try.prog 13 #[.pointer (some ⟨z, 0, none⟩), .slice A m c] W fun e w' => e = .returned (.int .i64 2) ∧ PR w0 w' z q bx d r room S T :=
  (zero_add h.zero hx HR).mono fun e w' ⟨he, hb⟩ => ⟨he, h.later hb⟩
theorem PR.nAdd (h : PR w0 W z q bx d r room S T) (hx : Bytes xs) (HR : Reads W .u8 A m xs) :
    Calls Try.prog 13 #[.pointer none, .slice A m c] W fun e w' => e = .returned (.int .i64 2) ∧ PR w0 w' z q bx d r room S T :=
  (nil_add hx HR).mono fun e w' ⟨he, hb⟩ => ⟨he, h.later hb⟩
theorem PR.zOpen (h : PR w0 W z q bx d r room S T) :
    Calls Try.prog 16 #[.pointer (some ⟨z, 0, none⟩)] W fun e w' => e = .returned (.tuple #[.slice none 0 0, .int .i64 2]) ∧ Below W.heap.size W w' := zero_open h.zero
theorem PR.dFail (n : Int) (h : PR w0 W z q bx d r room S T) :
    Calls Try.prog 14 #[.pointer d, .int .i64 n] W fun e w' => e = .returned (.int .i64 (oFail S n).1) ∧ PR w0 w' z q bx d r room (oFail S n).2 T := by
  cases S with
  | none =>
    obtain ⟨rfl, rfl⟩ := h.nd
    exact (fail_none n).mono fun e w' ⟨he, hb⟩ => ⟨he, h.later hb⟩
  | some s =>
    obtain ⟨g, F, rfl, hD, hi, hto⟩ := h.dd
    exact (D_fail n hD hi).mono fun e w' ⟨he, ht⟩ => ⟨he, hto w' _ hi.fail ht⟩
theorem PR.rFail (n : Int) (h : PR w0 W z q bx d r room S T) :
    Calls Try.prog 20 #[.pointer r, .int .i64 n] W fun e w' => e = .returned (.int .i64 (oFail T n).1) ∧ PR w0 w' z q bx d r room S (oFail T n).2 := by
  cases T with
  | none =>
    obtain ⟨rfl, rfl⟩ := h.nr
    exact (rnil_fail n).mono fun e w' ⟨he, hw⟩ => ⟨he, hw ▸ h⟩
  | some s =>
    obtain ⟨g, F, rfl, hD, hi, hto⟩ := h.rr
    exact (R_fail n hD hi).mono fun e w' ⟨he, ht⟩ => ⟨he, hto w' _ hi.fail ht⟩
theorem PR.dUp (h : PR w0 W z q bx d r room S T) :
    Calls Try.prog 15 #[.pointer d] W fun e w' => e = .returned (.int .i64 (oUp S).1) ∧ PR w0 w' z q bx d r room (oUp S).2 T := by
  cases S with
  | none =>
    obtain ⟨rfl, rfl⟩ := h.nd
    exact (up_none (ready_nil W)).mono fun e w' ⟨he, hw⟩ => ⟨he, hw ▸ h⟩
  | some s =>
    obtain ⟨g, F, rfl, hD, hi, hto⟩ := h.dd
    exact (D_up hD hi).mono fun e w' ⟨he, ht⟩ => ⟨he, hto w' _ hi.up ht⟩
theorem PR.rUp (h : PR w0 W z q bx d r room S T) :
    Calls Try.prog 21 #[.pointer r] W fun e w' => e = .returned (.int .i64 (oUp T).1) ∧ PR w0 w' z q bx d r room S (oUp T).2 := by
  cases T with
  | none =>
    obtain ⟨rfl, rfl⟩ := h.nr
    exact rnil_up.mono fun e w' ⟨he, hw⟩ => ⟨he, hw ▸ h⟩
  | some s =>
    obtain ⟨g, F, rfl, hD, hi, hto⟩ := h.rr
    exact (R_up hD).mono fun e w' ⟨he, ht⟩ => ⟨he, hto w' _ hi.up ht⟩
theorem PR.dDown (h : PR w0 W z q bx d r room S T) : Calls Try.prog 25 #[.pointer d] W fun e w' => e = .returned (.bool (oDown S)) ∧ W = w' := by
  cases S with
  | none => obtain ⟨rfl, rfl⟩ := h.nd; exact down_none
  | some s => obtain ⟨g, F, rfl, hD, hi, hto⟩ := h.dd; exact D_down hD
theorem PR.rDown (h : PR w0 W z q bx d r room S T) : Calls Try.prog 26 #[.pointer r] W fun e w' => e = .returned (.bool (oDown T)) ∧ W = w' := by
  cases T with
  | none => obtain ⟨rfl, rfl⟩ := h.nr; exact rnil_down
  | some s => obtain ⟨g, F, rfl, hD, hi, hto⟩ := h.rr; exact R_down hD
theorem PR.dBytes (h : PR w0 W z q bx d r room S T) : Calls Try.prog 28 #[.pointer d] W fun e w' => ∃ v, e = .returned v ∧ w'.ownsRow W.heap.size 5 1 v (oBytes S).length (nums .u8 (oBytes S)) ∧ Below W.heap.size W w' := by
  cases S with
  | none => obtain ⟨rfl, rfl⟩ := h.nd; exact bytes_none.mono fun e w' ⟨he, hw⟩ => ⟨_, he, World.ownsRow_nil _ _ _ _, hw ▸ Below.refl _ _⟩
  | some s => obtain ⟨g, F, rfl, hD, hi, hto⟩ := h.dd; exact D_bytes hD hi
theorem PR.rBytes (h : PR w0 W z q bx d r room S T) : Calls Try.prog 29 #[.pointer r] W fun e w' => ∃ v, e = .returned v ∧ w'.ownsRow W.heap.size 5 1 v (oBytes T).length (nums .u8 (oBytes T)) ∧ Below W.heap.size W w' := by
  cases T with
  | none => obtain ⟨rfl, rfl⟩ := h.nr; exact rnil_bytes.mono fun e w' ⟨he, hw⟩ => ⟨_, he, World.ownsRow_nil _ _ _ _, hw ▸ Below.refl _ _⟩
  | some s => obtain ⟨g, F, rfl, hD, hi, hto⟩ := h.rr; exact R_bytes hD hi
/-- The disk is opened: the records that are read are written down, and stay while the other disk is at work. -/
def DOp (w0 W : World) (z q : Nat) (bx : Obj) (d r : Option Addr) (room : Int) (S T : Option DSt) (e : Ending) (w' : World) : Prop :=
  ∃ out, e = .returned (.tuple #[out, .int .i64 (oOpen S).1]) ∧ RowsAt w' W.heap.size out (oOpen S).2.1 ∧ PR w0 w' z q bx d r room (oOpen S).2.2 T
theorem PR.dOpen (h : PR w0 W z q bx d r room S T) : Calls Try.prog 16 #[.pointer d] W (DOp w0 W z q bx d r room S T) := by
  cases S with
  | none =>
    obtain ⟨rfl, rfl⟩ := h.nd
    exact (nil_open W).mono fun e w' ⟨he, hb⟩ => ⟨_, he, RowsAt.nil _ _, h.later hb⟩
  | some s =>
    obtain ⟨g, F, rfl, hD, hi, hto⟩ := h.dd
    exact (D_open hD hi).mono fun e w' ⟨out, he, hr, ht⟩ => ⟨out, he, hr, hto w' _ hi.open_ ht⟩
/-- As DOp, the other disk's blocks being older than the records. -/
def DOp2 (w0 W : World) (z q : Nat) (bx : Obj) (d r : Option Addr) (room : Int) (S : Option DSt) (e : Ending) (w' : World) : Prop :=
  ∃ out, e = .returned (.tuple #[out, .int .i64 (oOpen S).1]) ∧ RowsAt w' W.heap.size out (oOpen S).2.1 ∧ PR w0 w' z q bx d r room (oOpen S).2.2 S ∧
    ∀ t, S = some t → ∃ g G, r = some ⟨g, 0, none⟩ ∧ RAt G w' g room t ∧ Inv room t ∧ (∀ k, G k → k < W.heap.size) ∧ ∀ W'' t', Inv room t' → RTo G w' W'' g room t' → PR w0 W'' z q bx d r room (oOpen S).2.2 (some t')
theorem PR.dOpen2 (h : PR w0 W z q bx d r room S S) : Calls Try.prog 16 #[.pointer d] W (DOp2 w0 W z q bx d r room S) := by
  cases S with
  | none =>
    obtain ⟨rfl, _⟩ := h.nd
    exact (nil_open W).mono fun e w' ⟨he, hb⟩ => ⟨_, he, RowsAt.nil _ _, h.later hb, fun t ht => by cases ht⟩
  | some s =>
    obtain ⟨hbx, hb, hz, hzb, i1, i2, g1, g2, F, G, rfl, rfl, hD, hR, hF, hG, hFG⟩ := h
    refine (D_open hD i1).mono ?_
    rintro e w' ⟨out, he, hr, ht⟩
    obtain ⟨hf, F', hF', hD'⟩ := ht
    have hzW : z < W.heap.size := (Array.getElem?_eq_some_iff.1 hz).1
    have hqW : q < W.heap.size := (Array.getElem?_eq_some_iff.1 hbx).1
    have hb' := hb.trans (hf.below (fun k hk => (hF k hk).1) hb.size)
    have hz' : Zero w' z := hf.blk hz (fun hk => (hF z hk).2.1 rfl)
    have hbx' : w'.heap[q]? = some bx := hf.blk hbx (fun hk => (hF q hk).2.2 rfl)
    have hRw : RAt G w' g2 room s := hR.foot hf (fun k hk hFk => hFG k hFk hk)
    have hF2 : ∀ k, F' k → w0.heap.size ≤ k ∧ k ≠ z ∧ k ≠ q := by
      intro k hk
      rcases hF' k hk with h | h
      · exact hF k h
      · have := hb.size; exact ⟨by omega, by omega, by omega⟩
    have hFG2 : ∀ k, F' k → ¬ G k := by
      intro k hk hGk
      rcases hF' k hk with h | h
      · exact hFG k h hGk
      · have := hR.2.1 k hGk; omega
    have hP : PR w0 w' z q bx (some ⟨g1, 0, none⟩) (some ⟨g2, 0, none⟩) room (some (openF s).2.2) (some s) := ⟨hbx', hb', hz', hzb, i1.open_, i2, g1, g2, F', G, rfl, rfl, hD', hRw, hF2, hG, hFG2⟩
    refine ⟨out, he, hr, hP, fun t ht => ?_⟩
    injection ht with ht
    subst ht
    refine ⟨g2, G, rfl, hRw, i2, hR.2.1, ?_⟩
    rintro W' t' i2' ⟨hf2, G', hG', hR'⟩
    have hzW' : z < w'.heap.size := (Array.getElem?_eq_some_iff.1 hz').1
    have hqW' : q < w'.heap.size := (Array.getElem?_eq_some_iff.1 hbx').1
    refine ⟨hf2.blk hbx' (fun hk => (hG q hk).2.2 rfl), hb'.trans (hf2.below (fun k hk => (hG k hk).1) hb'.size), hf2.blk hz' (fun hk => (hG z hk).2.1 rfl), hzb, i1.open_, i2', g1, g2, F', G', rfl, rfl, DiskAt.foot hD' hf2 (fun k hk hGk => hFG2 k hk hGk), hR', hF2, ?_, ?_⟩
    · intro k hk
      rcases hG' k hk with h | h
      · exact hG k h
      · have := hb'.size; exact ⟨by omega, by omega, by omega⟩
    · intro k hk hGk
      rcases hG' k hGk with h | h
      · exact hFG2 k hk h
      · have := hD'.2.1 k hk; omega
def ROp2 (w0 W V : World) (z q : Nat) (bx : Obj) (d r : Option Addr) (room : Int) (S : Option DSt) (o : Value) (l : List (List Int)) (e : Ending) (w' : World) : Prop :=
  ∃ out, e = .returned (.tuple #[out, .int .i64 (oOpen S).1]) ∧ RowsAt w' V.heap.size out (oOpen S).2.1 ∧ RowsAt w' W.heap.size o l ∧ PR w0 w' z q bx d r room (oOpen S).2.2 (oOpen S).2.2
theorem rOpen2 {V : World} {o : Value} {l : List (List Int)} (hP : PR w0 V z q bx d r room (oOpen S).2.2 S) (hrows : RowsAt V W.heap.size o l) (hK : ∀ t, S = some t → ∃ g G, r = some ⟨g, 0, none⟩ ∧ RAt G V g room t ∧ Inv room t ∧ (∀ k, G k → k < W.heap.size) ∧ ∀ W'' t', Inv room t' → RTo G V W'' g room t' → PR w0 W'' z q bx d r room (oOpen S).2.2 (some t')) :
    Calls Try.prog 19 #[.pointer r] V (ROp2 w0 W V z q bx d r room S o l) := by
  cases S with
  | none =>
    obtain ⟨rfl, _⟩ := hP.nr
    exact rnil_open.mono fun e w' ⟨he, hw⟩ => ⟨_, he, RowsAt.nil _ _, hw ▸ hrows, hw ▸ hP⟩
  | some t =>
    obtain ⟨g, G, rfl, hR, hi, hG, hto⟩ := hK t rfl
    refine (R_open hR hi).mono ?_
    rintro e w' ⟨out, he, hr, ht⟩
    exact ⟨out, he, hr, hrows.map (fun q cs t hq hh => ht.1.blk hh (fun hGq => by have := hG q hGq; omega)), hto w' _ hi.open_ ht⟩
end
end Go.Proofs.Ytkngnoimjpeolaa
