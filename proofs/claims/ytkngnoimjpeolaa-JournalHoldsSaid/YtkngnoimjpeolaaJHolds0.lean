/-
  What the law JournalHolds keeps: a disk, and the records that are wanted.
-/
import Derived.Test.YtkngnoimjpeolaaJRows
set_option linter.unusedVariables false
set_option linter.unusedSimpArgs false
namespace Go.Proofs.Ytkngnoimjpeolaa
open Go.RowKit SumsMath

def zT : List Int × Int := ([], 0)
/-- A slice of turns that is read. -/
def ReadsTurns (w : World) (A : Option Addr) (n : Nat) (ts : List (List Int × Int)) : Prop :=
  ts.length = n ∧ n ≤ 9223372036854775807 ∧ (0 < n → ∃ b off, A = some ⟨b, off, none⟩ ∧ b < w.heap.size ∧ ∀ j, j < n → ∃ B d,
    w.cell? ⟨b, off + j * 2, none⟩ = some (.slice B (ts.getD j zT).1.length d) ∧ w.cell? ⟨b, off + j * 2 + 1, none⟩ = some (.int .i64 (ts.getD j zT).2) ∧
    (ts.getD j zT).1.length ≤ d ∧ (ts.getD j zT).1.length ≤ 140737488351232 ∧ Reads w .u8 B (ts.getD j zT).1.length (ts.getD j zT).1)
def keepT (t : List Int × Int) : Bool := gd t.1 && (decide (t.2 < 0) || decide ((t.1.length : Int) + 8 ≤ t.2))
/-- The records that are there behind the first k turns. -/
def wl (ts : List (List Int × Int)) (k : Nat) : List (List Int) := ((ts.take k).filter keepT).map Prod.fst
theorem wl_succ (ts : List (List Int × Int)) (k : Nat) (h : k < ts.length) : wl ts (k + 1) = wl ts k ++ (if keepT (ts.getD k zT) then [(ts.getD k zT).1] else []) := by
  unfold wl
  rw [List.take_succ_eq_append_getElem h, List.filter_append, List.map_append]
  congr 1
  simp only [List.getD_eq_getElem?_getD, List.getElem?_eq_getElem h, Option.getD_some, List.filter_cons, List.filter_nil]
  split <;> rfl
theorem wl_yes (ts : List (List Int × Int)) (k : Nat) (h : k < ts.length) (hg : keepT (ts.getD k zT) = true) : wl ts (k + 1) = wl ts k ++ [(ts.getD k zT).1] := by rw [wl_succ ts k h, if_pos hg]
theorem wl_no (ts : List (List Int × Int)) (k : Nat) (h : k < ts.length) (hg : keepT (ts.getD k zT) = false) : wl ts (k + 1) = wl ts k := by rw [wl_succ ts k h, hg]; simp
theorem wl_mem (ts : List (List Int × Int)) (k : Nat) : ∀ x ∈ wl ts k, gd x = true ∧ ∃ j, j < ts.length ∧ x = (ts.getD j zT).1 := by
  intro x hx
  obtain ⟨t, ht, rfl⟩ := List.mem_map.1 hx
  obtain ⟨h1, h2⟩ := List.mem_filter.1 ht
  obtain ⟨j, hj, rfl⟩ := List.mem_iff_getElem.1 (List.mem_of_mem_take h1)
  unfold keepT at h2
  rw [Bool.and_eq_true] at h2
  exact ⟨h2.1, j, hj, by rw [List.getD_eq_getElem?_getD, List.getElem?_eq_getElem hj]; rfl⟩
theorem wl_good (ts : List (List Int × Int)) (k : Nat) (hb : ∀ j, j < ts.length → Bytes (ts.getD j zT).1) : (∀ x ∈ wl ts k, JMath.good (sumF 2) x) ∧ ∀ x ∈ wl ts k, Bytes x := by
  refine ⟨fun x hx => ?_, fun x hx => ?_⟩
  · obtain ⟨h1, j, hj, rfl⟩ := wl_mem ts k x hx
    have h3 : 1 ≤ _ ∧ _ ≤ 65537 := of_decide_eq_true h1
    have h5 := sumF_bd 2 _ (hb j hj)
    exact ⟨h3.1, h3.2, h5.1, h5.2⟩
  · obtain ⟨h1, j, hj, rfl⟩ := wl_mem ts k x hx
    exact hb j hj
def tlen (ts : List (List Int × Int)) : Nat := (ts.map fun t => t.1.length).sum
theorem tlen_take (ts : List (List Int × Int)) (k : Nat) (h : k < ts.length) : tlen (ts.take (k + 1)) = tlen (ts.take k) + (ts.getD k zT).1.length := by
  unfold tlen
  rw [List.take_succ_eq_append_getElem h, List.map_append, List.sum_append]
  simp [List.getD_eq_getElem?_getD, List.getElem?_eq_getElem h]
theorem wl_total (ts : List (List Int × Int)) (k : Nat) : JMath.total (wl ts k) ≤ 8 * ts.length + tlen ts := by
  unfold wl tlen
  have key : ∀ l : List (List Int × Int), JMath.total ((l.filter keepT).map Prod.fst) ≤ 8 * l.length + (l.map fun t => t.1.length).sum := by
    intro l
    induction l with
    | nil => simp [JMath.total]
    | cons x l ih =>
      rw [List.filter_cons]
      split
      · simp only [List.map_cons, JMath.total, List.length_cons, List.sum_cons]; omega
      · simp only [List.length_cons, List.map_cons, List.sum_cons]; omega
  have h1 := key (ts.take k)
  have h2 : ((ts.take k).map fun t => t.1.length).sum ≤ (ts.map fun t => t.1.length).sum := by
    conv => rhs; rw [← List.take_append_drop k ts, List.map_append, List.sum_append]
    exact Nat.le_add_right _ _
  have h3 := List.length_take_le' k ts
  omega
theorem wl_len (ts : List (List Int × Int)) (k : Nat) : (wl ts k).length ≤ k := by
  unfold wl
  rw [List.length_map]
  exact Nat.le_trans (List.length_filter_le _ _) (List.length_take_le _ _)
theorem tlen_le (ts : List (List Int × Int)) (k : Nat) (h : k < ts.length) : (ts.getD k zT).1.length ≤ tlen ts := by
  have h1 := tlen_take ts k h
  have h2 : tlen (ts.take (k + 1)) ≤ tlen ts := by
    unfold tlen
    conv => rhs; rw [← List.take_append_drop (k + 1) ts, List.map_append, List.sum_append]
    exact Nat.le_add_right _ _
  omega

/-- What is read behind a failure. -/
theorem recs_fail (l : List (List Int)) (x : List Int) (k : Nat) (hg : ∀ y ∈ l, JMath.good (sumF 2) y) (hx : JMath.good (sumF 2) x) :
    JMath.recsF (sumF 2) (JMath.flat (sumF 2) l ++ (frm x).take k) = (if 8 + x.length ≤ k then l ++ [x] else l) ∧
    (JMath.flat (sumF 2) l ++ (frm x).take k).take (JMath.total (if 8 + x.length ≤ k then l ++ [x] else l)) = JMath.flat (sumF 2) (if 8 + x.length ≤ k then l ++ [x] else l) := by
  have hfx : (frm x).length = 8 + x.length := JMath.frame_length (sumF 2) x
  by_cases h : 8 + x.length ≤ k
  · rw [if_pos h, List.take_of_length_le (by omega), ← flat_push]
    have hall : ∀ y ∈ l ++ [x], JMath.good (sumF 2) y := fun y hy => by
      rcases List.mem_append.1 hy with h | h
      · exact hg y h
      · rw [List.mem_singleton.1 h]; exact hx
    exact ⟨JMath.recsF_all (sumF 2) _ hall, List.take_of_length_le (by rw [JMath.flat_length]; exact Nat.le_refl _)⟩
  · rw [if_neg h]
    refine ⟨JMath.recsF_flat (sumF 2) l _ (JMath.step_part (sumF 2) x k (by omega) hx) hg, ?_⟩
    rw [← JMath.flat_length (sumF 2) l, List.take_left]

theorem bytes_fail (l : List (List Int)) (x : List Int) (k : Nat) (hg : ∀ y ∈ l, JMath.good (sumF 2) y) (hb : ∀ y ∈ l, Bytes y) (hx : JMath.good (sumF 2) x) (hxb : Bytes x) : Bytes (JMath.flat (sumF 2) l ++ (frm x).take k) := by
  have e : JMath.flat (sumF 2) l ++ (frm x).take k = (JMath.flat (sumF 2) (l ++ [x])).take ((JMath.flat (sumF 2) l).length + k) := by
    rw [flat_push, List.take_length_add_append]
  rw [e]
  refine bytes_take (Reads.bytes_flat (fun y hy => ?_) (fun y hy => ?_)) _
  · rcases List.mem_append.1 hy with h | h
    · exact hg y h
    · rw [List.mem_singleton.1 h]; exact hx
  · rcases List.mem_append.1 hy with h | h
    · exact hb y h
    · rw [List.mem_singleton.1 h]; exact hxb
theorem good_of (x : List Int) (h1 : 1 ≤ x.length) (h2 : x.length ≤ 65537) (hb : Bytes x) : JMath.good (sumF 2) x := by
  have h5 := sumF_bd 2 _ hb
  exact ⟨h1, h2, h5.1, h5.2⟩
def HK (w W : World) (g : Nat) (bs : List Int) (off : Bool) (fl : Option Int) (v : Value) (l : List (List Int)) : Prop :=
  ∃ F : Nat → Prop, (∀ k, F k → w.heap.size ≤ k) ∧ DiskAt F W g 16777216 bs off fl ∧ WantAt w W w.heap.size v l ∧ (∀ k, v.ownBlock = some k → ¬ F k) ∧ Below w.heap.size w W
section
variable {w W W' : World} {g : Nat} {bs bs' xs : List Int} {off off' : Bool} {fl fl' : Option Int} {v v1 : Value} {l l' : List (List Int)} {A : Option Addr} {m c : Nat} {F : Nat → Prop}
theorem HK.below (h : HK w W g bs off fl v l) : Below w.heap.size w W := by obtain ⟨F, _, _, _, _, h⟩ := h; exact h
theorem HK.wn (h : HK w W g bs off fl v l) : WantAt w W w.heap.size v l := by obtain ⟨F, _, _, h, _, _⟩ := h; exact h
theorem HK.to (hF : ∀ k, F k → w.heap.size ≤ k) (hlt : ∀ k, F k → k < W.heap.size) (hW : WantAt w W w.heap.size v l) (hne : ∀ k, v.ownBlock = some k → ¬ F k) (hB : Below w.heap.size w W) (ht : DiskTo F W W' g 16777216 bs' off' fl') : HK w W' g bs' off' fl' v l := by
  obtain ⟨hf, F', hF', hD'⟩ := ht
  obtain ⟨vs, hv1, hv2⟩ := hW
  refine ⟨F', fun k hk => (hF' k hk).elim (hF k) (fun h => Nat.le_trans hB.size h), hD', ⟨vs, own_map hv1 (fun q cs t _ hq hh => hf.blk hh (hne q hq)), hv2⟩, fun k hk hk' => ?_, hB.trans (hf.below hF hB.size)⟩
  rcases hF' k hk' with h | h
  · exact hne k hk h
  · have := (own_lt hv1 hk).2; omega
theorem HK.later (h : HK w W g bs off fl v l) (hb : Below W.heap.size W W') : HK w W' g bs off fl v l := by
  obtain ⟨F, hF, hD, hW, hne, hB⟩ := h
  exact HK.to hF hD.2.1 hW hne hB (DiskTo.same hD hb)
theorem HK.want (h : HK w W g bs off fl v l) (hW' : WantAt w W' w.heap.size v1 l') (hg : W.grownBy W' v.ownBlock) (hat : v1.ownBlock = v.ownBlock ∨ v1.ownBlock = some W.heap.size) : HK w W' g bs off fl v1 l' := by
  obtain ⟨F, hF, hD, ⟨vs, hv1, hv2⟩, hne, hB⟩ := h
  refine ⟨F, hF, hD.foot ((Foot.refl (fun k => v.ownBlock = some k) W).grown hg (fun k e => .inl e)) (fun k hk e => hne k e hk), hW', fun k hk hFk => ?_, hB.trans (own_grown hv1 hg hB.size)⟩
  rcases hat with e | e
  · exact hne k (e.symm.trans hk) hFk
  · rw [e] at hk; injection hk with hk; have := hD.2.1 k hFk; omega
theorem HK.add (h : HK w W g bs false none v l) (hx : Bytes xs) (HR : Reads W .u8 A m xs) (h1 : 1 ≤ m) (h2 : m ≤ 65537) (hroom : 8 + (m : Int) ≤ 16777216 - (bs.length : Int)) :
    Calls Try.prog 13 #[.pointer (some ⟨g, 0, none⟩), .slice A m c] W fun e w' => e = .returned (.int .i64 0) ∧ HK w w' g (bs ++ frm xs) false none v l := by
  obtain ⟨F, hF, hD, hW, hne, hB⟩ := h
  exact (Add_ok hD hx HR h1 h2 (by decide) (by decide) hroom).mono fun e w' ⟨he, ht⟩ => ⟨he, HK.to hF hD.2.1 hW hne hB ht⟩
theorem HK.addFail {n : Int} (h : HK w W g bs false (some n) v l) (hx : Bytes xs) (HR : Reads W .u8 A m xs) (h1 : 1 ≤ m) (h2 : m ≤ 65537) (hroom : 8 + (m : Int) ≤ 16777216 - (bs.length : Int)) :
    Calls Try.prog 13 #[.pointer (some ⟨g, 0, none⟩), .slice A m c] W fun e w' => e = .returned (.int .i64 13) ∧ HK w w' g (bs ++ (frm xs).take n.toNat) true none v l := by
  obtain ⟨F, hF, hD, hW, hne, hB⟩ := h
  exact (Add_fail hD hx HR h1 h2 (by decide) (by decide) hroom).mono fun e w' ⟨he, ht⟩ => ⟨he, HK.to hF hD.2.1 hW hne hB ht⟩
theorem HK.addBad (h : HK w W g bs false fl v l) (hm : m ≤ 9223372036854775807) (hb : m < 1 ∨ 65537 < m) :
    Calls Try.prog 13 #[.pointer (some ⟨g, 0, none⟩), .slice A m c] W fun e w' => e = .returned (.int .i64 1) ∧ w' = W := by
  obtain ⟨F, hF, hD, hW, hne, hB⟩ := h
  exact Add_bad hD hm hb (by decide)
theorem HK.fail {n : Int} (h : HK w W g bs false fl v l) (hn : 0 ≤ n) :
    Calls Try.prog 14 #[.pointer (some ⟨g, 0, none⟩), .int .i64 n] W fun e w' => e = .returned (.int .i64 0) ∧ HK w w' g bs false (some n) v l := by
  obtain ⟨F, hF, hD, hW, hne, hB⟩ := h
  exact (Fail_ok hD (by decide) hn).mono fun e w' ⟨he, ht⟩ => ⟨he, HK.to hF hD.2.1 hW hne hB ht⟩
theorem HK.up (h : HK w W g bs off fl v l) :
    Calls Try.prog 15 #[.pointer (some ⟨g, 0, none⟩)] W fun e w' => e = .returned (.int .i64 0) ∧ HK w w' g bs false none v l := by
  obtain ⟨F, hF, hD, hW, hne, hB⟩ := h
  exact (Up_ok hD (by decide)).mono fun e w' ⟨he, ht⟩ => ⟨he, HK.to hF hD.2.1 hW hne hB ht⟩
def HOpened (w W : World) (g : Nat) (bs : List Int) (fl : Option Int) (v : Value) (l : List (List Int)) (e : Ending) (w' : World) : Prop :=
  ∃ out, e = .returned (.tuple #[out, .int .i64 0]) ∧ RowsAt w' W.heap.size out (JMath.recsF (sumF 2) bs) ∧ HK w w' g (bs.take (JMath.total (JMath.recsF (sumF 2) bs))) false fl v l
theorem HK.open_ (h : HK w W g bs false fl v l) (hx : Bytes bs) (hm : bs.length ≤ 16777216) :
    Calls Try.prog 16 #[.pointer (some ⟨g, 0, none⟩)] W (HOpened w W g bs fl v l) := by
  obtain ⟨F, hF, hD, hW, hne, hB⟩ := h
  exact (Open_ok hD hx (by decide) hm).mono fun e w' ⟨out, he, hr, ht⟩ => ⟨out, he, hr, HK.to hF hD.2.1 hW hne hB ht⟩
/-- The disk is opened: so many records are read. -/
def HOp (w W : World) (g : Nat) (bs : List Int) (fl : Option Int) (v : Value) (l rs : List (List Int)) (e : Ending) (w' : World) : Prop :=
  ∃ A c, e = .returned (.tuple #[.slice A rs.length c, .int .i64 0]) ∧ ReadsRows w' A rs.length rs ∧ HK w w' g bs false fl v l
theorem HK.openTo {rs : List (List Int)} (h : HK w W g bs false fl v l) (hx : Bytes bs) (hm : bs.length ≤ 16777216) (hg : ∀ y ∈ rs, JMath.good (sumF 2) y) (hr : JMath.recsF (sumF 2) bs = rs) (ht : bs.take (JMath.total rs) = bs') :
    Calls Try.prog 16 #[.pointer (some ⟨g, 0, none⟩)] W (HOp w W g bs' fl v l rs) := by
  refine (h.open_ hx hm).mono fun e w' ⟨out, he, hr', hk⟩ => ?_
  rw [hr] at hr' hk
  rw [ht] at hk
  obtain ⟨A, c, rfl, _, hR⟩ := hr'.reads (fun y hy => by have := (hg y hy).2.1; omega)
  exact ⟨A, c, he, hR, hk⟩
theorem HK.reads {W : World} {A : Option Addr} {n c : Nat} (h : HK w W g bs off fl (.slice A n c) l) : n = l.length ∧ ReadsRows W A l.length l := by
  obtain ⟨A2, c2, hv, _, hR⟩ := h.wn.reads h.below
  injection hv with h1 h2 h3
  subst h1
  exact ⟨h2, hR⟩
theorem HK.openAfter {x : List Int} {f : Int} (hl : ∀ y ∈ l, JMath.good (sumF 2) y) (hlb : ∀ y ∈ l, Bytes y) (hx : JMath.good (sumF 2) x) (hxb : Bytes x) (hm : (JMath.flat (sumF 2) l).length ≤ 1800000) (rs : List (List Int)) (hrs : (if 8 + x.length ≤ f.toNat then l ++ [x] else l) = rs)
    (h : HK w W g (JMath.flat (sumF 2) l ++ (frm x).take f.toNat) false fl v l') : Calls Try.prog 16 #[.pointer (some ⟨g, 0, none⟩)] W (HOp w W g (JMath.flat (sumF 2) rs) fl v l' rs) := by
  obtain ⟨h1, h2⟩ := recs_fail l x f.toNat hl hx
  rw [hrs] at h1 h2
  have hlx : (frm x).length = 8 + x.length := JMath.frame_length (sumF 2) x
  refine h.openTo (bytes_fail l x _ hl hlb hx hxb) ?_ ?_ h1 h2
  · rw [List.length_append, List.length_take]
    have := hx.2.1
    omega
  · rw [← hrs]
    intro y hy
    split at hy
    · rcases List.mem_append.1 hy with h | h
      · exact hl y h
      · rw [List.mem_singleton.1 h]; exact hx
    · exact hl y hy
theorem HK.new (w W : World) (hB : Below w.heap.size w W) :
    Calls Try.prog 12 #[.int .i64 16777216] W fun e w' => e = .returned (.tuple #[.pointer (some ⟨W.heap.size, 0, none⟩), .int .i64 0]) ∧ HK w w' W.heap.size [] false none (.slice none 0 0) [] :=
  (New_ok 16777216 W (by decide) (by decide)).mono fun e w' ⟨he, hD, hb⟩ => ⟨he, _, fun k hk => by rw [hk]; exact hB.size, hD, WantAt.nil _ _ _, (fun k hk => by cases hk), hB.trans (hb.mono hB.size)⟩
end
end Go.Proofs.Ytkngnoimjpeolaa
