/-
  A book of bytes and blobs beside the lists that are not kept yet: those lie below S0, the book's own blocks from S0 on.
-/
import Derived.Test.YtdgilloblfbklaaGreatDoorB2A
import Derived.Test.YtdgilloblfbklaaGreatDoorB2KB
set_option linter.unusedVariables false
set_option linter.unusedSimpArgs false
namespace Go.Proofs.YtdgilloblfbklaaGreatDoor
open Go.RowKit

theorem wpList_seen {P : Program} {ops : Array Oper} {rest : List Oper} {a : Act} {Q : Exit → Act → World → Prop} {W : World} (h : ∀ V, V = W → wpList P ops Q rest a V) : wpList P ops Q rest a W := h W rfl
theorem own_base' {W : World} {base base' n : Nat} {e : TypeId} {size : Nat} {v : Value} {xs : List Value} (ho : W.ownsRow base e size v n xs) (hb : base' ≤ base) : W.ownsRow base' e size v n xs := by
  refine ⟨ho.1, ho.2.elim .inl ?_⟩
  rintro ⟨g, cap, cur, h1, h2, r⟩
  exact .inr ⟨g, cap, cur, h1, Nat.le_trans hb h2, r⟩
theorem own_ltb {w : World} {base n : Nat} {e : TypeId} {size : Nat} {v : Value} {xs : List Value} (h : w.ownsRow base e size v n xs) : ∀ k, v.ownBlock = some k → base ≤ k ∧ k < w.heap.size := fun k hk => own_lt' h hk
theorem bytes_keep (base b N : Nat) (row blob : Value) (ps : List (Value × Value)) (no : Nat → Nat) (F : Nat → Nat → Prop) (A : Option Addr) (n c : Nat) (Fv : Nat → Prop) (W : World) (h : Bk 2 79 W base b (bookCells N row blob) row ps no F) (hN : ps.length ≤ 1000000000) (hNN : N ≤ 100000000000)
    (h1 : ∀ k, Fv k → base ≤ k ∧ k < W.heap.size ∧ k ≠ b ∧ row.ownBlock ≠ some k) (h2 : ∀ i k, F i k → ¬ Fv k) :
    Calls Tryz.prog 9 #[.pointer (some ⟨b, 0, none⟩), .slice A n c] W (Kept 2 79 base b N (fun r => bookCells (N + 1) r blob) row (.slice A n c) ps no F Fv W) := by
  have HK := aside' (keep_any base b N row blob ps no F A n c Fv W h hN hNN h1 h2)
  clear h h1 h2
  go_enter Tryz.func9, Tryz.ntmps9
  go_wp2_with fail
  refine Calls.mono HK.out ?_
  rintro e w' ⟨⟨u, rfl⟩, hk⟩
  go_wp2
  go_end0
  exact ⟨⟨_, rfl⟩, hk⟩
structure HBs (S0 : Nat) (W : World) (base b N : Nat) (K : Nat → Prop) (row blob : Value) (ps : List (Value × Value)) (no ns : Nat → Nat) (F : Nat → Nat → Prop) (qs : List (Value × Value)) (no2 ns2 : Nat → Nat) (F2 : Nat → Nat → Prop) : Prop where
  bk : Bk 2 79 W base b (bookCells N row blob) row ps no F
  bb : Bk 5 81 W base b (bookCells N row blob) blob qs no2 F2
  rr : ∀ k, row.ownBlock = some k → blob.ownBlock ≠ some k
  ff : ∀ i k, F i k → ∀ j, ¬ F2 j k
  fi : Fill W base ps no ns F 0
  fb : ∀ j p, qs[j]? = some p → p.2 = .slice none 0 0 ∧ ∃ vs : List Value, W.ownsRow base 22 1 p.1 (ns2 j) vs ∧ ∀ k, p.1.ownBlock = some k → F2 j k
  hn : ∀ j, ns j ≤ 140737488355200
  hn2 : ∀ j, ns2 j ≤ 1000000000000
  lp : ps.length ≤ N
  lq : qs.length ≤ N
  SW : S0 ≤ W.heap.size
  bS : S0 ≤ b
  rS : ∀ q, row.ownBlock = some q → S0 ≤ q
  oS : ∀ q, blob.ownBlock = some q → S0 ≤ q
  fK : ∀ i q, F i q → K q ∧ q < S0
  gK : ∀ i q, F2 i q → K q ∧ q < S0
/-- A book that keeps lists of the blocks K (all below S0). -/
def HBk (S0 : Nat) (W : World) (base b N : Nat) (K : Nat → Prop) : Prop := ∃ row blob ps no ns F qs no2 ns2 F2, HBs S0 W base b N K row blob ps no ns F qs no2 ns2 F2
section
variable {S0 : Nat} {W W' : World} {base b N : Nat} {K K' : Nat → Prop}
theorem HBk.mono (h : HBk S0 W base b N K) (hK : ∀ q, K q → K' q) : HBk S0 W base b N K' := by
  obtain ⟨row, blob, ps, no, ns, F, qs, no2, ns2, F2, h⟩ := h
  exact ⟨row, blob, ps, no, ns, F, qs, no2, ns2, F2, h.bk, h.bb, h.rr, h.ff, h.fi, h.fb, h.hn, h.hn2, h.lp, h.lq, h.SW, h.bS, h.rS, h.oS, fun i q hq => ⟨hK q (h.fK i q hq).1, (h.fK i q hq).2⟩, fun i q hq => ⟨hK q (h.gK i q hq).1, (h.gK i q hq).2⟩⟩
theorem HBk.later (h : HBk S0 W base b N K) (hb : Below W.heap.size W W') : HBk S0 W' base b N K := by
  obtain ⟨row, blob, ps, no, ns, F, qs, no2, ns2, F2, h⟩ := h
  have hf := Foot.ofBelow hb (fun _ => False)
  refine ⟨row, blob, ps, no, ns, F, qs, no2, ns2, F2, h.bk.foot hf (fun h => h) (fun _ _ h => h), h.bb.foot hf (fun h => h) (fun _ _ h => h), h.rr, h.ff, h.fi.foot hf (fun _ _ _ h => h), fun j p hp => ?_, h.hn, h.hn2, h.lp, h.lq, Nat.le_trans h.SW hb.size, h.bS, h.rS, h.oS, h.fK, h.gK⟩
  obtain ⟨h1, vs, h2, h3⟩ := h.fb j p hp
  exact ⟨h1, vs, own_foot h2 hf (fun _ _ h => h), h3⟩
/-- One list of bytes more. -/
theorem HBk.keep {A : Option Addr} {n c base2 : Nat} {xs : List Int} (h : HBk S0 W base b N K) (hN : N ≤ 1000000000) (hb2 : base ≤ base2) (ho : W.ownsRow base2 5 1 (.slice A n c) n (nums .u8 xs)) (hn : n ≤ 140737488355200) (hz : ∀ q, (Value.slice A n c).ownBlock = some q → ¬ K q ∧ q < S0) :
    Calls Tryz.prog 9 #[.pointer (some ⟨b, 0, none⟩), .slice A n c] W fun e w' => (∃ u, e = .returned u) ∧ HBk S0 w' base b (N + 1) (fun q => K q ∨ (Value.slice A n c).ownBlock = some q) ∧ Foot (fun q => S0 ≤ q) W w' := by
  obtain ⟨row, blob, ps, no, ns, F, qs, no2, ns2, F2, h⟩ := h
  have hlt := own_ltb ho
  have hlp := h.lp
  have hSW := h.SW
  refine (bytes_keep base b N row blob ps no F A n c (fun q => (Value.slice A n c).ownBlock = some q) W h.bk (by omega) (by omega) (fun q hq => ⟨Nat.le_trans hb2 (hlt q hq).1, (hlt q hq).2, fun e => by have := (hz q hq).2; have := h.bS; omega, fun e => by have := (hz q hq).2; have := h.rS q e; omega⟩) (fun i q hq hv => (hz q hv).1 (h.fK i q hq).1)).mono ?_
  rintro e w' ⟨hu, row', hk, hf, hr⟩
  have hr' : ∀ q, row'.ownBlock = some q → S0 ≤ q := fun q hq => (hr q hq).elim (h.rS q) (fun e => by omega)
  have hfS : Foot (fun q => S0 ≤ q) W w' := hf.mono (fun q _ hq => hq.elim (fun e => by rw [e]; exact h.bS) (h.rS q))
  refine ⟨hu, ⟨row', blob, ps ++ [(.slice A n c, .slice none 0 0)], noNext no ps.length N, (fun j => if j = ps.length then n else ns j), _, qs, no2, ns2, F2, hk, ⟨hk.hb, rfl, own_foot h.bb.hr hf (fun k hk' e => e.elim (fun e => h.bb.rb (by rw [hk', e])) (fun e => h.rr k e hk')), h.bb.nb, h.bb.rb, h.bb.bb, fun i k hk' => ⟨(h.bb.fl i k hk').1, Nat.lt_of_lt_of_le (h.bb.fl i k hk').2.1 hf.size, (h.bb.fl i k hk').2.2⟩, h.bb.fd⟩, ?_, ?_, ?_, ?_, ?_, h.hn2, ?_, Nat.le_trans h.lq (Nat.le_succ _), Nat.le_trans hSW hf.size, h.bS, hr', h.oS, ?_, fun i q hq => ⟨.inl (h.gK i q hq).1, (h.gK i q hq).2⟩⟩, hfS⟩
  · intro k hk' e
    rcases hr k hk' with h' | h'
    · exact h.rr k h' e
    · have := (own_lt' h.bb.hr e).2; omega
  · rintro i k (hk' | ⟨_, hk'⟩) j hj
    · exact h.ff i k hk' j hj
    · exact (hz k hk').1 (h.gK j k hj).1
  · intro j p hp
    rcases Nat.lt_or_ge j ps.length with hj | hj
    · rw [List.getElem?_append_left hj] at hp
      obtain ⟨h1, _, h3⟩ := h.fi j p hp
      refine ⟨h1, fun h => by omega, fun _ => ?_⟩
      show L1 w' base _ p.1 (if j = ps.length then n else ns j)
      rw [if_neg (by omega)]
      obtain ⟨zs, e1, e2⟩ := (h3 (Nat.zero_le _)).foot hf (fun q hq hq' => by have := (h.fK j q hq).2; have := h.bS; exact hq'.elim (fun e => by omega) (fun e => by have := h.rS q e; omega))
      exact ⟨zs, e1, fun q hq => .inl (e2 q hq)⟩
    · rw [List.getElem?_append_right hj] at hp
      have hj0 : j = ps.length := by
        rcases Nat.eq_or_lt_of_le hj with e | h
        · exact e.symm
        · rw [List.getElem?_eq_none (by simp; omega)] at hp; cases hp
      subst hj0
      simp at hp
      subst hp
      refine ⟨rfl, fun h => by omega, fun _ => ?_⟩
      show L1 w' base _ (.slice A n c) (if ps.length = ps.length then n else ns ps.length)
      rw [if_pos rfl]
      exact ⟨xs, own_foot (own_base' ho hb2) hfS (fun q hq hq' => by have := (hz q hq).2; omega), fun q hq => .inr ⟨rfl, hq⟩⟩
  · intro j p hp
    obtain ⟨h1, vs, h2, h3⟩ := h.fb j p hp
    exact ⟨h1, vs, own_foot h2 hfS (fun q hq hq' => by have := (h.gK j q (h3 q hq)).2; omega), h3⟩
  · intro j
    split
    · exact hn
    · exact h.hn j
  · simp only [List.length_append, List.length_singleton]; omega
  · rintro i q (hq | ⟨_, hq⟩)
    · exact ⟨.inl (h.fK i q hq).1, (h.fK i q hq).2⟩
    · exact ⟨.inr hq, (hz q hq).2⟩
/-- One blob more. -/
theorem HBk.keepB {A : Option Addr} {n c base2 : Nat} {vs : List Value} (h : HBk S0 W base b N K) (hN : N ≤ 1000000000) (hb2 : base ≤ base2) (ho : W.ownsRow base2 22 1 (.slice A n c) n vs) (hn : n ≤ 1000000000000) (hz : ∀ q, (Value.slice A n c).ownBlock = some q → ¬ K q ∧ q < S0) :
    Calls Tryz.prog 17 #[.pointer (some ⟨b, 0, none⟩), .slice A n c] W fun e w' => (∃ u, e = .returned u) ∧ HBk S0 w' base b (N + 1) (fun q => K q ∨ (Value.slice A n c).ownBlock = some q) ∧ Foot (fun q => S0 ≤ q) W w' := by
  obtain ⟨row, blob, ps, no, ns, F, qs, no2, ns2, F2, h⟩ := h
  have hlt := own_ltb ho
  have hlp := h.lq
  have hSW := h.SW
  refine (keepB_any base b N row blob qs no2 F2 A n c (fun q => (Value.slice A n c).ownBlock = some q) W h.bb (by omega) (by omega) (fun q hq => ⟨Nat.le_trans hb2 (hlt q hq).1, (hlt q hq).2, fun e => by have := (hz q hq).2; have := h.bS; omega, fun e => by have := (hz q hq).2; have := h.oS q e; omega⟩) (fun i q hq hv => (hz q hv).1 (h.gK i q hq).1)).mono ?_
  rintro e w' ⟨hu, blob', hk, hf, hr⟩
  have hr' : ∀ q, blob'.ownBlock = some q → S0 ≤ q := fun q hq => (hr q hq).elim (h.oS q) (fun e => by omega)
  have hfS : Foot (fun q => S0 ≤ q) W w' := hf.mono (fun q _ hq => hq.elim (fun e => by rw [e]; exact h.bS) (h.oS q))
  refine ⟨hu, ⟨row, blob', ps, no, ns, F, qs ++ [(.slice A n c, .slice none 0 0)], noNext no2 qs.length N, (fun j => if j = qs.length then n else ns2 j), _, ⟨hk.hb, rfl, own_foot h.bk.hr hf (fun k hk' e => e.elim (fun e => h.bk.rb (by rw [hk', e])) (fun e => h.rr k hk' e)), h.bk.nb, h.bk.rb, h.bk.bb, fun i k hk' => ⟨(h.bk.fl i k hk').1, Nat.lt_of_lt_of_le (h.bk.fl i k hk').2.1 hf.size, (h.bk.fl i k hk').2.2⟩, h.bk.fd⟩, hk, ?_, ?_, ?_, ?_, h.hn, ?_, Nat.le_trans h.lp (Nat.le_succ _), ?_, Nat.le_trans hSW hf.size, h.bS, h.rS, hr', fun i q hq => ⟨.inl (h.fK i q hq).1, (h.fK i q hq).2⟩, ?_⟩, hfS⟩
  · intro k hk' e
    rcases hr k e with h' | h'
    · exact h.rr k hk' h'
    · have := (own_lt' h.bk.hr hk').2; omega
  · rintro i k hk' j (hj | ⟨_, hj⟩)
    · exact h.ff i k hk' j hj
    · exact (hz k hj).1 (h.fK i k hk').1
  · exact h.fi.foot hfS (fun j q hq hq' => by have := (h.fK j q hq).2; omega)
  · intro j p hp
    rcases Nat.lt_or_ge j qs.length with hj | hj
    · rw [List.getElem?_append_left hj] at hp
      obtain ⟨h1, us, h2, h3⟩ := h.fb j p hp
      refine ⟨h1, us, ?_, fun k hk' => .inl (h3 k hk')⟩
      show w'.ownsRow base _ 1 p.1 (if j = qs.length then n else ns2 j) us
      rw [if_neg (by omega)]
      exact own_foot h2 hfS (fun q hq hq' => by have := (h.gK j q (h3 q hq)).2; omega)
    · rw [List.getElem?_append_right hj] at hp
      have hj0 : j = qs.length := by
        rcases Nat.eq_or_lt_of_le hj with e | h
        · exact e.symm
        · rw [List.getElem?_eq_none (by simp; omega)] at hp; cases hp
      subst hj0
      simp at hp
      subst hp
      refine ⟨rfl, vs, ?_, fun q hq => .inr ⟨rfl, hq⟩⟩
      show w'.ownsRow base _ 1 (.slice A n c) (if qs.length = qs.length then n else ns2 qs.length) vs
      rw [if_pos rfl]
      exact own_foot (own_base' ho hb2) hfS (fun q hq hq' => by have := (hz q hq).2; omega)
  · intro j
    split
    · exact hn
    · exact h.hn2 j
  · simp only [List.length_append, List.length_singleton]; omega
  · rintro i q (hq | ⟨_, hq⟩)
    · exact ⟨.inl (h.gK i q hq).1, (h.gK i q hq).2⟩
    · exact ⟨.inr hq, (hz q hq).2⟩
theorem HBk.apart (h : HBk S0 W base b N K) (hN : N ≤ 1000000000) :
    Calls Tryz.prog 11 #[.pointer (some ⟨b, 0, none⟩)] W fun e w' => e = .returned (.bool true) ∧ Below base W w' := by
  obtain ⟨row, blob, ps, no, ns, F, qs, no2, ns2, F2, h⟩ := h
  have hlp := h.lp
  have hlq := h.lq
  have hsep : Sep row F blob F2 := ⟨h.rr, fun k hk i e => by have := h.rS k hk; have := (h.gK i k e).2; omega, fun i k e hk => by have := h.oS k hk; have := (h.fK i k e).2; omega, h.ff⟩
  have hbs : base ≤ W.heap.size := Nat.le_of_lt (Nat.lt_of_le_of_lt h.bk.bb (Array.getElem?_eq_some_iff.1 h.bk.hb).1)
  refine (apart2_any base b N row blob ps no ns F qs no2 ns2 F2 W h.bk h.bb hsep (by omega) (by omega) h.hn h.hn2 h.fi (fun j p hp => ?_)).mono ?_
  · obtain ⟨h1, vs, h2, h3⟩ := h.fb j p hp
    exact ⟨h1, fun hj => by omega, fun _ => ⟨vs, h2, fun k hk => ⟨h3 k hk, (h.bb.fl j k (h3 k hk)).2.1⟩⟩⟩
  · rintro e w' ⟨he, hf⟩
    refine ⟨he, hf.below (fun q hq => ?_) hbs⟩
    rcases hq with hq | hq | ⟨i, hq⟩ | ⟨i, hq⟩
    · exact (own_lt' h.bk.hr hq).1
    · exact (own_lt' h.bb.hr hq).1
    · exact (h.bk.fl i q hq).1
    · exact (h.bb.fl i q hq).1
end
/-- An empty book. -/
theorem HBk.zero (W : World) (base : Nat) (hb : base ≤ W.heap.size) : HBk W.heap.size ((W.alloc (.cells (bookCells 0 (.slice none 0 0) (.slice none 0 0)) 60)).setRow W.heap.size (bookCells 0 (.slice none 0 0) (.slice none 0 0))) base W.heap.size 0 (fun _ => False) ∧
    Foot (fun _ => False) W ((W.alloc (.cells (bookCells 0 (.slice none 0 0) (.slice none 0 0)) 60)).setRow W.heap.size (bookCells 0 (.slice none 0 0) (.slice none 0 0))) := by
  have hf : Foot (fun _ => False) W ((W.alloc (.cells (bookCells 0 (.slice none 0 0) (.slice none 0 0)) 60)).setRow W.heap.size (bookCells 0 (.slice none 0 0) (.slice none 0 0))) :=
    ⟨rfl, rfl, rfl, by simp, fun k hk _ => (setRow_other _ _ k _ (by omega)).trans (Below.heap_alloc W _ k hk)⟩
  have hbk : ∀ ix ht, (bookCells 0 (.slice none 0 0) (.slice none 0 0))[ix]? = some (.slice none 0 0) → Bk ix ht ((W.alloc (.cells (bookCells 0 (.slice none 0 0) (.slice none 0 0)) 60)).setRow W.heap.size (bookCells 0 (.slice none 0 0) (.slice none 0 0))) base W.heap.size (bookCells 0 (.slice none 0 0) (.slice none 0 0)) (.slice none 0 0) [] (fun _ => 0) (fun _ _ => False) := fun ix ht h =>
    ⟨setRow_heap _ _ _ _ _ _ (heap_alloc_new W _), h, World.ownsRow_nil _ _ _ _, fun _ => by omega, by simp [Value.ownBlock], hb, fun _ _ h => h.elim, fun _ _ _ h => h.elim⟩
  refine ⟨⟨_, _, [], _, fun _ => 0, _, [], _, fun _ => 0, _, hbk 2 79 rfl, hbk 5 81 rfl, fun k hk => by simp [Value.ownBlock] at hk, fun _ _ h => h.elim, fun j p hp => by simp at hp, fun j p hp => by simp at hp, fun _ => by omega, fun _ => by omega, Nat.le_refl _, Nat.le_refl _, hf.size, Nat.le_refl _, fun q hq => by simp [Value.ownBlock] at hq, fun q hq => by simp [Value.ownBlock] at hq, fun _ _ h => h.elim, fun _ _ h => h.elim⟩, hf⟩
end Go.Proofs.YtdgilloblfbklaaGreatDoor
