/-
  A book of bytes: what is known while more is put behind a list.
-/
import Derived.Test.YtdgilloblfbklabGreatDoorB3F
set_option linter.unusedVariables false
set_option linter.unusedSimpArgs false
namespace Go.Proofs.YtdgilloblfbklabGreatDoor.Own
open Go.RowKit

theorem own_lt' {W : World} {base n : Nat} {e : TypeId} {size : Nat} {v : Value} {xs : List Value} (ho : W.ownsRow base e size v n xs) {g : Nat} (hg : v.ownBlock = some g) : base ≤ g ∧ g < W.heap.size := by
  rcases ho.2 with ⟨h1, _⟩ | ⟨g', cap, cur, h1, h2, h3, _⟩
  · rw [h1] at hg; cases hg
  · rw [h1] at hg; injection hg with hg; subst hg; exact ⟨h2, (Array.getElem?_eq_some_iff.1 h3).1⟩
theorem reads_keep {w w' : World} {k : IntKind} {A : Option Addr} {n : Nat} {xs : List Int} (h : Reads w k A n xs) (hk : ∀ ad, A = some ad → 0 < n → w'.heap[ad.block]? = w.heap[ad.block]?) : Reads w' k A n xs :=
  ⟨h.1, h.2.1, fun hn => by
    obtain ⟨ad, e, hc⟩ := h.2.2 hn
    exact ⟨ad, e, fun j hj => (World.cell?_of_block (by rw [add_block]; exact hk ad e hn)).trans (hc j hj)⟩⟩
/-- While more is put behind list v: long is a row of the law's own; either it lies in the list's own block, or in a new one, the list being as it was. -/
def GI (W0 : World) (base : Nat) (A : Option Addr) (n c : Nat) (mk : Int) (W : World) (long : Value) (m : Nat) : Prop :=
  FRow W base long (n + m) (List.replicate (n + m) mk) ∧ Foot (fun q => (Value.slice A n c).ownBlock = some q) W0 W ∧
    Reads W .u8 A n (List.replicate n mk) ∧ (long.ownBlock = (Value.slice A n c).ownBlock ∨ ∃ g, long.ownBlock = some g ∧ W0.heap.size ≤ g)
theorem GI.start {W0 : World} {base : Nat} {F : Nat → Prop} {A : Option Addr} {n c i : Nat} (h : L2 W0 base F (.slice A n c) n i) : GI W0 base A n c (mark i) W0 (.slice A n c) 0 :=
  ⟨by simpa using h.1, Foot.refl _ _, h.1.rd, .inl rfl⟩
theorem GI.step {W0 W W1 : World} {base : Nat} {A : Option Addr} {n c m : Nat} {mk : Int} {long v1 : Value} {o : Obj} (h : GI W0 base A n c mk W long m) (hA : ∀ k, (Value.slice A n c).ownBlock = some k → k < W0.heap.size) (hA2 : 0 < n → ∃ g, A = some ⟨g, 0, none⟩)
    (hown : FRow W1 base v1 (n + m + 1) (List.replicate (n + m) mk ++ [mk])) (hg : (W.alloc o).grownBy W1 long.ownBlock) (hat : v1.ownBlock = long.ownBlock ∨ (v1.ownBlock = some (W.alloc o).heap.size ∧ (W.alloc o).grownBy W1 none)) :
    GI W0 base A n c mk W1 v1 (m + 1) := by
  obtain ⟨h1, h2, h3, h4⟩ := h
  have hs := h2.size
  have e : List.replicate (n + m) mk ++ [mk] = List.replicate (n + (m + 1)) mk := by rw [← List.replicate_succ']; rfl
  rw [e] at hown
  have hft : Foot (fun q => (Value.slice A n c).ownBlock = some q) W0 W1 := (h2.alloc o).grown hg (fun k hk => by
    rcases h4 with h4 | ⟨g, h4, hge⟩
    · exact .inl (h4.symm.trans hk)
    · rw [h4] at hk; injection hk with hk; exact .inr (by omega))
  have hat2 : v1.ownBlock = (Value.slice A n c).ownBlock ∨ ∃ g, v1.ownBlock = some g ∧ W0.heap.size ≤ g := by
    rcases hat with h | ⟨h, _⟩
    · rw [h]; exact h4
    · exact .inr ⟨_, h, by simp; omega⟩
  refine ⟨hown, hft, ?_, hat2⟩
  rcases hat with hat | ⟨_, hn⟩
  · rcases h4 with h4 | ⟨g, h4, hge⟩
    · rcases Nat.eq_zero_or_pos n with h0 | h0
      · subst h0
        exact ⟨rfl, by omega, fun h => absurd h (by omega)⟩
      · obtain ⟨g, rfl⟩ := hA2 h0
        obtain ⟨g', c', hv, _⟩ := hown.some_ (by omega)
        have : g' = g := by
          have h5 := hat.trans h4
          rw [hv] at h5
          simpa [Value.ownBlock] using h5
        subst this
        subst hv
        have hr := hown.rd.take_ n (by omega)
        rwa [List.take_replicate, show min n (n + (m + 1)) = n by omega] at hr
    · refine reads_keep h3 (fun ad e' hn0 => ?_)
      obtain ⟨g2, hg2⟩ := hA2 hn0
      rw [hg2] at e'
      injection e' with e'
      subst e'
      have hlt := hA g2 (by rw [hg2]; rfl)
      rw [hg.block g2 (by simp; omega) (fun e' => by rw [h4] at e'; injection e' with e'; omega), Below.heap_alloc _ _ _ (by omega)]
  · refine reads_keep h3 (fun ad e' hn0 => ?_)
    obtain ⟨g2, hg2⟩ := hA2 hn0
    rw [hg2] at e'
    injection e' with e'
    subst e'
    have hlt := hA g2 (by rw [hg2]; rfl)
    rw [hn.block g2 (by simp; omega) (by simp), Below.heap_alloc _ _ _ (by omega)]
/-- The lists while they grow. -/
def Grow (W : World) (base : Nat) (ps : List (Value × Value)) (ns : Nat → Nat) (F : Nat → Nat → Prop) (k : Nat) : Prop :=
  ∀ j p, ps[j]? = some p → (j < k → L3 W base (F j) p.1 p.2 (ns j) j) ∧ (k ≤ j → p.2 = .slice none 0 0 ∧ L2 W base (F j) p.1 (ns j) j)
theorem L3.foot {W W' : World} {base n i : Nat} {F G : Nat → Prop} {v long : Value} (h : L3 W base F v long n i) (hf : Foot G W W') (hne : ∀ k, F k → ¬ G k) (hlt : ∀ k, F k → k < W.heap.size) : L3 W' base F v long n i := by
  obtain ⟨h1, h2, A, c, rfl, h3, h4, h5⟩ := h
  refine ⟨h1.foot hf (fun k hk => hne k (h2 k hk)), h2, A, c, rfl, h3, reads_keep h4 (fun ad e hn => ?_), h5⟩
  obtain ⟨g, hg, hF⟩ := h5 hn
  rw [hg] at e
  injection e with e
  subst e
  exact hf.block g (hlt g hF) (hne g hF)
theorem L3.mono {W : World} {base n i : Nat} {F G : Nat → Prop} {v long : Value} (h : L3 W base F v long n i) (hm : ∀ k, F k → G k) : L3 W base G v long n i := by
  obtain ⟨h1, h2, A, c, rfl, h3, h4, h5⟩ := h
  exact ⟨h1, fun k hk => hm k (h2 k hk), A, c, rfl, h3, h4, fun hn => (h5 hn).imp fun g hg => ⟨hg.1, hm g hg.2⟩⟩
theorem Grow.foot {W W' : World} {base k : Nat} {ps : List (Value × Value)} {ns : Nat → Nat} {F : Nat → Nat → Prop} {G : Nat → Prop} (h : Grow W base ps ns F k) (hf : Foot G W W') (hne : ∀ j q, F j q → ¬ G q) (hlt : ∀ j q, F j q → q < W.heap.size) : Grow W' base ps ns F k :=
  fun j p hp => ⟨fun hj => ((h j p hp).1 hj).foot hf (hne j) (hlt j), fun hj => ⟨((h j p hp).2 hj).1, ((h j p hp).2 hj).2.foot hf (hne j)⟩⟩
/-- More is put behind one list more. -/
theorem Grow.next {W0 W2 : World} {base k : Nat} {ps : List (Value × Value)} {ns : Nat → Nat} {F : Nat → Nat → Prop} {G X : Nat → Prop} {v long : Value} (h : Grow W0 base ps ns F k) (hf : Foot G W0 W2) (hne : ∀ j q, j ≠ k → F j q → ¬ G q) (hlt : ∀ j q, F j q → q < W0.heap.size) (hk : k < ps.length)
    (h3 : L3 W2 base (fun q => F k q ∨ (k = k ∧ X q)) v long (ns k) k) : Grow W2 base (ps.set k (v, long)) ns (fun j q => F j q ∨ (j = k ∧ X q)) (k + 1) := by
  intro j p hp
  rcases Nat.lt_or_ge j k with hj | hj
  · rw [List.getElem?_set_ne (by omega)] at hp
    exact ⟨fun _ => (((h j p hp).1 hj).foot hf (fun q hq => hne j q (by omega) hq) (hlt j)).mono (fun q hq => .inl hq), fun h' => by omega⟩
  · rcases Nat.eq_or_lt_of_le hj with e | hj2
    · subst e
      rw [List.getElem?_set_self hk] at hp
      injection hp with hp
      subst hp
      exact ⟨fun _ => h3, fun h' => by omega⟩
    · rw [List.getElem?_set_ne (by omega)] at hp
      refine ⟨fun h' => by omega, fun _ => ⟨((h j p hp).2 hj).1, ?_⟩⟩
      have h4 := ((h j p hp).2 hj).2.foot hf (fun q hq => hne j q (by omega) hq)
      exact ⟨h4.1, fun q hq => .inl (h4.2 q hq)⟩
/-- The book when the long list is written down. -/
theorem Bk.long {W0 W : World} {base b k r cr : Nat} {ps : List (Value × Value)} {F : Nat → Nat → Prop} {X : Nat → Prop} {v lg long : Value} (h : Bk W0 base b (.slice (some ⟨r, 0, none⟩) ps.length cr) ps F) (hb : W.heap[b]? = W0.heap[b]?) (hr : W.heap[r]? = W0.heap[r]?) (hsz : W0.heap.size ≤ W.heap.size) (hp : ps[k]? = some (v, lg))
    (hX : ∀ q, X q → base ≤ q ∧ W0.heap.size ≤ q ∧ q < W.heap.size) :
    Bk (W.setCell ⟨r, k * 3 + 1, none⟩ long) base b (.slice (some ⟨r, 0, none⟩) ps.length cr) (ps.set k (v, long)) (fun j q => F j q ∨ (j = k ∧ X q)) := by
  have hbl : b < W0.heap.size := (Array.getElem?_eq_some_iff.1 h.hb).1
  have hrl : r < W0.heap.size := (own_lt' h.hr rfl).2
  have hbr : b ≠ r := fun e => h.rb (by rw [e]; rfl)
  have hown : W.ownsRow base 113 3 (.slice (some ⟨r, 0, none⟩) ps.length cr) ps.length (flat3 0 ps) := by
    refine ⟨h.hr.1, h.hr.2.elim .inl ?_⟩
    rintro ⟨g, cap, cur, h1, h2, h3, rest⟩
    have e : r = g := by
      have h1' := congrArg Value.ownBlock h1
      simpa [Value.ownBlock] using h1'
    subst e
    exact .inr ⟨r, cap, cur, h1, h2, hr.trans h3, rest⟩
  have hst := (hown.stored (k * 3 + 1) long).1
  rw [flat3_set ps 0 k (v, lg) long hp] at hst
  refine ⟨?_, by rw [List.length_set]; exact hst, h.rb, h.bb, ?_, ?_⟩
  · rw [List.length_set, Below.heap_setCell _ _ _ _ hbr, hb]; exact h.hb
  · intro i q hq
    have hs2 : (W.setCell ⟨r, k * 3 + 1, none⟩ long).heap.size = W.heap.size := by simp [World.setCell]
    rw [hs2]
    rcases hq with hq | ⟨_, hq⟩
    · have := h.fl i q hq
      exact ⟨this.1, by omega, this.2.2⟩
    · have := hX q hq
      refine ⟨this.1, this.2.2, by omega, fun e => ?_⟩
      have e' : r = q := by simpa [Value.ownBlock] using e
      omega
  · intro i j q hi hj
    rcases hi with hi | ⟨ei, hi⟩ <;> rcases hj with hj | ⟨ej, hj⟩
    · exact h.fd i j q hi hj
    · have := (h.fl i q hi).2.1; have := (hX q hj).2.1; omega
    · have := (h.fl j q hj).2.1; have := (hX q hi).2.1; omega
    · omega
end Go.Proofs.YtdgilloblfbklabGreatDoor.Own
