/-
  A book of blobs: what is known while more is put behind a list.
-/
import Derived.Test.YtdgilloblfbklaaGreatDoorB2FB
import Derived.Test.YtdgilloblfbklaaGreatDoorB2G0
set_option linter.unusedVariables false
set_option linter.unusedSimpArgs false
namespace Go.Proofs.YtdgilloblfbklaaGreatDoor
open Go.RowKit

theorem infoSSB : (Tryz.prog.info? 22).map (fun i => (i.zero, i.size, i.bytes)) = some (some (.slice none 0 0), 1, 24) := by kernel_rfl
/-- An append that makes a new block leaves all old ones as they were (elements of one cell). -/
theorem append_farV {P : Program} {W w1 : World} {base : Nat} {t ty e : TypeId} {z : Value} {bytes : Nat} (ht : P.underlying t = some (.slice e)) (hinfo : (P.info? e).map (fun i => (i.zero, i.size, i.bytes)) = some (some z, 1, bytes))
    {v v1 : Value} {xs ys : List Value} {ad : Addr} {n m c : Nat} (HO : W.ownsRow base e 1 v n xs) (HC : Cells W (some ad) m 1 ys) (hm : 0 < m) (hl : (n + m) * bytes ≤ 140737488355328) (hb0 : 0 < bytes)
    (hr : (Builtin.append_ #[t, t] ty #[v, .slice (some ad) m c]).run P W = .ok v1 w1) (hat : v1.ownBlock = some W.heap.size) : W.grownBy w1 none := by
  obtain ⟨i0, hi, hzz⟩ := Option.map_eq_some_iff.1 hinfo
  simp only [Prod.mk.injEq] at hzz
  obtain ⟨hz0, hz1, hz2⟩ := hzz
  have hlen : n + m ≤ 140737488355328 := Nat.le_trans (Nat.le_mul_of_pos_right _ hb0) hl
  have hyl : ys.length = m := by have := HC.1; omega
  have hcells : ∀ j u, ys[j]? = some u → W.cell? (ad.add j) = some u := by
    obtain ⟨ad', h', hc⟩ := HC.2.2 hm
    injection h' with h'
    subst h'
    exact hc
  have hnl : ys.length = m * i0.size := by rw [hz1]; omega
  have hxn : xs.length = n := by have := HO.1; simpa using this
  rcases HO.2 with ⟨rfl, h0⟩ | ⟨g, cap, cur, rfl, hbg, hg, hnc, hcm, hcs, htake⟩
  · have hr2 := run_append_nil (P := P) W t ty e i0 z ht hi hz0 ad m c ys hnl hcells hm (by omega) (by rw [hz2]; have : m * bytes ≤ (n + m) * bytes := Nat.mul_le_mul_right _ (by omega); omega)
    rw [hr] at hr2
    injection hr2 with e1 e2
    subst e2
    exact ⟨rfl, rfl, rfl, by simp, fun k hk _ => Below.heap_alloc W.drew _ k hk⟩
  · by_cases hroom : n + m ≤ cap
    · have hr2 := run_append_room (P := P) W t ty e i0 ht hi g n cap cur hg ad m c ys hnl hcells HC.2.1 hroom (by rw [hz1, hcs, hyl]; omega)
      rw [hr] at hr2
      injection hr2 with e1 e2
      subst e1
      have hgl := (Array.getElem?_eq_some_iff.1 hg).1
      have : g = W.heap.size := by simpa [Value.ownBlock] using hat
      omega
    · have hr2 := run_append_grow (P := P) W t ty e i0 z ht hi hz0 ⟨g, 0, none⟩ n cap xs (by rw [hz1, hxn]; omega) (HO.cells (g := g) rfl) ad m c ys hnl hcells (by omega) (by omega) (by rw [hz2]; exact growslice_fits (by omega) hl)
      rw [hr] at hr2
      injection hr2 with e1 e2
      subst e2
      exact ⟨rfl, rfl, rfl, by simp, fun k hk _ => Below.heap_alloc W.drew _ k hk⟩
/-- The law at a plain region's list. -/
theorem append_cells_far {P : Program} {ops : Array Oper} {rest : List Oper} {o : Oper} {a : Act} {Q : Exit → Act → World → Prop} {W : World} (base : Nat) (hgd : o.guard = none) (s x : Operand) (t e : TypeId) (z : Value) (bytes : Nat)
    (ho : o.op = .call { callee := .builtin .append, args := #[s, x], argTypes := #[t, t] })
    (ht : P.underlying t = some (.slice e)) (hinfo : (P.info? e).map (fun i => (i.zero, i.size, i.bytes)) = some (some z, 1, bytes)) (hz : z.cells.size = 1) (hb0 : 0 < bytes)
    (v : Value) (n : Nat) (xs ys : List Value) (ad : Addr) (m c : Nat) (hs : a.eval s = v) (hx : a.eval x = .slice (some ad) m c) (hm : 0 < m)
    (HO : W.ownsRow base e 1 v n xs) (HC : Cells W (some ad) m 1 ys) (hbase : base ≤ W.heap.size) (hl : (n + m) * bytes ≤ 140737488355328)
    (h : ∀ v1 w1, w1.ownsRow base e 1 v1 (n + m) (xs ++ ys) → W.grownBy w1 v.ownBlock → (v1.ownBlock = v.ownBlock ∨ (v1.ownBlock = some W.heap.size ∧ W.grownBy w1 none)) → wpList P ops Q rest (a.put o.dst v1) w1) :
    wpList P ops Q (o :: rest) a W := by
  refine wpList_plain hgd fun K hK => ?_
  obtain ⟨v1, w1, hr, hown, hg, hat⟩ := run_append_cells (P := P) (W := W) base t o.type e z 1 bytes ht hinfo hz (by omega) hb0 v n xs ys (some ad) m c HO HC hbase hl
  have hat2 : v1.ownBlock = v.ownBlock ∨ (v1.ownBlock = some W.heap.size ∧ W.grownBy w1 none) := hat.imp id (fun h => ⟨h, append_farV ht hinfo HO HC hm hl hb0 hr h⟩)
  unfold Oper.wp execOp
  simp only [ho, resolve, invoke, builtin, Sem.run_bind, Sem.run_pure, Result.andThen_ok, List.map_toArray, List.map_cons, List.map_nil, hs, hx, hr]
  exact hK _ _ (h v1 w1 hown hg hat2)
/-- A list of marks as it is read. -/
def RdB (W : World) (lo : Nat) (A : Option Addr) (n : Nat) (mk : Int) : Prop :=
  ∃ us : List Value, us.length = n ∧ (∀ u ∈ us, MarkB W lo u mk) ∧ (0 < n → ∃ g, A = some ⟨g, 0, none⟩ ∧ ∀ j u, us[j]? = some u → W.cell? ⟨g, j, none⟩ = some u)
theorem RdB.keep {W W' : World} {lo n : Nat} {A : Option Addr} {mk : Int} {G : Nat → Prop} (h : RdB W lo A n mk) (hf : Foot G W W') (hlo : ∀ q, lo ≤ q → ¬ G q) (hk : ∀ g, A = some ⟨g, 0, none⟩ → 0 < n → W'.heap[g]? = W.heap[g]?) : RdB W' lo A n mk := by
  obtain ⟨us, h1, h2, h3⟩ := h
  refine ⟨us, h1, fun u hu => (h2 u hu).foot hf hlo, fun hn => ?_⟩
  obtain ⟨g, e, hc⟩ := h3 hn
  exact ⟨g, e, fun j u hu => (World.cell?_of_block (a := ⟨g, j, none⟩) (hk g e hn)).trans (hc j u hu)⟩
theorem L2b.rd {W : World} {base n i lo : Nat} {F : Nat → Prop} {A : Option Addr} {c : Nat} (h : L2b W base F lo (.slice A n c) n i) : RdB W lo A n (mark i) := by
  obtain ⟨vs, h1, h2, h3⟩ := h
  refine ⟨vs, by have := h1.1; simpa using this, h2, fun hn => ?_⟩
  obtain ⟨g, c', hv, _⟩ := own_some h1 hn
  injection hv with hv1 _ _
  subst hv1
  refine ⟨g, rfl, fun j u hu => ?_⟩
  have := h1.cells (g := g) rfl j u hu
  rwa [add_plain] at this
/-- While more is put behind list v. -/
def GIb (W0 : World) (base : Nat) (A : Option Addr) (n c lo : Nat) (mk : Int) (W : World) (long : Value) (m : Nat) : Prop :=
  (∃ xs : List Value, W.ownsRow base 22 1 long (n + m) xs ∧ ∀ u ∈ xs, MarkB W lo u mk) ∧ Foot (fun q => (Value.slice A n c).ownBlock = some q) W0 W ∧
    RdB W lo A n mk ∧ (long.ownBlock = (Value.slice A n c).ownBlock ∨ ∃ g, long.ownBlock = some g ∧ W0.heap.size ≤ g)
theorem GIb.start {W0 : World} {base : Nat} {F : Nat → Prop} {A : Option Addr} {n c lo i : Nat} (h : L2b W0 base F lo (.slice A n c) n i) : GIb W0 base A n c lo (mark i) W0 (.slice A n c) 0 := by
  have hr := h.rd
  obtain ⟨vs, h1, h2, h3⟩ := h
  exact ⟨⟨vs, h1, h2⟩, Foot.refl _ _, hr, .inl rfl⟩
theorem GIb.later {W0 W W' : World} {base : Nat} {A : Option Addr} {n c lo m : Nat} {mk : Int} {long : Value} (h : GIb W0 base A n c lo mk W long m) (hb : Below W.heap.size W W') (hA : 0 < n → ∃ g, A = some ⟨g, 0, none⟩ ∧ g < W0.heap.size) : GIb W0 base A n c lo mk W' long m := by
  obtain ⟨⟨xs, h1, h2⟩, hf, h3, h4⟩ := h
  refine ⟨⟨xs, own_keep h1 hb, fun u hu => (h2 u hu).later hb⟩, hf.trans (Foot.ofBelow hb (fun _ => False)) (fun _ h => h.elim), h3.keep (Foot.ofBelow hb (fun _ => False)) (fun _ _ h => h) (fun g e hn => ?_), h4⟩
  obtain ⟨g', e', hg⟩ := hA hn
  rw [e] at e'
  injection e' with e'
  injection e' with e'
  subst e'
  exact hb.block g (Nat.lt_of_lt_of_le hg hf.size)
/-- A mark's block is no row of blobs. -/
theorem MarkB.ne {W : World} {base lo n : Nat} {v u : Value} {mk : Int} {xs : List Value} (h : MarkB W lo u mk) (ho : W.ownsRow base 22 1 v n xs) : ∃ g, u = .slice (some ⟨g, 0, none⟩) 1 1 ∧ W.heap[g]? = some (.cells #[.int .u8 mk] 5 (0, 0)) ∧ lo ≤ g ∧ v.ownBlock ≠ some g := by
  obtain ⟨g, h1, h2, h3⟩ := h
  refine ⟨g, h1, h2, h3, fun e => ?_⟩
  rcases ho.2 with ⟨rfl, _⟩ | ⟨g', cap, cur, rfl, _, h5, _⟩
  · simp [Value.ownBlock] at e
  · simp only [Value.ownBlock, Option.some.injEq] at e
    subst e
    rw [h2] at h5
    injection h5 with h5
    injection h5 with _ h5 _
    exact absurd h5 (by decide)
theorem GIb.step {W0 W W1 : World} {base : Nat} {A : Option Addr} {n c lo m : Nat} {mk : Int} {long v1 u0 : Value} {o : Obj} (h : GIb W0 base A n c lo mk W long m) (hu0 : MarkB W lo u0 mk) (hA : ∀ k, (Value.slice A n c).ownBlock = some k → k < W0.heap.size) (hA2 : 0 < n → ∃ g, A = some ⟨g, 0, none⟩)
    (hown : ∀ xs : List Value, W.ownsRow base 22 1 long (n + m) xs → (∀ u ∈ xs, MarkB W lo u mk) → ∃ zs, W1.ownsRow base 22 1 v1 (n + m + 1) (zs ++ [u0]) ∧ ∀ u ∈ zs, MarkB W lo u mk) (hg : (W.alloc o).grownBy W1 long.ownBlock) (hat : v1.ownBlock = long.ownBlock ∨ (v1.ownBlock = some (W.alloc o).heap.size ∧ (W.alloc o).grownBy W1 none)) :
    GIb W0 base A n c lo mk W1 v1 (m + 1) := by
  obtain ⟨⟨xs, h1, hmk⟩, h2, h3, h4⟩ := h
  have hs := h2.size
  have hft : Foot (fun q => (Value.slice A n c).ownBlock = some q) W0 W1 := (h2.alloc o).grown hg (fun k hk => by
    rcases h4 with h4 | ⟨g, h4, hge⟩
    · exact .inl (h4.symm.trans hk)
    · rw [h4] at hk; injection hk with hk; exact .inr (by omega))
  have hat2 : v1.ownBlock = (Value.slice A n c).ownBlock ∨ ∃ g, v1.ownBlock = some g ∧ W0.heap.size ≤ g := by
    rcases hat with h | ⟨h, _⟩
    · rw [h]; exact h4
    · exact .inr ⟨_, h, by simp; omega⟩
  have hkeep : ∀ u, MarkB W lo u mk → MarkB W1 lo u mk := by
    intro u hu
    obtain ⟨g, e1, e2, e3, e4⟩ := hu.ne h1
    refine ⟨g, e1, ?_, e3⟩
    have hgl := (Array.getElem?_eq_some_iff.1 e2).1
    rw [hg.block g (by simp; omega) (fun e => e4 e.symm), Below.heap_alloc _ _ _ hgl]
    exact e2
  obtain ⟨zs, hz1, hz2⟩ := hown xs h1 hmk
  refine ⟨⟨zs ++ [u0], hz1, fun u hu => ?_⟩, hft, ?_, hat2⟩
  · rcases List.mem_append.1 hu with hu | hu
    · exact hkeep u (hz2 u hu)
    · simp only [List.mem_singleton] at hu
      subst hu
      exact hkeep _ hu0
  · obtain ⟨us, r1, r2, r3⟩ := h3
    rcases hat with hat | ⟨_, hn⟩
    · rcases h4 with h4 | ⟨g, h4, hge⟩
      · rcases Nat.eq_zero_or_pos n with h0 | h0
        · subst h0
          exact ⟨us, r1, fun u hu => hkeep u (r2 u hu), fun h => absurd h (by omega)⟩
        · obtain ⟨g, rfl⟩ := hA2 h0
          obtain ⟨g', c', hv, _⟩ := own_some hz1 (by omega)
          have : g' = g := by
            have h5 := hat.trans h4
            rw [hv] at h5
            simpa [Value.ownBlock] using h5
          subst this
          have hzl : zs.length = n + m := by have := hz1.1; simp at this; omega
          refine ⟨zs.take n, by rw [List.length_take]; omega, fun u hu => hkeep u (hz2 u (List.mem_of_mem_take hu)), fun _ => ⟨g', rfl, fun j u hu => ?_⟩⟩
          have hj : j < n := by
            rcases Nat.lt_or_ge j n with h | h
            · exact h
            · rw [List.getElem?_eq_none (by rw [List.length_take]; omega)] at hu; cases hu
          rw [List.getElem?_take_of_lt hj] at hu
          have := hz1.cells (g := g') (by rw [hv]; rfl) j u (by rw [List.getElem?_append_left (by omega)]; exact hu)
          rwa [add_plain] at this
      · refine ⟨us, r1, fun u hu => hkeep u (r2 u hu), fun hn0 => ?_⟩
        obtain ⟨g2, e2, hc⟩ := r3 hn0
        have hlt := hA g2 (by rw [e2]; rfl)
        refine ⟨g2, e2, fun j u hu => (World.cell?_of_block (a := ⟨g2, j, none⟩) ?_).trans (hc j u hu)⟩
        rw [hg.block g2 (by simp; omega) (fun e' => by rw [h4] at e'; injection e' with e'; omega), Below.heap_alloc _ _ _ (by omega)]
    · refine ⟨us, r1, fun u hu => hkeep u (r2 u hu), fun hn0 => ?_⟩
      obtain ⟨g2, e2, hc⟩ := r3 hn0
      have hlt := hA g2 (by rw [e2]; rfl)
      refine ⟨g2, e2, fun j u hu => (World.cell?_of_block (a := ⟨g2, j, none⟩) ?_).trans (hc j u hu)⟩
      rw [hn.block g2 (by simp; omega) (by simp), Below.heap_alloc _ _ _ (by omega)]
/-- More was put behind it. -/
def L3b (W : World) (base : Nat) (F : Nat → Prop) (lo : Nat) (v long : Value) (n : Nat) (i : Nat) : Prop :=
  (∃ xs : List Value, W.ownsRow base 22 1 long (n + 40) xs ∧ ∀ u ∈ xs, MarkB W lo u (mark i)) ∧ (∀ k, long.ownBlock = some k → F k) ∧ ∃ A c, v = .slice A n c ∧ n ≤ c ∧ RdB W lo A n (mark i) ∧ (0 < n → ∃ g, A = some ⟨g, 0, none⟩ ∧ F g)
def GrowB (W : World) (base : Nat) (ps : List (Value × Value)) (no ns : Nat → Nat) (F : Nat → Nat → Prop) (lo k : Nat) : Prop :=
  ∀ j p, ps[j]? = some p → (j < k → L3b W base (F j) lo p.1 p.2 (ns j) (no j)) ∧ (k ≤ j → p.2 = .slice none 0 0 ∧ L2b W base (F j) lo p.1 (ns j) (no j))
theorem L3b.foot {W W' : World} {base n i lo : Nat} {F G : Nat → Prop} {v long : Value} (h : L3b W base F lo v long n i) (hf : Foot G W W') (hne : ∀ k, F k → ¬ G k) (hlo : ∀ q, lo ≤ q → ¬ G q) (hlt : ∀ k, F k → k < W.heap.size) : L3b W' base F lo v long n i := by
  obtain ⟨⟨xs, h1, hm⟩, h2, A, c, rfl, h3, h4, h5⟩ := h
  refine ⟨⟨xs, own_foot h1 hf (fun k hk => hne k (h2 k hk)), fun u hu => (hm u hu).foot hf hlo⟩, h2, A, c, rfl, h3, h4.keep hf hlo (fun g e hn => ?_), h5⟩
  obtain ⟨g', e', hF⟩ := h5 hn
  rw [e] at e'
  injection e' with e'
  injection e' with e'
  subst e'
  exact hf.block g (hlt g hF) (hne g hF)
theorem L3b.mono {W : World} {base n i lo : Nat} {F G : Nat → Prop} {v long : Value} (h : L3b W base F lo v long n i) (hm : ∀ k, F k → G k) : L3b W base G lo v long n i := by
  obtain ⟨h1, h2, A, c, rfl, h3, h4, h5⟩ := h
  exact ⟨h1, fun k hk => hm k (h2 k hk), A, c, rfl, h3, h4, fun hn => (h5 hn).imp fun g hg => ⟨hg.1, hm g hg.2⟩⟩
theorem GrowB.foot {W W' : World} {base k lo : Nat} {ps : List (Value × Value)} {no ns : Nat → Nat} {F : Nat → Nat → Prop} {G : Nat → Prop} (h : GrowB W base ps no ns F lo k) (hf : Foot G W W') (hne : ∀ j q, F j q → ¬ G q) (hlo : ∀ q, lo ≤ q → ¬ G q) (hlt : ∀ j q, F j q → q < W.heap.size) : GrowB W' base ps no ns F lo k :=
  fun j p hp => ⟨fun hj => ((h j p hp).1 hj).foot hf (hne j) hlo (hlt j), fun hj => ⟨((h j p hp).2 hj).1, ((h j p hp).2 hj).2.foot hf (hne j) hlo⟩⟩
theorem GrowB.next {W0 W2 : World} {base k lo : Nat} {ps : List (Value × Value)} {no ns : Nat → Nat} {F : Nat → Nat → Prop} {G X : Nat → Prop} {v long : Value} (h : GrowB W0 base ps no ns F lo k) (hf : Foot G W0 W2) (hne : ∀ j q, j ≠ k → F j q → ¬ G q) (hlo : ∀ q, lo ≤ q → ¬ G q) (hlt : ∀ j q, F j q → q < W0.heap.size) (hk : k < ps.length)
    (h3 : L3b W2 base (fun q => F k q ∨ (k = k ∧ X q)) lo v long (ns k) (no k)) : GrowB W2 base (ps.set k (v, long)) no ns (fun j q => F j q ∨ (j = k ∧ X q)) lo (k + 1) := by
  intro j p hp
  rcases Nat.lt_or_ge j k with hj | hj
  · rw [List.getElem?_set_ne (by omega)] at hp
    exact ⟨fun _ => (((h j p hp).1 hj).foot hf (fun q hq => hne j q (by omega) hq) hlo (hlt j)).mono (fun q hq => .inl hq), fun h' => by omega⟩
  · rcases Nat.eq_or_lt_of_le hj with e | hj2
    · subst e
      rw [List.getElem?_set_self hk] at hp
      injection hp with hp
      subst hp
      exact ⟨fun _ => h3, fun h' => by omega⟩
    · rw [List.getElem?_set_ne (by omega)] at hp
      refine ⟨fun h' => by omega, fun _ => ⟨((h j p hp).2 hj).1, ?_⟩⟩
      obtain ⟨vs, h5, h6, h7⟩ := ((h j p hp).2 hj).2.foot hf (fun q hq => hne j q (by omega) hq) hlo
      exact ⟨vs, h5, h6, fun q hq => ⟨.inl (h7 q hq).1, (h7 q hq).2⟩⟩
end Go.Proofs.YtdgilloblfbklaaGreatDoor
