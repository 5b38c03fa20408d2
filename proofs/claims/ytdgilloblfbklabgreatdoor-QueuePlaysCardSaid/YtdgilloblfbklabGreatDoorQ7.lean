/-
  The law QueuePlays: both queues, the book, and the lists that wait to be kept.
-/
import Derived.Test.YtdgilloblfbklabGreatDoorQ6
import Derived.Test.YtdgilloblfbklabGreatDoorB3W
import Derived.Test.YtdgilloblfbklabGreatDoorTwin
set_option linter.unusedVariables false
set_option linter.unusedSimpArgs false
set_option maxRecDepth 100000
namespace Go.Proofs.YtdgilloblfbklabGreatDoor.Own
open Go.RowKit

def Dj (a b : Option Nat) : Prop := ∀ k, a = some k → b ≠ some k
def clipV : Value → Value
  | .slice A n _ => .slice A n n
  | v => v
theorem own_clipV (v : Value) : (clipV v).ownBlock = v.ownBlock := by
  unfold clipV
  split
  · rename_i A n c
    cases A <;> rfl
  · rfl
theorem FRow.rebase {W : World} {base base' n : Nat} {v : Value} {xs : List Int} (h : FRow W base v n xs) (hb : ∀ k, v.ownBlock = some k → base' ≤ k) : FRow W base' v n xs := by
  refine ⟨h.1, h.2.elim .inl ?_⟩
  rintro ⟨g, cap, cur, h1, h2, r⟩
  exact .inr ⟨g, cap, cur, h1, hb g (by rw [h1]; rfl), r⟩
theorem QAt.foot {W W' : World} {q room : Nat} {ring : List Value} {ports : List Int} {fr : Nat} {L : List Cp} {G : Nat → Prop} (h : QAt W q room ring ports fr L) (hf : Foot G W W') (h1 : ¬ G q) (h2 : ∀ v ∈ ringL ring fr L.length, ∀ k, v.ownBlock = some k → ¬ G k) : QAt W' q room ring ports fr L :=
  ⟨⟨hf.blk h.box.hp h1, h.box.hr, h.box.hq⟩, h.hfr, h.hL, h.hroom, fun j hj => ⟨(h.data j hj).1, (h.data j hj).2.foot hf (h2 _ (by
    simp only [ringL, List.mem_map, List.mem_range]
    exact ⟨j, hj, rfl⟩))⟩⟩
theorem CpsAt.foot {base : Nat} {W W' : World} {q : Nat} {A : Option Addr} {L : List Cp} {Vs : List Value} {G : Nat → Prop} (h : CpsAt base W q A L Vs) (hf : Foot G W W') (h1 : ∀ g, A = some ⟨g, 0, none⟩ → ¬ G g) (h2 : ∀ j, j < L.length → ∀ k, (Vs.getD j (.slice none 0 0)).ownBlock = some k → ¬ G k) : CpsAt base W' q A L Vs := by
  refine ⟨fun h0 => ?_, fun g hA j hj => ?_⟩
  · obtain ⟨g, e1, e2, e3, e4⟩ := h.ad h0
    exact ⟨g, e1, e2, Nat.lt_of_lt_of_le e3 hf.size, e4⟩
  · obtain ⟨g', e1, e2, e3, e4⟩ := h.ad (by omega)
    rw [hA] at e1
    injection e1 with e1
    injection e1 with e1
    subst e1
    obtain ⟨d1, v, d2, A5, c5, d3, d4, d5⟩ := h.at_ g hA j hj
    exact ⟨hf.cell d1 (h1 g hA), v, hf.cell d2 (h1 g hA), A5, c5, d3, d4, d5.foot hf (fun k hk => h2 j hj k (by rw [d3]; rw [d4] at hk; cases A5 <;> exact hk))⟩
theorem pw_ins {α : Type} {R : α → α → Prop} {l1 l2 : List α} {x : α} (h : (l1 ++ l2).Pairwise R) (h1 : ∀ a ∈ l1, R a x) (h2 : ∀ a ∈ l2, R x a) : (l1 ++ x :: l2).Pairwise R := by
  rw [List.pairwise_append] at h ⊢
  refine ⟨h.1, List.pairwise_cons.2 ⟨h2, h.2.1⟩, fun a ha b hb => ?_⟩
  rcases List.mem_cons.1 hb with rfl | hb
  · exact h1 a ha
  · exact h.2.2 a ha b hb
structure QI (w W : World) (q room : Nat) (Lq Lr : List Cp) (Vs Us : List Value) (E : List (Option Nat)) (row : Value) (ps : List (Value × Value)) (F : Nat → Nat → Prop) (ns : Nat → Nat) (row2 : Value) : Prop where
  bs : Bs W (q + 2) (q + 2) row ps F ns
  wq : w.heap.size = q
  qa : ∃ ring ports fr, QAt W q room ring ports fr Lq ∧ ringL ring fr Lq.length = Vs
  rf : RfAt w W (q + 1) room row2 Lr
  bl : Below w.heap.size w W
  uf : ∀ u ∈ Us, ∃ A n c xs, u = .slice A n c ∧ FRow W (q + 2) u n xs ∧ n ≤ 140737488351232
  dj : (row2.ownBlock :: (E ++ (Us ++ Vs).map Value.ownBlock)).Pairwise Dj
  al : ∀ o ∈ row2.ownBlock :: (E ++ (Us ++ Vs).map Value.ownBlock), ∀ k, o = some k → q + 2 ≤ k ∧ k < W.heap.size ∧ ¬ Zo (q + 2) row F k
section
variable {w W W' : World} {q room : Nat} {Lq Lr : List Cp} {Vs Us : List Value} {E : List (Option Nat)} {row row2 : Value} {ps : List (Value × Value)} {F : Nat → Nat → Prop} {ns : Nat → Nat}
theorem QI.bW (h : QI w W q room Lq Lr Vs Us E row ps F ns row2) : q + 2 < W.heap.size := (Array.getElem?_eq_some_iff.1 h.bs.bk.hb).1
theorem QI.av (h : QI w W q room Lq Lr Vs Us E row ps F ns row2) {v : Value} (hv : v ∈ Vs) {k : Nat} (hk : v.ownBlock = some k) : q + 2 ≤ k ∧ k < W.heap.size ∧ ¬ Zo (q + 2) row F k :=
  h.al v.ownBlock (by simp only [List.mem_cons, List.mem_append, List.mem_map]; exact .inr (.inr ⟨v, .inr hv, rfl⟩)) k hk
theorem QI.au (h : QI w W q room Lq Lr Vs Us E row ps F ns row2) {v : Value} (hv : v ∈ Us) {k : Nat} (hk : v.ownBlock = some k) : q + 2 ≤ k ∧ k < W.heap.size ∧ ¬ Zo (q + 2) row F k :=
  h.al v.ownBlock (by simp only [List.mem_cons, List.mem_append, List.mem_map]; exact .inr (.inr ⟨v, .inl hv, rfl⟩)) k hk
theorem QI.ar (h : QI w W q room Lq Lr Vs Us E row ps F ns row2) {k : Nat} (hk : row2.ownBlock = some k) : q + 2 ≤ k ∧ k < W.heap.size ∧ ¬ Zo (q + 2) row F k := h.al _ (List.mem_cons_self) k hk
theorem QI.ae (h : QI w W q room Lq Lr Vs Us E row ps F ns row2) {o : Option Nat} (ho : o ∈ E) {k : Nat} (hk : o = some k) : q + 2 ≤ k ∧ k < W.heap.size ∧ ¬ Zo (q + 2) row F k :=
  h.al o (by simp only [List.mem_cons, List.mem_append]; exact .inr (.inl ho)) k hk
/-- Something else is at work: it leaves both queues and all lists alone. -/
theorem QI.foot {G : Nat → Prop} (h : QI w W q room Lq Lr Vs Us E row ps F ns row2) (hf : Foot G W W') (h1 : ∀ k, G k → w.heap.size ≤ k) (hq : ¬ G q) (hr : ¬ G (q + 1)) (hz : ∀ k, Zo (q + 2) row F k → ¬ G k) (ho : ∀ o ∈ row2.ownBlock :: (E ++ (Us ++ Vs).map Value.ownBlock), ∀ k, o = some k → ¬ G k) : QI w W' q room Lq Lr Vs Us E row ps F ns row2 := by
  obtain ⟨ring, ports, fr, e1, e2⟩ := h.qa
  have hv : ∀ v ∈ Vs, ∀ k, v.ownBlock = some k → ¬ G k := fun v hv k hk => ho v.ownBlock (by simp only [List.mem_cons, List.mem_append, List.mem_map]; exact .inr (.inr ⟨v, .inr hv, rfl⟩)) k hk
  have hu : ∀ v ∈ Us, ∀ k, v.ownBlock = some k → ¬ G k := fun v hv k hk => ho v.ownBlock (by simp only [List.mem_cons, List.mem_append, List.mem_map]; exact .inr (.inr ⟨v, .inl hv, rfl⟩)) k hk
  refine ⟨h.bs.foot hf hz, h.wq, ⟨ring, ports, fr, e1.foot hf hq (by rw [e2]; exact hv), e2⟩, h.rf.foot hf hr (fun k hk => ho _ (List.mem_cons_self) k hk), h.bl.trans (hf.below h1 h.bl.size), fun u hu' => ?_, h.dj, fun o ho' k hk => ?_⟩
  · obtain ⟨A, n, c, xs, d1, d2, d3⟩ := h.uf u hu'
    exact ⟨A, n, c, xs, d1, d2.foot hf (hu u hu'), d3⟩
  · obtain ⟨d1, d2, d3⟩ := h.al o ho' k hk
    exact ⟨d1, Nat.lt_of_lt_of_le d2 hf.size, d3⟩
theorem QI.later (h : QI w W q room Lq Lr Vs Us E row ps F ns row2) (hb : Below W.heap.size W W') : QI w W' q room Lq Lr Vs Us E row ps F ns row2 :=
  h.foot (Foot.ofBelow hb (fun _ => False)) (fun _ h => h.elim) (fun h => h) (fun h => h) (fun _ _ h => h) (fun _ _ _ _ h => h)
/-- One list more waits to be kept: a new row. -/
theorem QI.more (h : QI w W q room Lq Lr Vs [] E row ps F ns row2) (hb : Below W.heap.size W W') {A : Option Addr} {n c : Nat} {xs : List Int} (ho : FRow W' W.heap.size (.slice A n c) n xs) (hn : n ≤ 140737488351232) : QI w W' q room Lq Lr Vs [.slice A n c] E row ps F ns row2 := by
  have h' := h.later hb
  have hbW := h.bW
  have hl := ho.lt
  have e0 : row2.ownBlock :: (E ++ ([Value.slice A n c] ++ Vs).map Value.ownBlock) = (row2.ownBlock :: E) ++ (Value.slice A n c).ownBlock :: Vs.map Value.ownBlock := by simp
  have e1 : row2.ownBlock :: (E ++ ([] ++ Vs).map Value.ownBlock) = (row2.ownBlock :: E) ++ Vs.map Value.ownBlock := by simp
  refine ⟨h'.bs, h'.wq, h'.qa, h'.rf, h'.bl, fun u hu => ?_, ?_, fun o ho' k hk => ?_⟩
  · simp only [List.mem_singleton] at hu
    subst hu
    exact ⟨A, n, c, xs, rfl, ho.base_ (by omega), hn⟩
  · rw [e0]
    refine pw_ins (e1 ▸ h.dj) (fun o ho' k hk e => ?_) (fun o ho' k hk e => ?_)
    · have := (h.al o (by rw [e1]; exact List.mem_append_left _ ho') k hk).2.1; have := (hl k e).1; omega
    · have := (h.al o (by rw [e1]; exact List.mem_append_right _ ho') k e).2.1; have := (hl k hk).1; omega
  · rw [e0] at ho'
    replace ho' := (List.mem_append.1 ho').imp id List.mem_cons.1
    rcases ho' with ho' | ho' | ho'
    · exact h'.al o (by rw [e1]; exact List.mem_append_left _ ho') k hk
    · subst ho'
      have := hl k hk
      exact ⟨by omega, this.2, fun hz => by have := (h.bs.lt k hz).2; omega⟩
    · exact h'.al o (by rw [e1]; exact List.mem_append_right _ ho') k hk
/-- A new block is watched. -/
theorem QI.watch (h : QI w W q room Lq Lr Vs [] [] row ps F ns row2) (hb : Below W.heap.size W W') (x : Nat) (hx : W.heap.size ≤ x) (hx2 : x < W'.heap.size) : QI w W' q room Lq Lr Vs [] [some x] row ps F ns row2 := by
  have h' := h.later hb
  have hbW := h.bW
  have e0 : row2.ownBlock :: ([some x] ++ ([] ++ Vs).map Value.ownBlock) = [row2.ownBlock] ++ some x :: Vs.map Value.ownBlock := by simp
  have e1 : row2.ownBlock :: ([] ++ ([] ++ Vs).map Value.ownBlock) = [row2.ownBlock] ++ Vs.map Value.ownBlock := by simp
  refine ⟨h'.bs, h'.wq, h'.qa, h'.rf, h'.bl, fun u hu => (by cases hu), ?_, fun o ho' k hk => ?_⟩
  · rw [e0]
    refine pw_ins (e1 ▸ h.dj) (fun o ho' k hk e => ?_) (fun o ho' k hk e => ?_)
    · have := (h.al o (by rw [e1]; exact List.mem_append_left _ ho') k hk).2.1; injection e; omega
    · have := (h.al o (by rw [e1]; exact List.mem_append_right _ ho') k e).2.1; injection hk; omega
  · rw [e0] at ho'
    replace ho' := (List.mem_append.1 ho').imp id List.mem_cons.1
    rcases ho' with ho' | ho' | ho'
    · exact h'.al o (by rw [e1]; exact List.mem_append_left _ ho') k hk
    · subst ho'
      injection hk with hk
      exact ⟨by omega, by omega, fun hz => by have := (h.bs.lt k hz).2; omega⟩
    · exact h'.al o (by rw [e1]; exact List.mem_append_right _ ho') k hk
/-- Put of the queue. -/
theorem QI.qPut (h : QI w W q room Lq Lr Vs Us E row ps F ns row2) (hn : Lq.length < room) (p : Int) (A : Option Addr) (m c : Nat) (xs : List Int) (hS : Reads W .u8 A m xs) (hm : m ≤ 140737488351232) (hA : A = none → c = 0) (hAq : ∀ ad, A = some ad → 0 < m → ad.block ≠ q) :
    Calls Tryz.prog 8 #[.pointer (some ⟨q, 0, none⟩), .agg #[.int .i64 p, .slice A m c]] W fun e w' => e = .returned (.int .i64 0) ∧ ∃ v, QI w w' q room (Lq ++ [(p, xs)]) Lr (Vs ++ [v]) Us E row ps F ns row2 ∧ Foot (fun i => i = q) W w' := by
  obtain ⟨ring, ports, fr, e1, e2⟩ := h.qa
  refine (Put_at W q room ring ports fr Lq e1 hn p A m c xs hS hm hA hAq).mono ?_
  rintro e w' ⟨he, ⟨ring', ports', d1, v, d2, d3⟩, hf⟩
  have hbW := h.bW
  have hvl : ∀ k, v.ownBlock = some k → W.heap.size ≤ k ∧ k < w'.heap.size := fun k hk => ⟨d3.2 k hk, (d3.1.fr.lt k hk).2⟩
  refine ⟨he, v, ⟨h.bs.foot hf (fun k hk e => by have := (h.bs.lt k hk).1; omega), h.wq, ⟨ring', ports', fr, d1, ?_⟩, h.rf.foot hf (by omega) (fun k hk e => by have := (h.ar hk).1; omega), h.bl.trans (hf.below (fun k hk => by have := h.wq; omega) h.bl.size), fun u hu => ?_, ?_, fun o ho k hk => ?_⟩, hf⟩
  · rw [List.length_append, List.length_singleton, d2, e2]
  · obtain ⟨A, n, c, xs, d1, d2, d3⟩ := h.uf u hu
    exact ⟨A, n, c, xs, d1, d2.foot hf (fun k hk e => by have := (h.au hu hk).1; omega), d3⟩
  · have e3 : row2.ownBlock :: (E ++ (Us ++ (Vs ++ [v])).map Value.ownBlock) = (row2.ownBlock :: (E ++ (Us ++ Vs).map Value.ownBlock)) ++ [v.ownBlock] := by simp
    rw [e3, List.pairwise_append]
    refine ⟨h.dj, List.pairwise_singleton _ _, fun a ha b hb k hk e => ?_⟩
    simp only [List.mem_singleton] at hb
    subst hb
    have := (h.al a ha k hk).2.1; have := (hvl k e).1; omega
  · have e3 : row2.ownBlock :: (E ++ (Us ++ (Vs ++ [v])).map Value.ownBlock) = (row2.ownBlock :: (E ++ (Us ++ Vs).map Value.ownBlock)) ++ [v.ownBlock] := by simp
    rw [e3, List.mem_append] at ho
    rcases ho with ho | ho
    · obtain ⟨f1, f2, f3⟩ := h.al o ho k hk
      exact ⟨f1, Nat.lt_of_lt_of_le f2 hf.size, f3⟩
    · simp only [List.mem_singleton] at ho
      subst ho
      have := hvl k hk
      exact ⟨by omega, this.2, fun hz => by have := (h.bs.lt k hz).2; omega⟩
/-- The document's row of copies is another one: it is new, or lies where the old one lay. -/
theorem QI.rSet (h : QI w W q room Lq Lr Vs Us E row ps F ns row2) {Lr' : List Cp} {row3 : Value} (hf : Foot (fun i => i = q + 1 ∨ row2.ownBlock = some i) W W') (hr : RfAt w W' (q + 1) room row3 Lr') (h3 : ∀ k, row3.ownBlock = some k → row2.ownBlock = some k ∨ W.heap.size ≤ k) (h3l : ∀ k, row3.ownBlock = some k → k < W'.heap.size) : QI w W' q room Lq Lr' Vs Us E row ps F ns row3 := by
  have hbW := h.bW
  have hd := List.pairwise_cons.1 h.dj
  have hG : ∀ o ∈ E ++ (Us ++ Vs).map Value.ownBlock, ∀ k, o = some k → ¬ (k = q + 1 ∨ row2.ownBlock = some k) := fun o ho k hk e => by
    rcases e with e | e
    · have := (h.al o (List.mem_cons_of_mem _ ho) k hk).1; omega
    · exact hd.1 o ho k e hk
  obtain ⟨ring, ports, fr, e1, e2⟩ := h.qa
  refine ⟨h.bs.foot hf (fun k hk e => ?_), h.wq, ⟨ring, ports, fr, e1.foot hf (fun e => ?_) ?_, e2⟩, hr, h.bl.trans (hf.below (fun k hk => ?_) h.bl.size), fun u hu => ?_, List.pairwise_cons.2 ⟨fun o ho k hk e => ?_, hd.2⟩, fun o ho k hk => ?_⟩
  · rcases e with e | e
    · have := (h.bs.lt k hk).1; omega
    · exact (h.ar e).2.2 hk
  · rcases e with e | e
    · omega
    · have := (h.ar e).1; omega
  · rw [e2]
    exact fun v hv k hk => hG v.ownBlock (by simp only [List.mem_append, List.mem_map]; exact .inr ⟨v, .inr hv, rfl⟩) k hk
  · have := h.wq
    rcases hk with e | e
    · omega
    · have := (h.ar e).1; omega
  · obtain ⟨A, n, c, xs, d1, d2, d3⟩ := h.uf u hu
    exact ⟨A, n, c, xs, d1, d2.foot hf (fun k hk => hG u.ownBlock (by simp only [List.mem_append, List.mem_map]; exact .inr ⟨u, .inl hu, rfl⟩) k hk), d3⟩
  · rcases h3 k hk with h' | h'
    · exact hd.1 o ho k h' e
    · have := (h.al o (List.mem_cons_of_mem _ ho) k e).2.1; omega
  · rcases List.mem_cons.1 ho with rfl | ho
    · rcases h3 k hk with h' | h'
      · exact ⟨(h.ar h').1, h3l k hk, (h.ar h').2.2⟩
      · exact ⟨by omega, h3l k hk, fun hz => by have := (h.bs.lt k hz).2; omega⟩
    · obtain ⟨f1, f2, f3⟩ := h.al o (List.mem_cons_of_mem _ ho) k hk
      exact ⟨f1, Nat.lt_of_lt_of_le f2 hf.size, f3⟩
theorem RfAt.rlt {rq : Nat} (h : RfAt w W rq room row2 Lr) : ∀ k, row2.ownBlock = some k → k < W.heap.size := by
  obtain ⟨O, _, h2, _⟩ := h.hr
  exact fun k hk => (own_lt' h2 hk).2
theorem QI.rPut (h : QI w W q room Lq Lr Vs Us E row ps F ns row2) (hl : Lr.length < room) (hr : room ≤ 64) (p : Int) (A : Option Addr) (c : Nat) (xs : List Int) (hR : Reads w .u8 A xs.length xs) :
    Calls Tryz.prog 11 #[.pointer (some ⟨q + 1, 0, none⟩), .agg #[.int .i64 p, .slice A xs.length c]] W fun e w' => e = .returned (.int .i64 0) ∧ ∃ row3, QI w w' q room Lq (Lr ++ [(p, xs)]) Vs Us E row ps F ns row3 ∧ Foot (fun i => i = q + 1 ∨ row2.ownBlock = some i) W w' :=
  (RPut_ok h.rf hl hr p A c xs hR).mono fun e w' ⟨he, ⟨row3, d1, d2⟩, hf⟩ => ⟨he, row3, h.rSet hf d1 d2 d1.rlt, hf⟩
/-- One of the waiting lists is kept. -/
theorem QI.keep {A : Option Addr} {n c : Nat} (h : QI w W q room Lq Lr Vs (.slice A n c :: Us) E row ps F ns row2) (hN : ps.length ≤ 1000000000) :
    Calls Tryz.prog 13 #[.pointer (some ⟨q + 2, 0, none⟩), .slice A n c] W fun e w' => (∃ u, e = .returned u) ∧ ∃ row' ps' F' ns', ps'.length = ps.length + 1 ∧ QI w w' q room Lq Lr Vs Us E row' ps' F' ns' row2 ∧ Foot (Zo (q + 2) row F) W w' := by
  obtain ⟨A', n', c', xs, d1, d2, d3⟩ := h.uf _ (List.mem_cons_self)
  injection d1 with d1 d1' d1''
  subst d1 d1' d1''
  have hzn : ∀ k, (Value.slice A n c).ownBlock = some k → ¬ Zo (q + 2) row F k := fun k hk => (h.au (List.mem_cons_self) hk).2.2
  refine (h.bs.keep hN (Nat.le_refl _) d2 (by omega) hzn).mono ?_
  rintro e w' ⟨hu, row', F', ns', hbs, hf, hz⟩
  have hlow : ∀ k, Zo (q + 2) row F k → q + 2 ≤ k := fun k hk => (h.bs.lt k hk).1
  -- the list without what was kept
  have hsub : ∀ o ∈ row2.ownBlock :: (E ++ (Us ++ Vs).map Value.ownBlock), o ∈ row2.ownBlock :: (E ++ ((Value.slice A n c :: Us) ++ Vs).map Value.ownBlock) := fun o ho => by
    simp only [List.cons_append, List.map_cons, List.mem_cons, List.mem_append] at ho ⊢
    rcases ho with ho | ho | ho
    · exact .inl ho
    · exact .inr (.inl ho)
    · exact .inr (.inr (.inr ho))
  have hdj : (row2.ownBlock :: (E ++ (Us ++ Vs).map Value.ownBlock)).Pairwise Dj := h.dj.sublist (List.Sublist.cons_cons _ (List.Sublist.append (List.Sublist.refl _) (by simp only [List.cons_append, List.map_cons]; exact List.sublist_cons_self _ _)))
  have hne : ∀ o ∈ row2.ownBlock :: (E ++ (Us ++ Vs).map Value.ownBlock), ∀ k, o = some k → (Value.slice A n c).ownBlock ≠ some k := fun o ho k hk e => by
    have hd := h.dj
    simp only [List.cons_append, List.map_cons] at hd
    simp only [List.mem_cons, List.mem_append] at ho
    rw [List.pairwise_cons] at hd
    obtain ⟨hd1, hd2⟩ := hd
    rw [List.pairwise_append] at hd2
    obtain ⟨hd2, hd3, hd4⟩ := hd2
    rw [List.pairwise_cons] at hd3
    rcases ho with ho | ho | ho
    · exact hd1 _ (by simp) k (ho ▸ hk) e
    · exact hd4 o ho _ (List.mem_cons_self) k hk e
    · exact hd3.1 o ho k e hk
  have h' : QI w w' q room Lq Lr Vs Us E row' (ps ++ [(.slice A n c, .slice none 0 0)]) F' ns' row2 := by
    obtain ⟨ring, ports, fr, e1, e2⟩ := h.qa
    have hG : ∀ o ∈ row2.ownBlock :: (E ++ (Us ++ Vs).map Value.ownBlock), ∀ k, o = some k → ¬ Zo (q + 2) row F k := fun o ho k hk => (h.al o (hsub o ho) k hk).2.2
    refine ⟨hbs, h.wq, ⟨ring, ports, fr, e1.foot hf (fun e => by have := hlow _ e; omega) ?_, e2⟩, h.rf.foot hf (fun e => by have := hlow _ e; omega) (fun k hk => hG _ (List.mem_cons_self) k hk), h.bl.trans (hf.below (fun k hk => by have := hlow _ hk; have := h.wq; omega) h.bl.size), fun u hu => ?_, hdj, fun o ho k hk => ?_⟩
    · rw [e2]
      exact fun v hv k hk => hG v.ownBlock (by simp only [List.mem_cons, List.mem_append, List.mem_map]; exact .inr (.inr ⟨v, .inr hv, rfl⟩)) k hk
    · obtain ⟨A, n, c, xs, f1, f2, f3⟩ := h.uf u (List.mem_cons_of_mem _ hu)
      exact ⟨A, n, c, xs, f1, f2.foot hf (fun k hk => hG u.ownBlock (by simp only [List.mem_cons, List.mem_append, List.mem_map]; exact .inr (.inr ⟨u, .inl hu, rfl⟩)) k hk), f3⟩
    · obtain ⟨f1, f2, f3⟩ := h.al o (hsub o ho) k hk
      refine ⟨f1, Nat.lt_of_lt_of_le f2 hf.size, fun hz' => ?_⟩
      rcases hz k hz' with hz' | hz' | hz'
      · exact f3 hz'
      · exact hne o ho k hk hz'
      · omega
  exact ⟨hu, row', _, F', ns', by simp, h', hf⟩
/-- The block of what went, if anything did. -/
def oB (A : Option Addr) (t : Nat) : Option Nat := if 0 < t then (Value.slice A t t).ownBlock else none
theorem QI.qSend (h : QI w W q room Lq Lr Vs [] E row ps F ns row2) (x : Nat) (hx : x ≤ 9223372036854775807) (hlen : ∀ j, j < Lq.length → (Lq.getD j zCp).2.length ≤ 140737488351232) :
    Calls Tryz.prog 7 #[.pointer (some ⟨q, 0, none⟩), .int .i64 (x : Int)] W fun e w' => ∃ A, e = .returned (.tuple #[.slice A (min x Lq.length) (min x Lq.length), .int .i64 0]) ∧ CpsAt W.heap.size w' q A (Lq.take x) Vs ∧ QI w w' q room (Lq.drop x) Lr (Vs.drop x) ((Vs.take x).map clipV) (oB A (min x Lq.length) :: E) row ps F ns row2 ∧ Foot (fun i => i = q) W w' := by
  obtain ⟨ring, ports, fr, e1, e2⟩ := h.qa
  have hVl : Vs.length = Lq.length := by rw [← e2, ringL_length]
  refine (Send_at W q room ring ports fr Lq e1 x hx).mono ?_
  rintro e w' ⟨A, he, hc, ⟨ring', ports', fr', d1, d2⟩, hf⟩
  rw [e2] at hc d2
  have hbW := h.bW
  have hob : ∀ k, oB A (min x Lq.length) = some k → A = some ⟨k, 0, none⟩ ∧ W.heap.size ≤ k ∧ k < w'.heap.size := fun k hk => by
    unfold oB at hk
    split at hk
    · rename_i ht
      obtain ⟨g, a1, a2, a3, a4⟩ := hc.ad (by rw [List.length_take]; exact ht)
      subst a1
      simp only [Value.ownBlock, Option.some.injEq] at hk
      subst hk
      exact ⟨rfl, a2, a3⟩
    · cases hk
  have hmap : ((Vs.take x).map clipV ++ Vs.drop x).map Value.ownBlock = Vs.map Value.ownBlock := by
    rw [List.map_append, List.map_map]
    have : (Value.ownBlock ∘ clipV) = Value.ownBlock := funext own_clipV
    rw [this, ← List.map_append, List.take_append_drop]
  have e1' : row2.ownBlock :: (E ++ ([] ++ Vs).map Value.ownBlock) = [row2.ownBlock] ++ (E ++ Vs.map Value.ownBlock) := by simp
  have e0 : row2.ownBlock :: ((oB A (min x Lq.length) :: E) ++ ((Vs.take x).map clipV ++ Vs.drop x).map Value.ownBlock) = [row2.ownBlock] ++ oB A (min x Lq.length) :: (E ++ Vs.map Value.ownBlock) := by rw [hmap]; simp
  refine ⟨A, he, hc, ⟨h.bs.foot hf (fun k hk e => by have := (h.bs.lt k hk).1; omega), h.wq, ⟨ring', ports', fr', d1, d2⟩, h.rf.foot hf (by omega) (fun k hk e => by have := (h.ar hk).1; omega), h.bl.trans (hf.below (fun k hk => by have := h.wq; omega) h.bl.size), fun u hu => ?_, ?_, fun o ho k hk => ?_⟩, hf⟩
  · obtain ⟨v0, hv0, rfl⟩ := List.mem_map.1 hu
    obtain ⟨j, hj, e3⟩ := List.getElem_of_mem hv0
    rw [List.length_take] at hj
    rw [List.getElem_take] at e3
    have e4 : Vs.getD j (.slice none 0 0) = v0 := by rw [List.getD_eq_getElem?_getD, List.getElem?_eq_getElem (by omega), e3]; rfl
    have hjt : j < (Lq.take x).length := by rw [List.length_take]; omega
    obtain ⟨g, a1, _⟩ := hc.ad (by omega)
    obtain ⟨_, v, _, A5, c5, b1, b2, b3⟩ := hc.at_ g a1 j hjt
    rw [e4] at b1
    have e5 : (Lq.take x).getD j zCp = Lq.getD j zCp := getD_take _ _ _ _ (by omega)
    rw [e5] at b1 b2 b3
    subst b1
    subst b2
    refine ⟨A5, _, _, _, rfl, b3.rebase (fun k hk => ?_), hlen j (by omega)⟩
    have hm : Value.slice A5 (Lq.getD j zCp).2.length c5 ∈ Vs := by rw [← e3]; exact List.getElem_mem _
    exact (h.av hm (by cases A5 <;> exact hk)).1
  · rw [e0]
    refine pw_ins (e1' ▸ h.dj) (fun o ho k hk e => ?_) (fun o ho k hk e => ?_)
    · have := (h.al o (by rw [e1']; exact List.mem_append_left _ ho) k hk).2.1; have := (hob k e).2.1; omega
    · have := (h.al o (by rw [e1']; exact List.mem_append_right _ ho) k e).2.1; have := (hob k hk).2.1; omega
  · rw [e0] at ho
    replace ho := (List.mem_append.1 ho).imp id List.mem_cons.1
    have hold : o ∈ row2.ownBlock :: (E ++ ([] ++ Vs).map Value.ownBlock) → q + 2 ≤ k ∧ k < w'.heap.size ∧ ¬ Zo (q + 2) row F k := fun ho => by
      obtain ⟨f1, f2, f3⟩ := h.al o ho k hk
      exact ⟨f1, Nat.lt_of_lt_of_le f2 hf.size, f3⟩
    rcases ho with ho | ho | ho
    · exact hold (by rw [e1']; exact List.mem_append_left _ ho)
    · subst ho
      have := hob k hk
      exact ⟨by omega, this.2.2, fun hz => by have := (h.bs.lt k hz).2; omega⟩
    · exact hold (by rw [e1']; exact List.mem_append_right _ ho)
theorem QI.rSend (h : QI w W q room Lq Lr Vs Us E row ps F ns row2) (hr : Lr.length ≤ 64) (x : Nat) (hx : x ≤ 9223372036854775807) :
    Calls Tryz.prog 14 #[.pointer (some ⟨q + 1, 0, none⟩), .int .i64 (x : Int)] W fun e w' => ∃ A n c, e = .returned (.tuple #[.slice A n c, .int .i64 0]) ∧ OutAt w w' (.slice A n c) (Lr.take x) ∧ (∃ row3, QI w w' q room Lq (Lr.drop x) Vs Us E row ps F ns row3) ∧ Foot (fun i => i = q + 1) W w' :=
  (RSend_ok h.rf h.bl.size hr x hx).mono fun e w' ⟨v1, v2, he, d1, d2, d3, d4, hf⟩ => by
    have hv : ∃ A n c, v1 = .slice A n c := by
      obtain ⟨O, _, ⟨base, o2, _⟩, _⟩ := d1
      obtain ⟨A, n, c, e, _⟩ := own_form o2
      exact ⟨A, n, c, e⟩
    obtain ⟨A, n, c, rfl⟩ := hv
    exact ⟨A, n, c, he, d1, ⟨v2, h.rSet (hf.mono (fun k _ hk => .inl hk)) d2 (fun k hk => .inr (d3 k hk)) d2.rlt⟩, hf⟩
/-- Nothing waits to be kept: the block of what went is let go. -/
theorem QI.drop (h : QI w W q room Lq Lr Vs [] E row ps F ns row2) : QI w W q room Lq Lr Vs [] [] row ps F ns row2 := by
  have hsub : ∀ o ∈ row2.ownBlock :: ([] ++ ([] ++ Vs).map Value.ownBlock), o ∈ row2.ownBlock :: (E ++ ([] ++ Vs).map Value.ownBlock) := fun o ho => by
    simp only [List.nil_append, List.mem_cons, List.mem_append] at ho ⊢
    exact ho.imp id .inr
  exact ⟨h.bs, h.wq, h.qa, h.rf, h.bl, fun u hu => (by cases hu), h.dj.sublist (List.Sublist.cons_cons _ (List.sublist_append_right _ _)), fun o ho k hk => h.al o (hsub o ho) k hk⟩
theorem QI.apart (h : QI w W q room Lq Lr Vs Us E row ps F ns row2) (hN : ps.length ≤ 1000000000) :
    Calls Tryz.prog 16 #[.pointer (some ⟨q + 2, 0, none⟩)] W fun e w' => e = .returned (.bool true) ∧ Below w.heap.size w w' :=
  (h.bs.apart hN).mono fun e w' ⟨he, hf⟩ => ⟨he, h.bl.trans (hf.below (fun k hk => by have := (h.bs.lt k hk).1; have := h.wq; omega) h.bl.size)⟩
end
theorem QI.start (w : World) (room : Nat) (hr : room ≤ 64) : QI w (((w.alloc (.cells (qz (room : Int)) 104)).alloc (.cells #[.int .i64 (room : Int), .slice none 0 0] 83)).alloc (.cells (bookCells 0 (.slice none 0 0)) 70)) w.heap.size room [] [] [] [] [] (.slice none 0 0) [] (fun _ _ => False) (fun _ => 0) (.slice none 0 0) := by
  have h1 := QAt.empty w room hr
  have s1 : (w.alloc (.cells (qz (room : Int)) 104)).heap.size = w.heap.size + 1 := World.size_alloc _ _
  have s2 : ((w.alloc (.cells (qz (room : Int)) 104)).alloc (.cells #[.int .i64 (room : Int), .slice none 0 0] 83)).heap.size = w.heap.size + 2 := by rw [World.size_alloc, s1]
  have a1 : Below w.heap.size w (w.alloc (.cells (qz (room : Int)) 104)) := (Below.refl _ _).alloc (Nat.le_refl _) _
  have a2 : Below (w.alloc (.cells (qz (room : Int)) 104)).heap.size (w.alloc (.cells (qz (room : Int)) 104)) ((w.alloc (.cells (qz (room : Int)) 104)).alloc (.cells #[.int .i64 (room : Int), .slice none 0 0] 83)) := (Below.refl _ _).alloc (Nat.le_refl _) _
  have a3 : Below ((w.alloc (.cells (qz (room : Int)) 104)).alloc (.cells #[.int .i64 (room : Int), .slice none 0 0] 83)).heap.size ((w.alloc (.cells (qz (room : Int)) 104)).alloc (.cells #[.int .i64 (room : Int), .slice none 0 0] 83)) (((w.alloc (.cells (qz (room : Int)) 104)).alloc (.cells #[.int .i64 (room : Int), .slice none 0 0] 83)).alloc (.cells (bookCells 0 (.slice none 0 0)) 70)) := (Below.refl _ _).alloc (Nat.le_refl _) _
  have r1 := heap_alloc_new (w.alloc (.cells (qz (room : Int)) 104)) (.cells #[.int .i64 (room : Int), .slice none 0 0] 83)
  rw [s1] at r1
  have b1 := heap_alloc_new ((w.alloc (.cells (qz (room : Int)) 104)).alloc (.cells #[.int .i64 (room : Int), .slice none 0 0] 83)) (.cells (bookCells 0 (.slice none 0 0)) 70)
  rw [s2] at b1
  have hbk : Bk (((w.alloc (.cells (qz (room : Int)) 104)).alloc (.cells #[.int .i64 (room : Int), .slice none 0 0] 83)).alloc (.cells (bookCells 0 (.slice none 0 0)) 70)) (w.heap.size + 2) (w.heap.size + 2) (.slice none 0 0) [] (fun _ _ => False) :=
    ⟨b1, World.ownsRow_nil _ _ _ _, by simp [Value.ownBlock], Nat.le_refl _, fun _ _ h => h.elim, fun _ _ _ h => h.elim⟩
  refine ⟨⟨hbk, fun j p hp => by simp at hp, fun _ => by omega⟩, rfl, ⟨_, _, 0, (h1.below a2).below a3, rfl⟩, ⟨(a3.block _ (by omega)).trans r1, [], rfl, World.ownsRow_nil _ _ _ _, fun j hj => by simp at hj⟩, (a1.trans (a2.mono (by omega))).trans (a3.mono (by omega)), fun u hu => (by cases hu), ?_, fun o ho k hk => ?_⟩
  · simp [Value.ownBlock]
  · simp [Value.ownBlock] at ho
    subst ho
    cases hk
/-- A twin lies in one block. -/
theorem twin_blk {W W' : World} {g k n : Nat} {xs : List Int} (h : TwinAt W g k n xs) (hb : W'.heap[g]? = W.heap[g]?) : TwinAt W' g k n xs := by
  refine ⟨h.1, ⟨h.2.1.1, h.2.1.2.1, fun hn => ?_⟩, (World.cell?_of_block (a := ⟨g, n, none⟩) hb).trans h.2.2.1, h.2.2.2⟩
  obtain ⟨ad, e, hc⟩ := h.2.1.2.2 hn
  injection e with e
  subst e
  exact ⟨_, rfl, fun j hj => (World.cell?_of_block (a := (⟨g, 0, none⟩ : Addr).add j) (by rw [add_block]; exact hb)).trans (hc j hj)⟩
end Go.Proofs.YtdgilloblfbklabGreatDoor.Own
