/-
  The document's disk: what it keeps, and its contracts.
-/
import Derived.Test.YtmoakgkoahjijaaGreatDoorDOp
set_option linter.unusedVariables false
set_option linter.unusedSimpArgs false
set_option maxRecDepth 100000
namespace Go.Proofs.YtmoakgkoahjijaaGreatDoor
open Go.RowKit SumsMath

def rcells (room : Int) (v : Value) (off set : Bool) (n : Int) : Array Value := #[.int .i64 room, v, .bool off, .bool set, .int .i64 n]
/-- The document's disk at block g. -/
def RAt (G : Nat → Prop) (w : World) (g : Nat) (room : Int) (s : DSt) : Prop :=
  G g ∧ (∀ k, G k → k < w.heap.size) ∧ ∃ v set n, w.heap[g]? = some (.cells (rcells room v s.off set n) 113 (0, 0)) ∧ w.ownsRow 0 5 1 v s.bs.length (nums .u8 s.bs) ∧
    (∀ k, v.ownBlock = some k → G k ∧ k ≠ g) ∧ ((s.fl = none ∧ set = false) ∨ (s.fl = some n ∧ set = true))
def RTo (G : Nat → Prop) (w w' : World) (g : Nat) (room : Int) (s : DSt) : Prop :=
  Foot G w w' ∧ ∃ G' : Nat → Prop, (∀ k, G' k → G k ∨ w.heap.size ≤ k) ∧ RAt G' w' g room s
section
variable {G : Nat → Prop} {w w1 : World} {g : Nat} {room : Int} {s : DSt} {xs ys : List Int} {A : Option Addr} {m c : Nat}
theorem RAt.foot {H : Nat → Prop} (h : RAt G w g room s) (hf : Foot H w w1) (hH : ∀ k, G k → ¬ H k) : RAt G w1 g room s := by
  obtain ⟨hg, hF, v, set, n, hb, hown, hv, hfl⟩ := h
  exact ⟨hg, fun k hk => Nat.lt_of_lt_of_le (hF k hk) hf.size, v, set, n, hf.blk hb (hH g hg), hf.own hown (fun k hk => hH k (hv k hk).1), hv, hfl⟩
theorem RAt.later (h : RAt G w g room s) (hb : Below w.heap.size w w1) : RAt G w1 g room s := h.foot (Foot.ofBelow hb (fun _ => False)) (fun _ _ h => h)
theorem RTo.same (h : RAt G w g room s) (hb : Below w.heap.size w w1) : RTo G w w1 g room s := ⟨Foot.ofBelow hb G, G, fun k hk => .inl hk, h.later hb⟩
theorem RTo.after {w' : World} (hb : Below w.heap.size w w1) (h : RTo G w1 w' g room s) : RTo G w w' g room s := by
  obtain ⟨hf, F', hF', hD⟩ := h
  exact ⟨(Foot.ofBelow hb G).trans hf (fun i hi => .inl hi), F', fun k hk => (hF' k hk).imp id (fun h => Nat.le_trans hb.size h), hD⟩
/-- What an Append leaves. -/
theorem put_ref {bs' : List Int} {v v1 : Value} {off set : Bool} {n : Int} (hg : G g) (hF : ∀ k, G k → k < w.heap.size) (hb : w.heap[g]? = some (.cells (rcells room v off set n) 113 (0, 0)))
    (hv : ∀ k, v.ownBlock = some k → G k ∧ k ≠ g) (hown : w1.ownsRow 0 5 1 v1 bs'.length (nums .u8 bs')) (hgr : w.grownBy w1 v.ownBlock) (hat : v1.ownBlock = v.ownBlock ∨ v1.ownBlock = some w.heap.size) :
    Foot G w (w1.setCell ⟨g, 1, none⟩ v1) ∧ (w1.setCell ⟨g, 1, none⟩ v1).heap[g]? = some (.cells (rcells room v1 off set n) 113 (0, 0)) ∧ (w1.setCell ⟨g, 1, none⟩ v1).ownsRow 0 5 1 v1 bs'.length (nums .u8 bs') ∧
      (∀ k, v1.ownBlock = some k → (G k ∨ (w.heap.size ≤ k ∧ k < (w1.setCell ⟨g, 1, none⟩ v1).heap.size)) ∧ k ≠ g) := by
  have hlt := hF g hg
  have hv1 : ∀ k, v1.ownBlock = some k → (G k ∨ (w.heap.size ≤ k ∧ k < w1.heap.size)) ∧ k ≠ g := by
    intro k hk
    rcases hat with h | h
    · rw [h] at hk
      exact ⟨.inl (hv k hk).1, (hv k hk).2⟩
    · have hl := (hown.lt k hk).2
      rw [h] at hk
      injection hk with hk
      subst hk
      exact ⟨.inr ⟨Nat.le_refl _, hl⟩, by omega⟩
  have hb1 : w1.heap[g]? = some (.cells (rcells room v off set n) 113 (0, 0)) := (hgr.block g hlt (fun e => (hv g e.symm).2 rfl)).trans hb
  refine ⟨((Foot.refl G w).grown hgr (fun k hk => .inl (hv k hk).1)).setCell (.inl hg) _, ?_, own_set hown (fun e => (hv1 g e).2 rfl) _, ?_⟩
  · rw [blk_set hb1 1 v1]; rfl
  · intro k hk
    have := hv1 k hk
    simpa [World.setCell] using this

theorem rappend_off (g : Nat) (w : World) (h2 : w.cell? ⟨g, 2, none⟩ = some (.bool true)) :
    Calls Tryz.prog 35 #[.pointer (some ⟨g, 0, none⟩), .slice A m c] w fun e w' => e = .returned (.int .i64 13) ∧ w = w' := by
  go_enter Tryz.func35, Tryz.ntmps35
  go_wp2
  go_ret
  exact ⟨rfl, rfl⟩
theorem rappend_full (g : Nat) (room : Int) (D : Option Addr) (n d : Nat) (A : Option Addr) (m c : Nat) (w : World) (h0 : w.cell? ⟨g, 0, none⟩ = some (.int .i64 room)) (h1 : w.cell? ⟨g, 1, none⟩ = some (.slice D n d)) (h2 : w.cell? ⟨g, 2, none⟩ = some (.bool false))
    (hr1 : 0 ≤ room) (hr2 : room ≤ 16777216) (hn : n ≤ 16777216) (hm : m ≤ 9223372036854775807) (hfull : room - (n : Int) < (m : Int)) :
    Calls Tryz.prog 35 #[.pointer (some ⟨g, 0, none⟩), .slice A m c] w fun e w' => e = .returned (.int .i64 10) ∧ ∃ q, w' = w.drewN q := by
  have g1 : decide (room - (n : Int) < (m : Int)) = true := decide_eq_true hfull
  go_enter Tryz.func35, Tryz.ntmps35
  go_wp2_with fail
  go_quiet (fail)
  go_wp2
  go_ret
  exact ⟨rfl, _, rfl⟩
theorem rappend_ok (g : Nat) (room : Int) (v : Value) (n0 : Int) (bs ys : List Int) (A : Option Addr) (m c : Nat) (w : World) (hb : w.heap[g]? = some (.cells (rcells room v false false n0) 113 (0, 0)))
    (hown : w.ownsRow 0 5 1 v bs.length (nums .u8 bs)) (HR : Reads w .u8 A m ys) (hne : ∀ k, v.ownBlock = some k → k ≠ g)
    (hr1 : 0 ≤ room) (hr2 : room ≤ 16777216) (hroom : (m : Int) ≤ room - (bs.length : Int)) :
    Calls Tryz.prog 35 #[.pointer (some ⟨g, 0, none⟩), .slice A m c] w fun e w' => e = .returned (.int .i64 0) ∧ ∃ v1 w1, w1.ownsRow 0 5 1 v1 (bs ++ ys).length (nums .u8 (bs ++ ys)) ∧ w.grownBy w1 v.ownBlock ∧ (v1.ownBlock = v.ownBlock ∨ v1.ownBlock = some w.heap.size) ∧
      w' = w1.setCell ⟨g, 1, none⟩ v1 := by
  obtain ⟨D, d, rfl, hnd, HD⟩ := own_reads hown
  have hlt := (Array.getElem?_eq_some_iff.1 hb).1
  have h0 : w.cell? ⟨g, 0, none⟩ = some (.int .i64 room) := cellOf hb 0
  have h1 : w.cell? ⟨g, 1, none⟩ = some (.slice D bs.length d) := cellOf hb 1
  have h2 : w.cell? ⟨g, 2, none⟩ = some (.bool false) := cellOf hb 2
  have h3 : w.cell? ⟨g, 3, none⟩ = some (.bool false) := cellOf hb 3
  have hbl : bs.length ≤ 16777216 := by omega
  have hml : m ≤ 16777216 := by omega
  have HB := aside' hb
  have HO := aside' hown
  have HRA := aside' HR
  have HNE := aside' hne
  have g1 : decide (room - (bs.length : Int) < (m : Int)) = false := decide_eq_false (by omega)
  clear hb hown HR hne HD
  go_enter Tryz.func35, Tryz.ntmps35
  go_wp2_with fail
  go_quiet (fail)
  go_wp2_with (at_builtin; refine append_row 0 rfl _ _ 24 5 .u8 1 rfl Tryz.underlying24 info5 (by omega) (.slice D bs.length d) bs ys A m c rfl rfl HO.out HRA.out (Nat.zero_le _) (by omega) ?_)
  intro v1 w1 hown1 hg1 hat1
  obtain ⟨A1, L1, k1, rfl, HL1⟩ := own_form hown1
  have hb1 : w1.heap[g]? = some (.cells (rcells room (.slice D bs.length d) false false n0) 113 (0, 0)) := (hg1.block g hlt (fun e => HNE.out g e.symm rfl)).trans HB.out
  have c1 : w1.cell? ⟨g, 1, none⟩ = some (.slice D bs.length d) := cellOf hb1 1
  have f1 := frozenOf hb1 1
  clear hb1
  go_wp2
  go_ret
  exact ⟨rfl, _, w1, by simpa using hown1, ⟨hg1.os, hg1.tape, hg1.output, hg1.size, hg1.block⟩, hat1, rfl⟩
set_option maxHeartbeats 1600000 in
theorem rappend_fail (g : Nat) (room : Int) (v : Value) (n : Int) (bs ys : List Int) (k : Nat) (A : Option Addr) (m c : Nat) (w : World) (hb : w.heap[g]? = some (.cells (rcells room v false true n) 113 (0, 0)))
    (hown : w.ownsRow 0 5 1 v bs.length (nums .u8 bs)) (HR : Reads w .u8 A m ys) (hmc : m ≤ c) (hne : ∀ k, v.ownBlock = some k → k ≠ g) (hn : 0 ≤ n) (hk : k = min n.toNat m)
    (hr1 : 0 ≤ room) (hr2 : room ≤ 16777216) (hroom : (m : Int) ≤ room - (bs.length : Int)) :
    Calls Tryz.prog 35 #[.pointer (some ⟨g, 0, none⟩), .slice A m c] w fun e w' => e = .returned (.int .i64 13) ∧ ∃ v1 w1, w1.ownsRow 0 5 1 v1 (bs ++ ys.take n.toNat).length (nums .u8 (bs ++ ys.take n.toNat)) ∧ w.grownBy w1 v.ownBlock ∧
      (v1.ownBlock = v.ownBlock ∨ v1.ownBlock = some w.heap.size) ∧ w' = ((w1.setCell ⟨g, 1, none⟩ v1).setCell ⟨g, 2, none⟩ (.bool true)).setCell ⟨g, 3, none⟩ (.bool false) := by
  obtain ⟨D, d, rfl, hnd, HD⟩ := own_reads hown
  have hlt := (Array.getElem?_eq_some_iff.1 hb).1
  have h0 : w.cell? ⟨g, 0, none⟩ = some (.int .i64 room) := cellOf hb 0
  have h1 : w.cell? ⟨g, 1, none⟩ = some (.slice D bs.length d) := cellOf hb 1
  have h2 : w.cell? ⟨g, 2, none⟩ = some (.bool false) := cellOf hb 2
  have h3 : w.cell? ⟨g, 3, none⟩ = some (.bool true) := cellOf hb 3
  have h4 : w.cell? ⟨g, 4, none⟩ = some (.int .i64 n) := cellOf hb 4
  have hbl : bs.length ≤ 16777216 := by omega
  have hml : m ≤ 16777216 := by omega
  have hyl : ys.length = m := HR.1
  have HT : Aside (Reads w .u8 A k (ys.take n.toNat)) := by
    have := HR.take_ (min n.toNat m) (by omega)
    rw [← hyl, ← List.take_eq_take_min, hyl] at this
    rw [hk]
    exact this
  have HB := aside' hb
  have HO := aside' hown
  have HNE := aside' hne
  have HLT : Aside (g < w.heap.size) := hlt
  have g1 : decide (room - (bs.length : Int) < (m : Int)) = false := decide_eq_false (by omega)
  have hle : k ≤ m := by omega
  have hkn : (k : Int) = min n (m : Int) := by omega
  have m1 : min n (m : Int) = (k : Int) := hkn.symm
  have m2 : (if n ≤ (m : Int) then n else (m : Int)) = (k : Int) := by split <;> omega
  have m3 : (if (m : Int) < n then (m : Int) else n) = (k : Int) := by split <;> omega
  have hkc : k ≤ c := by omega
  have hk0 : (0 : Int) ≤ (k : Int) := by omega
  have hkcI : (k : Int) ≤ (c : Int) := by omega
  clear hb hown HR hne HD hyl hlt hk hkn
  go_enter Tryz.func35, Tryz.ntmps35
  go_wp2_with fail
  go_quiet (fail)
  go_wp2_with fail
  go_region_law ((refine step_append_row 0 (by rfl) _ _ 24 5 .u8 1 (by rfl) Tryz.underlying24 info5 (by omega) (.slice D bs.length d) bs (ys.take n.toNat) A k c (by rfl) (by rfl) (by exact HO.out) (by exact HT.out) (Nat.zero_le _) (by omega) ?_; intro v1 w1 hown1 hg1 hat1; obtain ⟨A1, L1, k1, rfl, HL1⟩ := own_form hown1; have HB1 : Aside (w1.heap[g]? = some (.cells (rcells room (.slice D bs.length d) false true n) 113 (0, 0))) := (hg1.block g HLT.out (fun e => HNE.out g e.symm rfl)).trans HB.out; have kA : w1.cell? ⟨g, 1, none⟩ = some (.slice D bs.length d) := cellOf HB1.out 1; have k2 : w1.cell? ⟨g, 2, none⟩ = some (.bool false) := cellOf HB1.out 2; have k3 : w1.cell? ⟨g, 3, none⟩ = some (.bool true) := cellOf HB1.out 3; have kf := frozenOf HB1.out 1; have kf2 := frozenOf HB1.out 2; have kf3 := frozenOf HB1.out 3))
  all_goals go_wp2
  all_goals go_ret
  all_goals exact ⟨rfl, _, w1, by simpa using hown1, ⟨hg1.os, hg1.tape, hg1.output, hg1.size, hg1.block⟩, hat1, rfl⟩
end
end Go.Proofs.YtmoakgkoahjijaaGreatDoor
