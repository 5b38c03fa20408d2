/-
  A region that draws its order: ahead of operation k the operations that only read (under a condition S) are taken first, the others are gone through as they may come up; from k on all go in one order.
-/
import Derived.Test.YtdgilloblfbklabGreatDoorClassTail
import Derived.OrdersHeld
set_option linter.unusedVariables false
set_option linter.unusedSimpArgs false
namespace Go.Proofs.YtdgilloblfbklabGreatDoor.Own
open Go.RowKit

section
variable {P : Program} {ops : Array Oper} {Q : Exit → Act → World → Prop} {md : Region.Mode} {S : World → Prop}

def headH (P : Program) (md : Region.Mode) (ops : Array Oper) (Q : Exit → Act → World → Prop) (S : World → Prop) (k : Nat) (L : Array Bool → Act → World → Prop) : Nat → Array Bool → Act → World → Prop
  | 0, listed, a, w => L listed a w
  | f + 1, listed, a, w => Region.ready md ops listed ≠ [] ∧ ∀ i ∈ Region.ready md ops listed, i < k ∧ wpOp P ops Q i (fun a' w' => S w' ∧ headH P md ops Q S k L f (listed.setIfInBounds i true) a' w') a w

theorem any_of_headH {k g : Nat} {L : Array Bool → Act → World → Prop} (hL : ∀ listed a w, L listed a w → wpAny P md ops Q g listed a w) :
    ∀ (f : Nat) (listed : Array Bool) (a : Act) (w : World), headH P md ops Q S k L f listed a w → wpAny P md ops Q (f + g) listed a w
  | 0, listed, a, w, h => by rw [Nat.zero_add]; exact hL _ _ _ h
  | f + 1, listed, a, w, h => by
    rw [show f + 1 + g = (f + g) + 1 by omega]
    exact ⟨fun h0 => absurd h0 h.1, fun i hi => wpOp_mono (fun a' w' h' => any_of_headH hL f _ a' w' h'.2) (h.2 i hi).2⟩

theorem headH_first {n i : Nat} {oi : Oper} {v : Value} {L : Array Bool → Act → World → Prop} (hi : ops[i]? = some oi) (hsel : ∀ (j : Nat) (o : Oper) cs b, ops[j]? = some o → o.op ≠ .select cs b)
    (hs : Region.sinkB md ops n = true) (hc : Region.chainB md ops n = true) (hn : n < ops.size) (hin : i < n)
    (hdone : ∀ listed a w, L listed a w → ∀ j ∈ Region.ready md ops listed, n ≤ j) (hQ : ∀ c a w, Q (.panic c) (a.put oi.dst v) w → Q (.panic c) a w) :
    ∀ (f : Nat) (listed : Array Bool) (a : Act) (w : World), HeadInv md ops n listed →
      (∀ j oj, ops[j]? = some oj → j ≠ i → listed.getD j true = false → (∀ e ∈ oj.after, Region.binds md e = true → e.on ≠ i) → oi.apart ops oj = true) →
      i ∈ Region.ready md ops listed → YieldsIf P ops S oi v a → S w →
      headH P md ops Q S n L f (listed.setIfInBounds i true) (a.put oi.dst v) w → headH P md ops Q S n L (f + 1) listed a w := by
  intro f
  induction f with
  | zero =>
    intro listed a w inv _ hr hy hS H
    have hun := (mem_ready.1 hr).1
    refine ⟨fun h => (by rw [h] at hr; cases hr), fun j hj => ?_⟩
    have hjn : j < n := (Nat.lt_or_ge j n).elim id fun h => absurd hj (tail_waits hs hc hn inv _ i rfl hin hun j h)
    refine ⟨hjn, ?_⟩
    by_cases hji : j = i
    · subst hji; exact hy.wpOp hi hS ⟨hS, H⟩
    · have := hdone _ _ _ H j (ready_mono hj hji)
      omega
  | succ f ih =>
    intro listed a w inv hfree hr hy hS H
    have hun := (mem_ready.1 hr).1
    refine ⟨fun h => (by rw [h] at hr; cases hr), fun j hj => ?_⟩
    have hjn : j < n := (Nat.lt_or_ge j n).elim id fun h => absurd hj (tail_waits hs hc hn inv _ i rfl hin hun j h)
    refine ⟨hjn, ?_⟩
    by_cases hji : j = i
    · subst hji; exact hy.wpOp hi hS ⟨hS, H⟩
    · have h1 := (H.2 j (ready_mono hj hji)).2
      obtain ⟨hjun, oj, hoj, hall⟩ := mem_ready.1 hj
      have hnot : ∀ e ∈ oj.after, Region.binds md e = true → e.on ≠ i := fun e he hb heq => by
        have h1 := hall e he hb
        rw [heq, getD_both hun] at h1
        cases h1
      have h2 := wpOp_putIf hoj (hfree j oj hoj hji hjun hnot) (fun cs b => hsel i oi cs b hi) (fun cs b => hsel j oj cs b hoj) hQ hy h1
      have hfree' : ∀ k ok, ops[k]? = some ok → k ≠ i → (listed.setIfInBounds j true).getD k true = false →
          (∀ e ∈ ok.after, Region.binds md e = true → e.on ≠ i) → oi.apart ops ok = true := fun k ok hk hki hun hno => by
        refine hfree k ok hk hki ?_ hno
        by_cases hjk : j = k
        · subst hjk; exact hjun
        · rw [getD_set_ne true hjk] at hun; exact hun
      refine wpOp_mono (fun a' w' h3 => ⟨h3.2.1, ih (listed.setIfInBounds j true) a' w' (inv.set hj hjn) hfree' (ready_mono hr (Ne.symm hji)) h3.1 h3.2.1 ?_⟩) h2
      rw [Array.setIfInBounds_comm _ _ hji]
      exact h3.2.2

/-- The walk of the head: what floats is taken first, the rest comes up one by one. -/
inductive Pl where
  | float (i : Nat)
  | one (i : Nat)
/-- Is the plan in order? -/
def Pl.okB (md : Region.Mode) (ops : Array Oper) (k g : Nat) : List Pl → Array Bool → Bool
  | [], listed => Region.seqB md ops g k listed
  | .float i :: l, listed => decide (i < k) && (Region.ready md ops listed).contains i && Region.free md ops listed i && Pl.okB md ops k g l (listed.setIfInBounds i true)
  | .one i :: l, listed => decide (i < k) && decide (Region.ready md ops listed = [i]) && Pl.okB md ops k g l (listed.setIfInBounds i true)
/-- What is to be shown. -/
def Pl.wp (P : Program) (ops : Array Oper) (Q : Exit → Act → World → Prop) (S : World → Prop) (K : Act → World → Prop) : List Pl → Act → World → Prop
  | [], a, w => K a w
  | .float i :: l, a, w => match ops[i]? with
    | none => False
    | some o => ∃ v, YieldsIf P ops S o v a ∧ (∀ c a w, Q (.panic c) (a.put o.dst v) w → Q (.panic c) a w) ∧ Pl.wp P ops Q S K l (a.put o.dst v) w
  | .one i :: l, a, w => match ops[i]? with
    | none => False
    | some o => if Region.wanted o (yielded ops a.tmps) = true then Oper.wp P o a w (fun a' w' => S w' ∧ Pl.wp P ops Q S K l a' w') Q else S w ∧ Pl.wp P ops Q S K l (a.put o.dst undef) w

theorem Pl.head {n g : Nat} {K : Act → World → Prop} (hsel : Region.noSelect ops = true) (hs : Region.sinkB md ops n = true) (hc : Region.chainB md ops n = true) (hn : n < ops.size) :
    ∀ (l : List Pl) (listed : Array Bool) (a : Act) (w : World), HeadInv md ops n listed → Pl.okB md ops n g l listed = true → S w → Pl.wp P ops Q S K l a w →
      headH P md ops Q S n (fun listed' a' w' => Region.seqB md ops g n listed' = true ∧ K a' w') l.length listed a w
  | [], listed, a, w, inv, hB, hS, h => ⟨hB, h⟩
  | .float i :: l, listed, a, w, inv, hB, hS, h => by
    simp only [Pl.okB, Bool.and_eq_true, decide_eq_true_eq] at hB
    obtain ⟨⟨⟨hin, hr⟩, hf⟩, hB'⟩ := hB
    simp only [Pl.wp] at h
    have hr' : i ∈ Region.ready md ops listed := by simpa using hr
    cases ho : ops[i]? with
    | none => rw [ho] at h; exact h.elim
    | some o =>
      rw [ho] at h
      obtain ⟨v, hy, hQ, hK⟩ := h
      exact headH_first ho (Region.noSelect_spec hsel) hs hc hn hin (fun listed' a' w' hL => seqB_ready hL.1) hQ l.length listed a w inv (Region.free_spec ho hf) hr' hy hS
        (Pl.head hsel hs hc hn l _ _ _ (inv.set hr' hin) hB' hS hK)
  | .one i :: l, listed, a, w, inv, hB, hS, h => by
    simp only [Pl.okB, Bool.and_eq_true, decide_eq_true_eq] at hB
    obtain ⟨⟨hin, hr⟩, hB'⟩ := hB
    simp only [Pl.wp] at h
    have hr' : i ∈ Region.ready md ops listed := by rw [hr]; exact List.mem_singleton.2 rfl
    refine ⟨by rw [hr]; simp, fun j hj => ?_⟩
    rw [hr] at hj
    obtain rfl := List.mem_singleton.1 hj
    refine ⟨hin, ?_⟩
    unfold wpOp
    cases ho : ops[j]? with
    | none => rw [ho] at h; exact h.elim
    | some o =>
      rw [ho] at h
      simp only at h ⊢
      split
      · rename_i hw
        rw [if_pos hw] at h
        exact .inl (Oper.wp_mono (fun a' w' h' => ⟨h'.1, Pl.head hsel hs hc hn l _ _ _ (inv.set hr' hin) hB' h'.1 h'.2⟩) h)
      · rename_i hw
        rw [if_neg hw] at h
        exact ⟨h.1, Pl.head hsel hs hc hn l _ _ _ (inv.set hr' hin) hB' h.1 h.2⟩

def Pl.allB (ops : Array Oper) (k : Nat) (l : List Pl) : Bool :=
  Region.noSelect ops && decide (k < ops.size) && Region.sinkB .any ops k && Region.chainB .any ops k && decide (l.length = k) && Pl.okB .any ops k (ops.size - k) l (Array.replicate ops.size false)

theorem any_float {a : Act} {w : World} {l : List Oper} (S : World → Prop) (k : Nat) (pl : List Pl) (hB : Pl.allB l.toArray k pl = true) (hS : S w)
    (h : Pl.wp P l.toArray Q S (fun a' w' => wpList P l.toArray Q (l.drop k) a' w') pl a w) : wpAny P .any l.toArray Q l.toArray.size (Array.replicate l.toArray.size false) a w := by
  simp only [Pl.allB, Bool.and_eq_true, decide_eq_true_eq] at hB
  obtain ⟨⟨⟨⟨⟨hsel, hn⟩, hs⟩, hc⟩, hl⟩, hok⟩ := hB
  have hn' : k < l.length := by simpa using hn
  have hdl : (l.drop k).length = l.length - k := by simp
  have inv0 : HeadInv .any l.toArray k (Array.replicate l.toArray.size false) :=
    ⟨by simp, fun j oj _ hl => (by rw [getD_replicate_false] at hl; cases hl), fun t _ ht => getD_in (by simpa using ht) (getD_replicate_false _ _)⟩
  have H := Pl.head (P := P) (Q := Q) (S := S) hsel hs hc hn pl _ a w inv0 hok hS h
  have := any_of_headH (g := l.length - k) (fun listed a' w' hL => by
    have := wpAny_of_seq (P := P) (md := .any) (Q' := Q) (l.drop k) k listed a' w' (fun j => by simp [List.getElem?_drop]) (by rw [hdl]; simpa using hL.1) hL.2
    rwa [hdl] at this) _ _ _ _ H
  rw [hl, show k + (l.length - k) = l.toArray.size by simp; omega] at this
  exact this

theorem Pl.wp_one {K : Act → World → Prop} {i : Nat} {l : List Pl} {a : Act} {w : World} {o : Oper} (ho : ops[i]? = some o) (hg : o.guard = none) (h : Oper.wp P o a w (fun a' w' => S w' ∧ Pl.wp P ops Q S K l a' w') Q) : Pl.wp P ops Q S K (.one i :: l) a w := by
  simp only [Pl.wp, ho]
  rw [if_pos (by simp [Region.wanted, hg])]
  exact h
theorem Pl.wp_value {K : Act → World → Prop} {i : Nat} {l : List Pl} {a : Act} {w : World} {o : Oper} (ho : ops[i]? = some o) (hg : o.guard = none) (v : Value) (w1 : World) (hr : (execOp a.eval o).run P w = .ok (.value v) w1) (hS : S w1) (h : Pl.wp P ops Q S K l (a.put o.dst v) w1) : Pl.wp P ops Q S K (.one i :: l) a w := by
  refine Pl.wp_one ho hg ?_
  unfold Oper.wp
  rw [hr]
  exact ⟨hS, h⟩
theorem Pl.wp_skip {K : Act → World → Prop} {i : Nat} {l : List Pl} {a : Act} {w : World} {o : Oper} (ho : ops[i]? = some o) (hg : o.guard = none) (w1 : World) (hr : (execOp a.eval o).run P w = .ok .skip w1) (hS : S w1) (h : Pl.wp P ops Q S K l (a.put o.dst undef) w1) : Pl.wp P ops Q S K (.one i :: l) a w := by
  refine Pl.wp_one ho hg ?_
  unfold Oper.wp
  rw [hr]
  exact ⟨hS, h⟩
theorem Pl.wp_float {K : Act → World → Prop} {i : Nat} {l : List Pl} {a : Act} {w : World} {o : Oper} (ho : ops[i]? = some o) (hg : o.guard = none) (v : Value) (hv : ∀ U, S U → (execOp a.eval o).run P U = .ok (.value v) U)
    (hQ : ∀ c a w, Q (.panic c) (a.put o.dst v) w → Q (.panic c) a w) (h : Pl.wp P ops Q S K l (a.put o.dst v) w) : Pl.wp P ops Q S K (.float i :: l) a w := by
  simp only [Pl.wp, ho]
  exact ⟨v, .inl ⟨by simp [Region.wanted, hg], hv⟩, hQ, h⟩
/-- Plainly. -/
theorem region_float {id : Nat} {a : Act} {w : World} {l : List Oper} (S : World → Prop) (k : Nat) (pl : List Pl) (hm : P.follows .mixedOrders = true) (hB : Pl.allB l.toArray k pl = true) (hS : S w.drew)
    (h : Pl.wp P l.toArray Q S (fun a' w' => wpList P l.toArray Q (l.drop k) a' w') pl a w.drew) : (Code.region id l.toArray true).wp P Q a w :=
  wp_region_any hm (any_float S k pl hB hS h)

/-! Under a fence that lets all in. -/
variable {F : Fence} {n : Nat}
structure LetsR (F : Fence) (n : Nat) (P : Program) : Prop extends Lets F n P where
  rows : ∀ row args w R, Rows P row args w R → RowsIn F (n - 1) P row args w R
theorem letsR_wide : LetsR Fence.wide n P := { lets_wide with rows := fun _ _ _ _ h => fun c cs _ => let ⟨v, w', r, s⟩ := h c cs; ⟨v, w', r, stepsIn_wide.2 s⟩ }
theorem letsR_round (l : Nat) : LetsR (Fence.wide.inRound l) n P := { lets_round l with rows := fun _ _ _ _ h => fun c cs _ => let ⟨v, w', r, s⟩ := h c cs; ⟨v, w', r, stepsIn_wide.2 s⟩ }
theorem opIn_of_wp {o : Oper} {a : Act} {w : World} {K K' : Act → World → Prop} (hF : LetsR F n P) (hd : ∀ c, o.op ≠ .defer c) (h : ∀ a w, K a w → K' a w) (hh : o.wp P a w K Q) : o.wpIn F n P a w K' Q := by
  unfold Oper.wp at hh
  refine ⟨fun _ _ => hF.fn _, ?_⟩
  rw [Oper.semAt_eq _ _ _ hd]
  generalize (execOp a.eval o).run P w = r at *
  cases r with
  | ok x w' =>
    cases x <;> simp only [Oper.upon] at hh <;> simp only [Oper.uponIn]
    case enter f args =>
      refine ⟨fun h => (by rw [hF.depth] at h; cases h), hF.calls _ _ _ _ (hh.mono fun e w'' he => ?_)⟩
      cases e <;> first | exact h _ _ he | exact he
    case row row args => exact ⟨fun h => (by rw [hF.depth] at h; cases h), hF.rows _ _ _ _ (hh.mono fun v w'' hk => h _ _ hk)⟩
    all_goals first | exact h _ _ hh | exact hh
  | halt x w' => cases x <;> simp only [Oper.upon] at hh <;> simp only [Oper.uponIn] <;> exact hh
theorem wpOpIn_of_wpOp {i : Nat} {a : Act} {w : World} {K K' : Act → World → Prop} (hF : LetsR F n P) (hd : ∀ (j : Nat) o, ops[j]? = some o → ∀ c, o.op ≠ .defer c) (hQ : ¬ LetsOut Q) (h : ∀ a w, K a w → K' a w) (hh : wpOp P ops Q i K a w) : wpOpIn F n P ops Q i K' a w := by
  unfold wpOp at hh
  unfold wpOpIn
  split
  · rename_i ho; simp only [ho] at hh; exact h _ _ hh
  · rename_i o ho
    simp only [ho] at hh
    split
    · rename_i hw
      simp only [hw, if_true] at hh
      rcases hh with hh | ⟨_, hh⟩
      · exact opIn_of_wp hF (hd i o ho) h hh
      · exact absurd hh hQ
    · rename_i hw
      simp only [hw] at hh
      exact ⟨fun _ _ => hF.fn _, h _ _ hh⟩
theorem anyIn_of_any (hF : LetsR F n P) (hd : ∀ (j : Nat) o, ops[j]? = some o → ∀ c, o.op ≠ .defer c) (hQ : ¬ LetsOut Q) : ∀ (fuel : Nat) (listed : Array Bool) (a : Act) (w : World), wpAny P md ops Q fuel listed a w → wpAnyIn F n P md ops Q fuel listed a w
  | 0, _, _, _, h => h
  | fuel + 1, _, _, _, h => ⟨h.1, fun i hi => wpOpIn_of_wpOp hF hd hQ (fun a' w' => anyIn_of_any hF hd hQ fuel _ a' w') (h.2 i hi)⟩
theorem regionIn_of_any {id : Nat} {a : Act} {w : World} {l0 : List Oper} (hF : LetsR F n P) (hm : P.follows .mixedOrders = true) (hd : noDefer l0 = true) (hQ : ¬ LetsOut Q)
    (h : wpAny P .any l0.toArray Q l0.toArray.size (Array.replicate l0.toArray.size false) a w.drew) : (Code.region id l0.toArray true).wpIn F n P Q a w :=
  wpIn_region_any hm (anyIn_of_any hF (noDefer_spec hd) hQ _ _ _ _ h)
/-- Nothing but the end of the region. -/
def nq (Q : Exit → Act → World → Prop) : Exit → Act → World → Prop
  | .normal, a, w => Q .normal a w
  | _, _, _ => False
theorem regionIn_float {id : Nat} {a : Act} {w : World} {l : List Oper} (S : World → Prop) (k : Nat) (pl : List Pl) (hF : LetsR F n P) (hm : P.follows .mixedOrders = true) (hd : noDefer l = true) (hB : Pl.allB l.toArray k pl = true) (hS : S w.drew)
    (h : ∀ K : Act → World → Prop, (∀ a w, Q .normal a w → K a w) → Pl.wp P l.toArray (nq Q) S (fun a' w' => wpList P l.toArray (nq fun _ => K) (l.drop k) a' w') pl a w.drew) : (Code.region id l.toArray true).wpIn F n P Q a w := by
  refine wpIn_mono (regionIn_of_any (Q := nq Q) hF hm hd (fun ⟨_, _, h⟩ => h) (any_float S k pl hB hS ?_)) (fun e a w h => by cases e <;> first | exact h | exact h.elim)
  exact h (fun a w => Q .normal a w) (fun _ _ h => h)
end
end Go.Proofs.YtdgilloblfbklabGreatDoor.Own
