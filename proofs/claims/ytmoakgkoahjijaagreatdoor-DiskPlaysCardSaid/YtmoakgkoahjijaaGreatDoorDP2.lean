/-
  The law DiskPlays: the disks, a disk of no room, the book, and what is watched.
-/
import Derived.Test.YtmoakgkoahjijaaGreatDoorDP1
import Derived.Test.YtmoakgkoahjijaaGreatDoorBookW
set_option linter.unusedVariables false
set_option linter.unusedSimpArgs false
set_option maxRecDepth 100000
namespace Go.Proofs.YtmoakgkoahjijaaGreatDoor
open Go.RowKit SumsMath

structure MI (w W : World) (z b : Nat) (d r : Option Addr) (room : Int) (S T : Option DSt) (row : Value) (ps : List (Value × Value)) (F : Nat → Nat → Prop) (ns : Nat → Nat) (X : Nat → Prop) : Prop where
  bs : Bs W w.heap.size b row ps F ns
  zr : Zero W z
  zz : ¬ Zo b row F z
  xx : ∀ q, X q → q ≠ z ∧ ¬ Zo b row F q ∧ w.heap.size ≤ q
  bl : Below w.heap.size w W
  pd : PD w.heap.size (fun q => X q ∨ q = z ∨ Zo b row F q) W d r room S T
def MD (w W : World) (z b : Nat) (d r : Option Addr) (room : Int) (S T : Option DSt) (row : Value) (ps : List (Value × Value)) (F : Nat → Nat → Prop) (ns : Nat → Nat) (X : Nat → Prop) (x : Int) (e : Ending) (w' : World) : Prop :=
  e = .returned (.int .i64 x) ∧ MI w w' z b d r room S T row ps F ns X ∧ ∀ q, X q → w'.heap[q]? = W.heap[q]?
section
variable {w W W' : World} {z b : Nat} {d r : Option Addr} {room : Int} {S T S' T' : Option DSt} {row : Value} {ps : List (Value × Value)} {F : Nat → Nat → Prop} {ns : Nat → Nat} {X X' : Nat → Prop} {xs : List Int} {A : Option Addr} {m c : Nat}
theorem MI.zlt (h : MI w W z b d r room S T row ps F ns X) : z < W.heap.size := (Array.getElem?_eq_some_iff.1 h.zr).1
theorem MI.watch (h : MI w W z b d r room S T row ps F ns X) (hb : Below W.heap.size W W') (hX : ∀ q, X' q → X q ∨ (W.heap.size ≤ q ∧ q < W'.heap.size)) : MI w W' z b d r room S T row ps F ns X' := by
  have hz := h.zlt
  have hbs := h.pd.bs
  refine ⟨h.bs.later hb, h.zr.later hb, h.zz, fun q hq => ?_, h.bl.trans (hb.mono hbs), h.pd.renew (Foot.ofBelow hb (fun _ => False)) (fun _ _ h => h.elim) (fun k hk => ?_)⟩
  · rcases hX q hq with hq | hq
    · exact h.xx q hq
    · exact ⟨by omega, fun hzo => by have := (h.bs.lt q hzo).2; omega, by omega⟩
  · rcases hk with hk | hk
    · rcases hX k hk with hk | hk
      · exact ⟨Nat.lt_of_lt_of_le (h.pd.nlt k (.inl hk)) hb.size, .inl (.inl hk)⟩
      · exact ⟨hk.2, .inr hk.1⟩
    · exact ⟨Nat.lt_of_lt_of_le (h.pd.nlt k (.inr hk)) hb.size, .inl (.inr hk)⟩
theorem MI.later (h : MI w W z b d r room S T row ps F ns X) (hb : Below W.heap.size W W') : MI w W' z b d r room S T row ps F ns X := h.watch hb (fun q hq => .inl hq)
theorem MI.work (h : MI w W z b d r room S T row ps F ns X) (hp : PD w.heap.size (fun q => X q ∨ q = z ∨ Zo b row F q) W' d r room S' T') (hw : Wk w.heap.size (fun q => X q ∨ q = z ∨ Zo b row F q) W W') :
    MI w W' z b d r room S' T' row ps F ns X ∧ ∀ q, X q → W'.heap[q]? = W.heap[q]? :=
  ⟨⟨h.bs.foot hw (fun q hq hg => hg.2 (.inr (.inr hq))), Foot.blk hw h.zr (fun hg => hg.2 (.inr (.inl rfl))), h.zz, h.xx, h.bl.trans (Wk.below hw h.pd.bs), hp⟩,
   fun q hq => Foot.block hw q (h.pd.nlt q (.inl hq)) (fun hg => hg.2 (.inl hq))⟩
theorem MI.did {e : Ending} {x : Int} (h : MI w W z b d r room S T row ps F ns X) (hd : Did w.heap.size (fun q => X q ∨ q = z ∨ Zo b row F q) W d r room S' T' x e W') : MD w W z b d r room S' T' row ps F ns X x e W' :=
  ⟨hd.1, h.work hd.2.1 hd.2.2⟩
/-- A write to what is watched. -/
theorem MI.put (h : MI w W z b d r room S T row ps F ns X) (hf : Foot X W W') : MI w W' z b d r room S T row ps F ns X :=
  ⟨h.bs.foot hf (fun q hq hx => (h.xx q hx).2.1 hq), hf.blk h.zr (fun hx => (h.xx z hx).1 rfl), h.zz, h.xx, h.bl.trans (hf.below (fun q hq => (h.xx q hq).2.2) h.pd.bs),
   h.pd.renew hf (fun k _ hk => .inl hk) (fun k hk => ⟨Nat.lt_of_lt_of_le (h.pd.nlt k hk) hf.size, .inl hk⟩)⟩
/-- The book holds one list more. -/
theorem MI.kept {row' : Value} {ps' : List (Value × Value)} {F' : Nat → Nat → Prop} {ns' : Nat → Nat} (h : MI w W z b d r room S T row ps F ns X) (hbs : Bs W' w.heap.size b row' ps' F' ns') (hf : Foot (Zo b row F) W W')
    (hz : ∀ q, Zo b row' F' q → Zo b row F q ∨ X q ∨ W.heap.size ≤ q) : MI w W' z b d r room S T row' ps' F' ns' (fun _ => False) := by
  have hzl := h.zlt
  refine ⟨hbs, hf.blk h.zr h.zz, fun hq => ?_, fun _ h => h.elim, h.bl.trans (hf.below (fun q hq => (h.bs.lt q hq).1) h.pd.bs), h.pd.renew hf (fun k _ hk => .inr (.inr hk)) (fun k hk => ?_)⟩
  · rcases hz z hq with h' | h' | h'
    · exact h.zz h'
    · exact (h.xx z h').1 rfl
    · omega
  · rcases hk with hk | rfl | hk
    · exact hk.elim
    · exact ⟨Nat.lt_of_lt_of_le hzl hf.size, .inl (.inr (.inl rfl))⟩
    · refine ⟨(hbs.lt k hk).2, ?_⟩
      rcases hz k hk with h' | h' | h'
      · exact .inl (.inr (.inr h'))
      · exact .inl (.inl h')
      · exact .inr h'
/-- The book was read through: the disks are as they were. -/
theorem MI.shut (h : MI w W z b d r room S T row ps F ns X) (hf : Foot (Zo b row F) W W') : PD w.heap.size (fun q => q = z) W' d r room S T ∧ Zero W' z ∧ Below w.heap.size w W' :=
  ⟨h.pd.renew hf (fun k _ hk => .inr (.inr hk)) (fun k hk => by subst hk; exact ⟨Nat.lt_of_lt_of_le h.zlt hf.size, .inl (.inr (.inl rfl))⟩), hf.blk h.zr h.zz, h.bl.trans (hf.below (fun q hq => (h.bs.lt q hq).1) h.pd.bs)⟩
theorem MI.dApp (h : MI w W z b d r room S T row ps F ns X) (hx : Bytes xs) (HR : Reads W .u8 A m xs) (hmc : m ≤ c) : Calls Tryz.prog 34 #[.pointer d, .slice A m c] W (MD w W z b d r room (oApp room S xs).2 T row ps F ns X (oApp room S xs).1) := (h.pd.dApp hx HR hmc).mono fun _ _ hd => h.did hd
theorem MI.rApp (h : MI w W z b d r room S T row ps F ns X) (hx : Bytes xs) (HR : Reads W .u8 A m xs) (hmc : m ≤ c) : Calls Tryz.prog 35 #[.pointer r, .slice A m c] W (MD w W z b d r room S (oApp room T xs).2 row ps F ns X (oApp room T xs).1) := (h.pd.rApp hx HR hmc).mono fun _ _ hd => h.did hd
theorem MI.dTrim (n : Int) (h : MI w W z b d r room S T row ps F ns X) : Calls Tryz.prog 28 #[.pointer d, .int .i64 n] W (MD w W z b d r room (oTrim S n).2 T row ps F ns X (oTrim S n).1) := (h.pd.dTrim n).mono fun _ _ hd => h.did hd
theorem MI.rTrim (n : Int) (h : MI w W z b d r room S T row ps F ns X) : Calls Tryz.prog 29 #[.pointer r, .int .i64 n] W (MD w W z b d r room S (oTrim T n).2 row ps F ns X (oTrim T n).1) := (h.pd.rTrim n).mono fun _ _ hd => h.did hd
theorem MI.dFail (n : Int) (h : MI w W z b d r room S T row ps F ns X) : Calls Tryz.prog 30 #[.pointer d, .int .i64 n] W (MD w W z b d r room (oFail S n).2 T row ps F ns X (oFail S n).1) := (h.pd.dFail n).mono fun _ _ hd => h.did hd
theorem MI.rFail (n : Int) (h : MI w W z b d r room S T row ps F ns X) : Calls Tryz.prog 31 #[.pointer r, .int .i64 n] W (MD w W z b d r room S (oFail T n).2 row ps F ns X (oFail T n).1) := (h.pd.rFail n).mono fun _ _ hd => h.did hd
theorem MI.dUp (h : MI w W z b d r room S T row ps F ns X) : Calls Tryz.prog 32 #[.pointer d] W (MD w W z b d r room (oUp S).2 T row ps F ns X (oUp S).1) := h.pd.dUp.mono fun _ _ hd => h.did hd
theorem MI.rUp (h : MI w W z b d r room S T row ps F ns X) : Calls Tryz.prog 33 #[.pointer r] W (MD w W z b d r room S (oUp T).2 row ps F ns X (oUp T).1) := h.pd.rUp.mono fun _ _ hd => h.did hd
/-- A call that makes memory at most. -/
theorem MI.idle {e : Ending} (h : MI w W z b d r room S T row ps F ns X) (he : e = .returned (.int .i64 2)) (hb : Below W.heap.size W W') : MD w W z b d r room S T row ps F ns X 2 e W' :=
  ⟨he, h.later hb, fun q hq => hb.block q (h.pd.nlt q (.inl hq))⟩
theorem MI.zReady (h : MI w W z b d r room S T row ps F ns X) (hb : Below W.heap.size W W') : Calls Tryz.prog 140 #[.pointer (some ⟨z, 0, none⟩)] W' fun e w' => e = .returned (.int .i64 2) ∧ W' = w' := ready_zero z W' (cellOf (h.zr.later hb) 0)
theorem MI.zApp (h : MI w W z b d r room S T row ps F ns X) : Calls Tryz.prog 34 #[.pointer (some ⟨z, 0, none⟩), .slice A m c] W (MD w W z b d r room S T row ps F ns X 2) := (append_none (h.zReady (Below.refl _ _))).mono fun _ _ ⟨he, hw⟩ => h.idle he (hw ▸ Below.refl _ _)
theorem MI.nApp (h : MI w W z b d r room S T row ps F ns X) : Calls Tryz.prog 34 #[.pointer none, .slice A m c] W (MD w W z b d r room S T row ps F ns X 2) := (append_none (ready_nil W)).mono fun _ _ ⟨he, hw⟩ => h.idle he (hw ▸ Below.refl _ _)
theorem MI.zTrim (n : Int) (h : MI w W z b d r room S T row ps F ns X) : Calls Tryz.prog 28 #[.pointer (some ⟨z, 0, none⟩), .int .i64 n] W (MD w W z b d r room S T row ps F ns X 2) := (trim_none n (h.zReady (Below.refl _ _))).mono fun _ _ ⟨he, hw⟩ => h.idle he (hw ▸ Below.refl _ _)
theorem MI.nTrim (n : Int) (h : MI w W z b d r room S T row ps F ns X) : Calls Tryz.prog 28 #[.pointer none, .int .i64 n] W (MD w W z b d r room S T row ps F ns X 2) := (trim_none n (ready_nil W)).mono fun _ _ ⟨he, hw⟩ => h.idle he (hw ▸ Below.refl _ _)
theorem MI.zFail (n : Int) (h : MI w W z b d r room S T row ps F ns X) : Calls Tryz.prog 30 #[.pointer (some ⟨z, 0, none⟩), .int .i64 n] W (MD w W z b d r room S T row ps F ns X 2) := (fail_none n (fun w1 hb => h.zReady hb)).mono fun _ _ ⟨he, hb⟩ => h.idle he hb
theorem MI.nFail (n : Int) (h : MI w W z b d r room S T row ps F ns X) : Calls Tryz.prog 30 #[.pointer none, .int .i64 n] W (MD w W z b d r room S T row ps F ns X 2) := (fail_none n (fun w1 _ => ready_nil w1)).mono fun _ _ ⟨he, hb⟩ => h.idle he hb
theorem MI.zUp (h : MI w W z b d r room S T row ps F ns X) : Calls Tryz.prog 32 #[.pointer (some ⟨z, 0, none⟩)] W (MD w W z b d r room S T row ps F ns X 2) := (up_none (h.zReady (Below.refl _ _))).mono fun _ _ ⟨he, hw⟩ => h.idle he (hw ▸ Below.refl _ _)
theorem MI.nUp (h : MI w W z b d r room S T row ps F ns X) : Calls Tryz.prog 32 #[.pointer none] W (MD w W z b d r room S T row ps F ns X 2) := (up_none (ready_nil W)).mono fun _ _ ⟨he, hw⟩ => h.idle he (hw ▸ Below.refl _ _)
end
end Go.Proofs.YtmoakgkoahjijaaGreatDoor
