/-
  The law DiskPlays: the middle of a round.
-/
import Derived.Test.YtmoakgkoahjijaaGreatDoorDP3
import Derived.Test.YtmoakgkoahjijaaGreatDoorTwin
set_option linter.unusedVariables false
set_option linter.unusedSimpArgs false
namespace Go.Proofs.YtmoakgkoahjijaaGreatDoor
open Go.RowKit SumsMath

/-- The middle of a round: the op's box q, the bytes' twin g. -/
structure Mid (w : World) (z b : Nat) (d r : Option Addr) (room : Int) (row : Value) (ps : List (Value × Value)) (F : Nat → Nat → Prop) (ns : Nat → Nat) (q g kt : Nat) (bx : Obj) (x : List Int) (S T : Option DSt) (W : World) : Prop where
  mi : MI w W z b d r room S T row ps F ns (fun j => j = q ∨ j = g)
  bx : W.heap[q]? = some bx
  tw : TwinAt W g kt x.length x
  ow : W.ownsRow w.heap.size 5 1 (.slice (some ⟨g, 0, none⟩) x.length kt) x.length (nums .u8 x)
theorem own_blk {W W' : World} {base n : Nat} {e : TypeId} {size : Nat} {v : Value} {xs : List Value} (h : W.ownsRow base e size v n xs) (hb : ∀ k, v.ownBlock = some k → W'.heap[k]? = W.heap[k]?) : W'.ownsRow base e size v n xs := by
  refine ⟨h.1, h.2.elim .inl ?_⟩
  rintro ⟨g, cap, cur, rfl, h2, h3, r⟩
  exact .inr ⟨g, cap, cur, rfl, h2, (hb g rfl).trans h3, r⟩
theorem twin_blk {W W' : World} {g k n : Nat} {xs : List Int} (h : TwinAt W g k n xs) (hb : W'.heap[g]? = W.heap[g]?) : TwinAt W' g k n xs := by
  refine ⟨h.1, ⟨h.2.1.1, h.2.1.2.1, fun hn => ?_⟩, (World.cell?_of_block (a := ⟨g, n, none⟩) hb).trans h.2.2.1, h.2.2.2⟩
  obtain ⟨ad, e, hc⟩ := h.2.1.2.2 hn
  injection e with e
  subst e
  exact ⟨_, rfl, fun j hj => (World.cell?_of_block (a := (⟨g, 0, none⟩ : Addr).add j) (by rw [add_block]; exact hb)).trans (hc j hj)⟩
section
variable {w W W' : World} {z b : Nat} {d r : Option Addr} {room : Int} {row : Value} {ps : List (Value × Value)} {F : Nat → Nat → Prop} {ns : Nat → Nat} {q g kt : Nat} {bx : Obj} {x : List Int} {S T S' T' : Option DSt} {A : Option Addr} {m c : Nat}
theorem Mid.go {e : Ending} {y : Int} (h : Mid w z b d r room row ps F ns q g kt bx x S T W) (hd : MD w W z b d r room S' T' row ps F ns (fun j => j = q ∨ j = g) y e W') : e = .returned (.int .i64 y) ∧ Mid w z b d r room row ps F ns q g kt bx x S' T' W' :=
  ⟨hd.1, hd.2.1, (hd.2.2 q (.inl rfl)).trans h.bx, twin_blk h.tw (hd.2.2 g (.inr rfl)), own_blk h.ow (fun k hk => hd.2.2 k (.inr (by simp only [Value.ownBlock, Option.some.injEq] at hk; exact hk.symm)))⟩
theorem Mid.later (h : Mid w z b d r room row ps F ns q g kt bx x S T W) (hb : Below W.heap.size W W') : Mid w z b d r room row ps F ns q g kt bx x S T W' :=
  ⟨h.mi.later hb, (hb.block q (h.mi.pd.nlt q (.inl (.inl rfl)))).trans h.bx, twin_blk h.tw (hb.block g (h.mi.pd.nlt g (.inl (.inr rfl)))), own_blk h.ow (fun k hk => hb.block k (h.mi.pd.nlt k (.inl (.inr (by simp only [Value.ownBlock, Option.some.injEq] at hk; exact hk.symm)))))⟩
theorem Mid.dApp (h : Mid w z b d r room row ps F ns q g kt bx x S T W) (hx : Bytes x) (HR : Reads W .u8 A m x) (hmc : m ≤ c) : Calls Tryz.prog 34 #[.pointer d, .slice A m c] W fun e w' => e = .returned (.int .i64 (oApp room S x).1) ∧ Mid w z b d r room row ps F ns q g kt bx x (oApp room S x).2 T w' :=
  (h.mi.dApp hx HR hmc).mono fun _ _ hd => h.go hd
theorem Mid.rApp (h : Mid w z b d r room row ps F ns q g kt bx x S T W) (hx : Bytes x) (HR : Reads W .u8 A m x) (hmc : m ≤ c) : Calls Tryz.prog 35 #[.pointer r, .slice A m c] W fun e w' => e = .returned (.int .i64 (oApp room T x).1) ∧ Mid w z b d r room row ps F ns q g kt bx x S (oApp room T x).2 w' :=
  (h.mi.rApp hx HR hmc).mono fun _ _ hd => h.go hd
theorem Mid.zApp (h : Mid w z b d r room row ps F ns q g kt bx x S T W) : Calls Tryz.prog 34 #[.pointer (some ⟨z, 0, none⟩), .slice A m c] W fun e w' => e = .returned (.int .i64 2) ∧ Mid w z b d r room row ps F ns q g kt bx x S T w' :=
  (h.mi.zApp).mono fun _ _ hd => h.go hd
theorem Mid.nApp (h : Mid w z b d r room row ps F ns q g kt bx x S T W) : Calls Tryz.prog 34 #[.pointer none, .slice A m c] W fun e w' => e = .returned (.int .i64 2) ∧ Mid w z b d r room row ps F ns q g kt bx x S T w' :=
  (h.mi.nApp).mono fun _ _ hd => h.go hd
theorem Mid.dTrim (n : Int) (h : Mid w z b d r room row ps F ns q g kt bx x S T W) : Calls Tryz.prog 28 #[.pointer d, .int .i64 n] W fun e w' => e = .returned (.int .i64 (oTrim S n).1) ∧ Mid w z b d r room row ps F ns q g kt bx x (oTrim S n).2 T w' :=
  (MI.dTrim n h.mi).mono fun _ _ hd => h.go hd
theorem Mid.rTrim (n : Int) (h : Mid w z b d r room row ps F ns q g kt bx x S T W) : Calls Tryz.prog 29 #[.pointer r, .int .i64 n] W fun e w' => e = .returned (.int .i64 (oTrim T n).1) ∧ Mid w z b d r room row ps F ns q g kt bx x S (oTrim T n).2 w' :=
  (MI.rTrim n h.mi).mono fun _ _ hd => h.go hd
theorem Mid.zTrim (n : Int) (h : Mid w z b d r room row ps F ns q g kt bx x S T W) : Calls Tryz.prog 28 #[.pointer (some ⟨z, 0, none⟩), .int .i64 n] W fun e w' => e = .returned (.int .i64 2) ∧ Mid w z b d r room row ps F ns q g kt bx x S T w' :=
  (MI.zTrim n h.mi).mono fun _ _ hd => h.go hd
theorem Mid.nTrim (n : Int) (h : Mid w z b d r room row ps F ns q g kt bx x S T W) : Calls Tryz.prog 28 #[.pointer none, .int .i64 n] W fun e w' => e = .returned (.int .i64 2) ∧ Mid w z b d r room row ps F ns q g kt bx x S T w' :=
  (MI.nTrim n h.mi).mono fun _ _ hd => h.go hd
theorem Mid.dFail (n : Int) (h : Mid w z b d r room row ps F ns q g kt bx x S T W) : Calls Tryz.prog 30 #[.pointer d, .int .i64 n] W fun e w' => e = .returned (.int .i64 (oFail S n).1) ∧ Mid w z b d r room row ps F ns q g kt bx x (oFail S n).2 T w' :=
  (MI.dFail n h.mi).mono fun _ _ hd => h.go hd
theorem Mid.rFail (n : Int) (h : Mid w z b d r room row ps F ns q g kt bx x S T W) : Calls Tryz.prog 31 #[.pointer r, .int .i64 n] W fun e w' => e = .returned (.int .i64 (oFail T n).1) ∧ Mid w z b d r room row ps F ns q g kt bx x S (oFail T n).2 w' :=
  (MI.rFail n h.mi).mono fun _ _ hd => h.go hd
theorem Mid.zFail (n : Int) (h : Mid w z b d r room row ps F ns q g kt bx x S T W) : Calls Tryz.prog 30 #[.pointer (some ⟨z, 0, none⟩), .int .i64 n] W fun e w' => e = .returned (.int .i64 2) ∧ Mid w z b d r room row ps F ns q g kt bx x S T w' :=
  (MI.zFail n h.mi).mono fun _ _ hd => h.go hd
theorem Mid.nFail (n : Int) (h : Mid w z b d r room row ps F ns q g kt bx x S T W) : Calls Tryz.prog 30 #[.pointer none, .int .i64 n] W fun e w' => e = .returned (.int .i64 2) ∧ Mid w z b d r room row ps F ns q g kt bx x S T w' :=
  (MI.nFail n h.mi).mono fun _ _ hd => h.go hd
theorem Mid.dUp (h : Mid w z b d r room row ps F ns q g kt bx x S T W) : Calls Tryz.prog 32 #[.pointer d] W fun e w' => e = .returned (.int .i64 (oUp S).1) ∧ Mid w z b d r room row ps F ns q g kt bx x (oUp S).2 T w' :=
  (h.mi.dUp).mono fun _ _ hd => h.go hd
theorem Mid.rUp (h : Mid w z b d r room row ps F ns q g kt bx x S T W) : Calls Tryz.prog 33 #[.pointer r] W fun e w' => e = .returned (.int .i64 (oUp T).1) ∧ Mid w z b d r room row ps F ns q g kt bx x S (oUp T).2 w' :=
  (h.mi.rUp).mono fun _ _ hd => h.go hd
theorem Mid.zUp (h : Mid w z b d r room row ps F ns q g kt bx x S T W) : Calls Tryz.prog 32 #[.pointer (some ⟨z, 0, none⟩)] W fun e w' => e = .returned (.int .i64 2) ∧ Mid w z b d r room row ps F ns q g kt bx x S T w' :=
  (h.mi.zUp).mono fun _ _ hd => h.go hd
theorem Mid.nUp (h : Mid w z b d r room row ps F ns q g kt bx x S T W) : Calls Tryz.prog 32 #[.pointer none] W fun e w' => e = .returned (.int .i64 2) ∧ Mid w z b d r room row ps F ns q g kt bx x S T w' :=
  (h.mi.nUp).mono fun _ _ hd => h.go hd
end
end Go.Proofs.YtmoakgkoahjijaaGreatDoor
