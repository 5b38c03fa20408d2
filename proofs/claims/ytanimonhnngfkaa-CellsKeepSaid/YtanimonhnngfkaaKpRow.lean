/-
  pointsman's law CellsKeep answers true for every input, and each argument reads behind the call as it read before.
-/
import Derived.Test.YtanimonhnngfkaaRows
import Derived.Test.YtanimonhnngfkaaKpA
import Derived.Test.YtanimonhnngfkaaKpC
import Derived.OpenShut
import Derived.ShutString
import Derived.ChangeOld
import Derived.Below
set_option linter.unusedVariables false
set_option linter.unusedSimpArgs false
namespace Go.Proofs.Ytanimonhnngfkaa.CellsKeep
open Go.ChangeShapes Go.WideShapes Go.ChangeAt Go.RowKit Go.Proofs.Ytanimonhnngfkaa.Own Go.Proofs.Ytanimonhnngfkaa.K
open Go.ChangeMaps (open_string shut_string)

theorem own : ownKnob Try.prog.godebug = none := by kernel_rfl
theorem laidOut : laidOutB Try.prog = true := by kernel_rfl

set_option maxRecDepth 100000 in
set_option maxHeartbeats 1000000 in
theorem lifted (os : Os) (started : os.Started) (H : Type) (enc : TypeId × Value → H) :
    ReturnsInHanded {} Try.checked os 6 .any (Rows.cellsKeepSpec.pre6 enc Try.prog Try.f6 Rows.cellsKeepRow.domain false) (Rows.cellsKeepSpec.post enc Try.prog Try.f6 false true false false) := by
  refine returnsInHanded_of_change_sized (C := Try.checked) own started (by kernel_rfl) Try.func6
    (ChangeSpec.witness6 (enc := enc) (C := Try.checked) false ⟨#[], #[.agg #[.string .empty, .int .u8 0, .int .i64 0, .int .i64 0, .int .i64 0, .slice none 0 0, .slice none 0 0], .agg #[.int .i64 0, .int .u64 0, .int .u64 0], .agg #[.int .i64 0, .int .u64 0, .int .u64 0]], []⟩ 8 (by kernel_rfl) (by kernel_rfl) (by kernel_rfl) (by kernel_rfl)) ?_
  intro W base args ds gs before hval0 hW hcnd hsz0 _
  have hsz : (DataW.weightsEach Try.prog (Try.f6.params.toList ++ Rows.cellsKeepSpec.plain.varTypes Try.prog) (ds ++ gs)).all (· ≤ reachBytes) = true := hsz0
  have hval : ∀ (j : Nat) t v, Try.f6.params[j]? = some t → args[j]? = some v → Value.okWide Try.prog W .any base t v := hval0
  have hW' := hW
  obtain ⟨p, q, hA0, hV, rfl, hfz, hnd⟩ := hW
  have hA : DataW.TrodAll enc Try.prog W 0 (fun _ => true) true Try.f6.params.toList args.toList ds p := hA0
  rw [Try.params6] at hA hval hsz
  obtain ⟨v0, vs0, d0, ds0, p0, q0, hargs, rfl, rfl, h0, r0⟩ := trodAll_cons hA
  obtain ⟨v1, vs1, d1, ds1, p1, q1, rfl, rfl, rfl, h1, r1⟩ := trodAll_cons r0
  obtain ⟨v2, vs2, d2, ds2, p2, q2, rfl, rfl, rfl, h2, r2⟩ := trodAll_cons r1
  obtain ⟨rfl, rfl, rfl⟩ := trodAll_nil r2
  obtain rfl : args = #[v0, v1, v2] := by cases args; simp_all
  obtain ⟨rfl, rfl⟩ := trodVars_none hV
  have k0_ := h0
  have lt0_ : ∀ x ∈ p0, x.block < W.heap.size := by obtain ⟨m, hm⟩ := k0_; exact DataW.trod_lt m _ _ _ hm
  have c0 := Came.of_args hsz (j := 0) (t := 38) rfl rfl h0
  have k1_ := h1
  have lt1_ : ∀ x ∈ p1, x.block < W.heap.size := by obtain ⟨m, hm⟩ := k1_; exact DataW.trod_lt m _ _ _ hm
  have c1 := Came.of_args hsz (j := 1) (t := 45) rfl rfl h1
  have k2_ := h2
  have lt2_ : ∀ x ∈ p2, x.block < W.heap.size := by obtain ⟨m, hm⟩ := k2_; exact DataW.trod_lt m _ _ _ hm
  have c2 := Came.of_args hsz (j := 2) (t := 45) rfl rfl h2
  have hcall : Calls Try.prog 6 #[v0, v1, v2] W fun e w' => e = .returned (.bool true) ∧ Below W.heap.size W w' := by
    obtain ⟨cs0, e0, _⟩ := okWide_struct Try.underlying38 (hval 0 38 v0 rfl rfl)
    rw [e0] at c0
    obtain ⟨cs1, e1, _⟩ := okWide_struct Try.underlying45 (hval 1 45 v1 rfl rfl)
    rw [e1] at c1
    obtain ⟨cs2, e2, _⟩ := okWide_struct Try.underlying45 (hval 2 45 v2 rfl rfl)
    rw [e2] at c2
    rw [e0, e1, e2]
    clear hval hval0 hsz hsz0 hA hA0 hW' hcnd hfz hnd hargs hV h0 k0_ lt0_ h1 k1_ lt1_ h2 k2_ lt2_
    obtain ⟨a, A, n, c, B, m, d, hc, hnc, hmd, hBd, hR, hS, hw⟩ := c0.arr
    have hcs0 : cs0 = a.vals A n c B m d := by
      have h : cs0.toList = (a.vals A n c B m d).toList := by simpa [Value.cells] using hc
      exact Array.toList_inj.1 h
    subst hcs0
    obtain ⟨x, hx, wx⟩ := c1.num
    have hcs1 : Value.agg cs1 = x.v := by
      have h : cs1.toList = [.int .i64 x.W, .int .u64 x.Hi, .int .u64 x.Lo] := by simpa [Value.cells] using hx
      have h2 : cs1 = #[.int .i64 x.W, .int .u64 x.Hi, .int .u64 x.Lo] := Array.toList_inj.1 h
      rw [h2]; rfl
    obtain ⟨y, hy, wy⟩ := c2.num
    have hcs2 : Value.agg cs2 = y.v := by
      have h : cs2.toList = [.int .i64 y.W, .int .u64 y.Hi, .int .u64 y.Lo] := by simpa [Value.cells] using hy
      have h2 : cs2 = #[.int .i64 y.W, .int .u64 y.Hi, .int .u64 y.Lo] := Array.toList_inj.1 h
      rw [h2]; rfl
    rw [hcs1, hcs2]
    exact Keep_any a hw A n c B m d hnc hmd hBd x y wx wy W hR hS
  refine hcall.mono fun e W' ⟨he, bel⟩ => ?_
  subst he
  exact ⟨_, rfl, _, _, _, [], _, [], hW', trodAll_mk1 (shut_bool Try.underlying4 _), (trodAll_cons_mk (Below.trod laidOut (by kernel_rfl) (of_decide_eq_true (by kernel_rfl)) k0_ bel lt0_) (trodAll_cons_mk (Below.trod laidOut (by kernel_rfl) (of_decide_eq_true (by kernel_rfl)) k1_ bel lt1_) (trodAll_cons_mk (Below.trod laidOut (by kernel_rfl) (of_decide_eq_true (by kernel_rfl)) k2_ bel lt2_) trodAll_mk0))), rfl, bel.frame _, fun h => by cases h⟩

theorem over : Rows.cellsKeepRow.holds Try.pinned (OpenSpec.ofChange Rows.cellsKeepSpec) :=
  OpenClaim.holds_of_wide 6 Try.f6 rfl rfl rfl rfl rfl rfl rfl ⟨rfl, rfl, rfl, rfl, rfl⟩ rfl rfl rfl rfl rfl (by kernel_rfl) Try.func6 (by kernel_rfl)
    (of_decide_eq_true (by kernel_rfl)) (by unfold Func.isWrapper; first | (rw [if_pos (by decide +kernel)]; kernel_rfl) | (rw [if_neg (by decide +kernel)]; exact ⟨rfl, rfl⟩))
    (fun os started H enc _ => lifted os started H enc)

theorem proved : Rows.CellsKeepSaid := over
end Go.Proofs.Ytanimonhnngfkaa.CellsKeep
#print axioms Go.Proofs.Ytanimonhnngfkaa.CellsKeep.proved
