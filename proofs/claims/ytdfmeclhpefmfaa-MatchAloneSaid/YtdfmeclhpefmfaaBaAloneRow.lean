/-
  pointsman's law MatchAlone answers true for every input, and each argument reads behind the call as it read before.
-/
import Derived.Test.YtdfmeclhpefmfaaRows
import Derived.Test.YtdfmeclhpefmfaaBaN
import Derived.OpenShut
import Derived.ShutString
import Derived.ChangeOld
import Derived.Below
set_option linter.unusedVariables false
set_option linter.unusedSimpArgs false
namespace Go.Proofs.Ytdfmeclhpefmfaa.MatchAlone
open Go.ChangeShapes Go.WideShapes Go.ChangeAt Go.RowKit Go.Proofs.Ytdfmeclhpefmfaa.Own Go.Proofs.Ytdfmeclhpefmfaa.K
open Go.ChangeMaps (open_string shut_string)

theorem own : ownKnob Try.prog.godebug = none := by kernel_rfl
theorem laidOut : laidOutB Try.prog = true := by kernel_rfl

set_option maxRecDepth 100000 in
set_option maxHeartbeats 1000000 in
theorem lifted (os : Os) (started : os.Started) (H : Type) (enc : TypeId × Value → H) :
    ReturnsInHanded {} Try.checked os 4 .any (Rows.matchAloneSpec.pre6 enc Try.prog Try.f4 Rows.matchAloneRow.domain false) (Rows.matchAloneSpec.post enc Try.prog Try.f4 false true false false) := by
  refine returnsInHanded_of_change_sized (C := Try.checked) own started (by kernel_rfl) Try.func4
    (ChangeSpec.witness6 (enc := enc) (C := Try.checked) false ⟨#[], #[.agg #[.slice none 0 0, .slice none 0 0, .int .i64 0, .slice none 0 0, .slice none 0 0, .int .i64 0, .string .empty, .slice none 0 0], .slice none 0 0], []⟩ 8 (by kernel_rfl) (by kernel_rfl) (by kernel_rfl) (by kernel_rfl)) ?_
  intro W base args ds gs before hval0 hW hcnd hsz0 _
  have hsz : (DataW.weightsEach Try.prog (Try.f4.params.toList ++ Rows.matchAloneSpec.plain.varTypes Try.prog) (ds ++ gs)).all (· ≤ reachBytes) = true := hsz0
  have hval : ∀ (j : Nat) t v, Try.f4.params[j]? = some t → args[j]? = some v → Value.okWide Try.prog W .any base t v := hval0
  have hW' := hW
  obtain ⟨p, q, hA0, hV, rfl, hfz, hnd⟩ := hW
  have hA : DataW.TrodAll enc Try.prog W 0 (fun _ => true) true Try.f4.params.toList args.toList ds p := hA0
  rw [Try.params4] at hA hval hsz
  obtain ⟨v0, vs0, d0, ds0, p0, q0, hargs, rfl, rfl, h0, r0⟩ := trodAll_cons hA
  obtain ⟨v1, vs1, d1, ds1, p1, q1, rfl, rfl, rfl, h1, r1⟩ := trodAll_cons r0
  obtain ⟨rfl, rfl, rfl⟩ := trodAll_nil r1
  obtain rfl : args = #[v0, v1] := by cases args; simp_all
  obtain ⟨rfl, rfl⟩ := trodVars_none hV
  have k0_ := h0
  have lt0_ : ∀ x ∈ p0, x.block < W.heap.size := by obtain ⟨m, hm⟩ := k0_; exact DataW.trod_lt m _ _ _ hm
  have c0 := Came.of_args hsz (j := 0) (t := 32) rfl rfl h0
  have k1_ := h1
  have lt1_ : ∀ x ∈ p1, x.block < W.heap.size := by obtain ⟨m, hm⟩ := k1_; exact DataW.trod_lt m _ _ _ hm
  have c1 := Came.of_args hsz (j := 1) (t := 28) rfl rfl h1
  have hcall : Calls Try.prog 4 #[v0, v1] W fun e w' => e = .returned (.bool true) ∧ Below W.heap.size W w' := by
    obtain ⟨cs0, e0, _⟩ := okWide_struct Try.underlying32 (hval 0 32 v0 rfl rfl)
    rw [e0] at c0
    obtain ⟨A1, n1, k1, e1⟩ := okWide_slice Try.underlying28 (hval 1 28 v1 rfl rfl)
    rw [e1] at c1
    rw [e0, e1]
    clear hval hval0 hsz hsz0 hA hA0 hW' hcnd hfz hnd hargs hV h0 k0_ lt0_ h1 k1_ lt1_
    obtain ⟨keys, hkl, hK, hK1, _⟩ := came_numbers c1
    subst hkl
    obtain ⟨A, c, ks, B, d, ws, sz, T1, tc1, l, T0, T3, tc0, tc3, e, hc, hT, hk, hw, ⟨l1, l2, l3, l4⟩, f1, f2, f3, f4, f5⟩ := came_case c0
    have hcs0 : cs0 = #[.slice A ks.length c, .slice B ws.length d, .int .i64 sz, .slice T1 l.length tc1, .slice T0 e.f0.length tc0, .int .i64 e.f1, .string e.f2, .slice T3 e.f3.length tc3] := by
      have h : cs0.toList = [.slice A ks.length c, .slice B ws.length d, .int .i64 sz, .slice T1 l.length tc1, .slice T0 e.f0.length tc0, .int .i64 e.f1, .string e.f2, .slice T3 e.f3.length tc3] := by simpa [Value.cells] using hc
      exact Array.toList_inj.1 h
    subst hcs0
    exact alone_any A c ks B d ws sz T1 tc1 l T0 T3 tc0 tc3 e A1 k1 keys W hT l1 l2 f2 f1 f4 f3 l3 l4 f5 hk hw hK hK1
  refine hcall.mono fun e W' ⟨he, bel⟩ => ?_
  subst he
  exact ⟨_, rfl, _, _, _, [], _, [], hW', trodAll_mk1 (shut_bool Try.underlying4 _), (trodAll_cons_mk (Below.trod laidOut (by kernel_rfl) (of_decide_eq_true (by kernel_rfl)) k0_ bel lt0_) (trodAll_cons_mk (Below.trod laidOut (by kernel_rfl) (of_decide_eq_true (by kernel_rfl)) k1_ bel lt1_) trodAll_mk0)), rfl, bel.frame _, fun h => by cases h⟩

theorem over : Rows.matchAloneRow.holds Try.pinned (OpenSpec.ofChange Rows.matchAloneSpec) :=
  OpenClaim.holds_of_wide 4 Try.f4 rfl rfl rfl rfl rfl rfl rfl ⟨rfl, rfl, rfl, rfl, rfl⟩ rfl rfl rfl rfl rfl (by kernel_rfl) Try.func4 (by kernel_rfl)
    (of_decide_eq_true (by kernel_rfl)) (by unfold Func.isWrapper; first | (rw [if_pos (by decide +kernel)]; kernel_rfl) | (rw [if_neg (by decide +kernel)]; exact ⟨rfl, rfl⟩))
    (fun os started H enc _ => lifted os started H enc)

theorem proved : Rows.MatchAloneSaid := over
end Go.Proofs.Ytdfmeclhpefmfaa.MatchAlone
#print axioms Go.Proofs.Ytdfmeclhpefmfaa.MatchAlone.proved
