/-
  pointsman's law MatchThere answers true for every input, and each argument reads behind the call as it read before.
-/
import Derived.Test.YtdfmeclhpefmfaaRows
import Derived.Test.YtdfmeclhpefmfaaBaB1
import Derived.OpenShut
import Derived.ShutString
import Derived.ChangeOld
import Derived.Below
set_option linter.unusedVariables false
set_option linter.unusedSimpArgs false
namespace Go.Proofs.Ytdfmeclhpefmfaa.MatchThere
open Go.ChangeShapes Go.WideShapes Go.ChangeAt Go.RowKit Go.Proofs.Ytdfmeclhpefmfaa.Own Go.Proofs.Ytdfmeclhpefmfaa.K
open Go.ChangeMaps (open_string shut_string)

theorem own : ownKnob Try.prog.godebug = none := by kernel_rfl
theorem laidOut : laidOutB Try.prog = true := by kernel_rfl

set_option maxRecDepth 100000 in
set_option maxHeartbeats 1000000 in
theorem lifted (os : Os) (started : os.Started) (H : Type) (enc : TypeId × Value → H) :
    ReturnsInHanded {} Try.checked os 7 .any (Rows.matchThereSpec.pre6 enc Try.prog Try.f7 Rows.matchThereRow.domain false) (Rows.matchThereSpec.post enc Try.prog Try.f7 false true false false) := by
  refine returnsInHanded_of_change_sized (C := Try.checked) own started (by kernel_rfl) Try.func7
    (ChangeSpec.witness6 (enc := enc) (C := Try.checked) false ⟨#[], #[.agg #[.slice none 0 0, .slice none 0 0, .int .i64 0, .slice none 0 0, .slice none 0 0, .int .i64 0, .string .empty, .slice none 0 0]], []⟩ 8 (by kernel_rfl) (by kernel_rfl) (by kernel_rfl) (by kernel_rfl)) ?_
  intro W base args ds gs before hval0 hW hcnd hsz0 _
  have hsz : (DataW.weightsEach Try.prog (Try.f7.params.toList ++ Rows.matchThereSpec.plain.varTypes Try.prog) (ds ++ gs)).all (· ≤ reachBytes) = true := hsz0
  have hval : ∀ (j : Nat) t v, Try.f7.params[j]? = some t → args[j]? = some v → Value.okWide Try.prog W .any base t v := hval0
  have hW' := hW
  obtain ⟨p, q, hA0, hV, rfl, hfz, hnd⟩ := hW
  have hA : DataW.TrodAll enc Try.prog W 0 (fun _ => true) true Try.f7.params.toList args.toList ds p := hA0
  rw [Try.params7] at hA hval hsz
  obtain ⟨v0, vs0, d0, ds0, p0, q0, hargs, rfl, rfl, h0, r0⟩ := trodAll_cons hA
  obtain ⟨rfl, rfl, rfl⟩ := trodAll_nil r0
  obtain rfl : args = #[v0] := by cases args; simp_all
  obtain ⟨rfl, rfl⟩ := trodVars_none hV
  have k0_ := h0
  have lt0_ : ∀ x ∈ p0, x.block < W.heap.size := by obtain ⟨m, hm⟩ := k0_; exact DataW.trod_lt m _ _ _ hm
  have c0 := Came.of_args hsz (j := 0) (t := 32) rfl rfl h0
  have hcall : Calls Try.prog 7 #[v0] W fun e w' => e = .returned (.bool true) ∧ Below W.heap.size W w' := by
    obtain ⟨cs0, e0, _⟩ := okWide_struct Try.underlying32 (hval 0 32 v0 rfl rfl)
    rw [e0] at c0
    rw [e0]
    clear hval hval0 hsz hsz0 hA hA0 hW' hcnd hfz hnd hargs hV h0 k0_ lt0_
    obtain ⟨A, c, ks, B, d, ws, sz, A1, c1, l, A0, A3, c0', c3, e, hc, hT, hk, hw, ⟨l1, l2, l3, l4⟩, e1, e2, e3, e4, e5⟩ := came_case c0
    have hcs0 : cs0 = #[.slice A ks.length c, .slice B ws.length d, .int .i64 sz, .slice A1 l.length c1, .slice A0 e.f0.length c0', .int .i64 e.f1, .string e.f2, .slice A3 e.f3.length c3] := by
      have h : cs0.toList = [.slice A ks.length c, .slice B ws.length d, .int .i64 sz, .slice A1 l.length c1, .slice A0 e.f0.length c0', .int .i64 e.f1, .string e.f2, .slice A3 e.f3.length c3] := by simpa [Value.cells] using hc
      exact Array.toList_inj.1 h
    subst hcs0
    exact there_any A c ks B d ws sz A1 c1 l A0 A3 c0' c3 e W hT l1 l2 e2 e1 e4 e3 l3 l4 e5 hk hw
  refine hcall.mono fun e W' ⟨he, bel⟩ => ?_
  subst he
  exact ⟨_, rfl, _, _, _, [], _, [], hW', trodAll_mk1 (shut_bool Try.underlying4 _), (trodAll_cons_mk (Below.trod laidOut (by kernel_rfl) (of_decide_eq_true (by kernel_rfl)) k0_ bel lt0_) trodAll_mk0), rfl, bel.frame _, fun h => by cases h⟩

theorem over : Rows.matchThereRow.holds Try.pinned (OpenSpec.ofChange Rows.matchThereSpec) :=
  OpenClaim.holds_of_wide 7 Try.f7 rfl rfl rfl rfl rfl rfl rfl ⟨rfl, rfl, rfl, rfl, rfl⟩ rfl rfl rfl rfl rfl (by kernel_rfl) Try.func7 (by kernel_rfl)
    (of_decide_eq_true (by kernel_rfl)) (by unfold Func.isWrapper; first | (rw [if_pos (by decide +kernel)]; kernel_rfl) | (rw [if_neg (by decide +kernel)]; exact ⟨rfl, rfl⟩))
    (fun os started H enc _ => lifted os started H enc)

theorem proved : Rows.MatchThereSaid := over
end Go.Proofs.Ytdfmeclhpefmfaa.MatchThere
#print axioms Go.Proofs.Ytdfmeclhpefmfaa.MatchThere.proved
