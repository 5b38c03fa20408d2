/-
  pointsman's law JournalSpoils answers true for every input, and each argument reads behind the call as it read before.
-/
import Derived.Test.YtkngnoimjpeolaaRows
import Derived.Test.YtkngnoimjpeolaaCame
import Derived.Test.YtkngnoimjpeolaaJSpoils
import Derived.OpenShut
import Derived.ShutString
import Derived.ChangeOld
import Derived.Below
set_option linter.unusedVariables false
set_option linter.unusedSimpArgs false
namespace Go.Proofs.Ytkngnoimjpeolaa.JournalSpoils
open Go.ChangeShapes Go.WideShapes Go.ChangeAt Go.RowKit
open Go.ChangeMaps (open_string shut_string)

theorem own : ownKnob Try.prog.godebug = none := by kernel_rfl
theorem laidOut : laidOutB Try.prog = true := by kernel_rfl

set_option maxRecDepth 100000 in
set_option maxHeartbeats 1000000 in
theorem lifted (os : Os) (started : os.Started) (H : Type) (enc : TypeId × Value → H) :
    ReturnsInHanded {} Try.checked os 5 .any (Rows.journalSpoilsSpec.pre6 enc Try.prog Try.f5 Rows.journalSpoilsRow.domain false) (Rows.journalSpoilsSpec.post enc Try.prog Try.f5 false true false false) := by
  refine returnsInHanded_of_change_sized (C := Try.checked) own started (by kernel_rfl) Try.func5
    (ChangeSpec.witness6 (enc := enc) (C := Try.checked) false ⟨#[], #[.slice none 0 0, .agg #[.int .u16 0,.int .u32 0,.int .u8 0]], []⟩ 8 (by kernel_rfl) (by kernel_rfl) (by kernel_rfl) (by kernel_rfl)) ?_
  intro W base args ds gs before hval0 hW hcnd hsz0 _
  have hsz : (DataW.weightsEach Try.prog (Try.f5.params.toList ++ Rows.journalSpoilsSpec.plain.varTypes Try.prog) (ds ++ gs)).all (· ≤ reachBytes) = true := hsz0
  have hval : ∀ (j : Nat) t v, Try.f5.params[j]? = some t → args[j]? = some v → Value.okWide Try.prog W .any base t v := hval0
  have hW' := hW
  obtain ⟨p, q, hA0, hV, rfl, hfz, hnd⟩ := hW
  have hA : DataW.TrodAll enc Try.prog W 0 (fun _ => true) true Try.f5.params.toList args.toList ds p := hA0
  rw [Try.params5] at hA hval hsz
  obtain ⟨v0, vs0, d0, ds0, p0, q0, hargs, rfl, rfl, h0, r0⟩ := trodAll_cons hA
  obtain ⟨v1, vs1, d1, ds1, p1, q1, rfl, rfl, rfl, h1, r1⟩ := trodAll_cons r0
  obtain ⟨rfl, rfl, rfl⟩ := trodAll_nil r1
  obtain rfl : args = #[v0, v1] := by cases args; simp_all
  obtain ⟨rfl, rfl⟩ := trodVars_none hV
  have k0_ := h0
  have lt0_ : ∀ x ∈ p0, x.block < W.heap.size := by obtain ⟨m, hm⟩ := k0_; exact DataW.trod_lt m _ _ _ hm
  have c0 := Came.of_args hsz (j := 0) (t := 22) rfl rfl h0
  have k1_ := h1
  have lt1_ : ∀ x ∈ p1, x.block < W.heap.size := by obtain ⟨m, hm⟩ := k1_; exact DataW.trod_lt m _ _ _ hm
  have c1 := Came.of_args hsz (j := 1) (t := 49) rfl rfl h1
  have hcall : Calls Try.prog 5 #[v0, v1] W fun e w' => e = .returned (.bool true) ∧ Below W.heap.size W w' := by
    obtain ⟨A0, n0, k0, e0⟩ := okWide_slice Try.underlying22 (hval 0 22 v0 rfl rfl)
    rw [e0] at c0
    obtain ⟨cs1, e1, _⟩ := okWide_struct Try.underlying49 (hval 1 49 v1 rfl rfl)
    rw [e1] at c1
    rw [e0, e1]
    clear hval hval0 hsz hsz0 hA hA0 hW' hcnd hfz hnd hargs hV h0 k0_ lt0_ h1 k1_ lt1_
    obtain ⟨rows, hRR, hby, h24, hnc⟩ := came_rows c0
    have hspoil : ∃ wh at_ ch : Nat, wh ≤ 65535 ∧ at_ ≤ 4294967295 ∧ ch ≤ 255 ∧ cs1 = #[.int .u16 (wh : Int), .int .u32 (at_ : Int), .int .u8 (ch : Int)] := by
      obtain ⟨hl, hf⟩ := c1.struct Try.underlying49
      have h3c : Try.prog.cellsOf 49 = 3 := by kernel_rfl
      have i0 : Try.prog.cellsOf 47 = 1 := by kernel_rfl
      have i1 : Try.prog.cellsOf 23 = 1 := by kernel_rfl
      have i2 : Try.prog.cellsOf 5 = 1 := by kernel_rfl
      rw [h3c] at hl
      generalize hcs : (Value.agg cs1).cells.toList = cs at hl hf
      match cs, hl with
      | [a, b, c], _ =>
        have f0 : Came enc Try.prog W 47 (([a, b, c].drop 0).take (Try.prog.cellsOf 47)) := hf 0 _ rfl
        have f1 : Came enc Try.prog W 23 (([a, b, c].drop 1).take (Try.prog.cellsOf 23)) := hf 1 _ rfl
        have f2 : Came enc Try.prog W 5 (([a, b, c].drop 2).take (Try.prog.cellsOf 5)) := hf 2 _ rfl
        rw [i0] at f0
        rw [i1] at f1
        rw [i2] at f2
        obtain ⟨x, hx, wx⟩ := f0.int Try.underlying47
        obtain ⟨y, hy, wy⟩ := f1.int Try.underlying23
        obtain ⟨z, hz, wz⟩ := f2.int Try.underlying5
        injection hx with hx _
        injection hy with hy _
        injection hz with hz _
        obtain ⟨k0, rfl⟩ := Int.eq_ofNat_of_zero_le (bd_u16 wx).1
        obtain ⟨k1, rfl⟩ := Int.eq_ofNat_of_zero_le (bd_u32 wy).1
        obtain ⟨k2, rfl⟩ := Int.eq_ofNat_of_zero_le (bd_u8 wz).1
        refine ⟨k0, k1, k2, by have := (bd_u16 wx).2; omega, by have := (bd_u32 wy).2; omega, by have := (bd_u8 wz).2; omega, ?_⟩
        have h : cs1.toList = [a, b, c] := by simpa [Value.cells] using hcs
        rw [hx, hy, hz] at h
        exact Array.toList_inj.1 h
    obtain ⟨wh, at_, ch, hwh, hat, hch, rfl⟩ := hspoil
    exact spoils_law A0 n0 k0 rows wh at_ ch hwh hat hch W hRR hby h24
  refine hcall.mono fun e W' ⟨he, bel⟩ => ?_
  subst he
  exact ⟨_, rfl, _, _, _, [], _, [], hW', trodAll_mk1 (shut_bool Try.underlying4 _), (trodAll_cons_mk (Below.trod laidOut (by kernel_rfl) (of_decide_eq_true (by kernel_rfl)) k0_ bel lt0_) (trodAll_cons_mk (Below.trod laidOut (by kernel_rfl) (of_decide_eq_true (by kernel_rfl)) k1_ bel lt1_) trodAll_mk0)), rfl, bel.frame _, fun h => by cases h⟩

theorem over : Rows.journalSpoilsRow.holds Try.pinned (OpenSpec.ofChange Rows.journalSpoilsSpec) :=
  OpenClaim.holds_of_wide 5 Try.f5 rfl rfl rfl rfl rfl rfl rfl ⟨rfl, rfl, rfl, rfl, rfl⟩ rfl rfl rfl rfl rfl (by kernel_rfl) Try.func5 (by kernel_rfl)
    (of_decide_eq_true (by kernel_rfl)) (by unfold Func.isWrapper; first | (rw [if_pos (by decide +kernel)]; kernel_rfl) | (rw [if_neg (by decide +kernel)]; exact ⟨rfl, rfl⟩))
    (fun os started H enc _ => lifted os started H enc)

theorem proved : Rows.JournalSpoilsSaid := over
end Go.Proofs.Ytkngnoimjpeolaa.JournalSpoils
#print axioms Go.Proofs.Ytkngnoimjpeolaa.JournalSpoils.proved
