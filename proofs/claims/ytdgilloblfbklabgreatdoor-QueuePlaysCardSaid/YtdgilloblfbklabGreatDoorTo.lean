/-
  The iterator over the ports to which a packet goes: one effect, of group 0 with ports 1 and 2; the packet itself to 7.
-/
import Derived.Test.YtdgilloblfbklabGreatDoorIter
import Derived.Test.YtdgilloblfbklabGreatDoorSend
set_option linter.unusedVariables false
set_option linter.unusedSimpArgs false
namespace Go.Proofs.YtdgilloblfbklabGreatDoor.Own
open Go.RowKit Go.Shelf
attribute [local go_sem] Oper.semAt_some

theorem to_any (A : Option Addr) (n c : Nat) (cs : Array Value) (hcs : cs.size = 6) (w : World) : Calls Tryz.prog 116 #[.slice A n c, .agg cs] w fun e w' => e = .returned (.func (.func 178) #[] #[.pointer (some ⟨w.heap.size + 1, 0, none⟩), .pointer (some ⟨w.heap.size, 0, none⟩)]) ∧ w' = (w.alloc (.cells #[.slice A n c] 89)).alloc (.cells cs 100) := by
  obtain ⟨l⟩ := cs
  match l, hcs with
  | [a, b, c', d, e, f], _ =>
    go_enter Tryz.func116, Tryz.ntmps116
    go_wp2
    go_ret
    exact ⟨rfl, rfl⟩

/-- What lives hands to Copies. -/
structure ToAt (ef gr pt : Nat) (W : World) : Prop where
  he : W.heap[ef]? = some (.cells #[.int .u8 7, .string ⟨#[]⟩, .int .i64 0, .int .i64 0, .int .u64 0, .int .u64 0, .slice none 0 0, .int .i64 0, .string ⟨#[]⟩, .int .i64 0] 97 (0, 0))
  hr : W.heap[gr]? = some (.cells #[.slice (some ⟨pt, 0, none⟩) 2 2, .slice none 0 0] 88 (0, 0))
  hx : W.heap[pt]? = some (.cells #[.int .i64 1, .int .i64 2] 3 (0, 0))
def passCells (pk : Value) (ef : Nat) : Array Value := #[.int .u8 1, pk, .int .i64 7, .bool false, .bool false, .slice (some ⟨ef, 0, none⟩) 1 1]
structure ToBox (Bp Bg : Nat) (pk : Value) (ef gr : Nat) (W : World) : Prop where
  hp : W.heap[Bp]? = some (.cells (passCells pk ef) 100 (0, 0))
  hg : W.heap[Bg]? = some (.cells #[.slice (some ⟨gr, 0, none⟩) 2 2] 89 (0, 0))
theorem ToAt.keep {F : Nat → Prop} {W W' : World} {ef gr pt : Nat} (h : ToAt ef gr pt W) (hk : KeepC F W W') (h1 : ¬ F ef) (h2 : ¬ F gr) (h3 : ¬ F pt) : ToAt ef gr pt W' :=
  ⟨hk.block _ _ _ _ h.he h1, hk.block _ _ _ _ h.hr h2, hk.block _ _ _ _ h.hx h3⟩
theorem ToBox.keep {F : Nat → Prop} {W W' : World} {Bp Bg ef gr : Nat} {pk : Value} (h : ToBox Bp Bg pk ef gr W) (hk : KeepC F W W') (h1 : ¬ F Bp) (h2 : ¬ F Bg) : ToBox Bp Bg pk ef gr W' :=
  ⟨hk.block _ _ _ _ h.hp h1, hk.block _ _ _ _ h.hg h2⟩
theorem ToAt.cells {ef gr pt : Nat} {W : World} (h : ToAt ef gr pt W) : (W.cell? ⟨ef, 0, none⟩ = some (.int .u8 7) ∧ W.cell? ⟨ef, 1, none⟩ = some (.string ⟨#[]⟩) ∧ W.cell? ⟨ef, 2, none⟩ = some (.int .i64 0) ∧ W.cell? ⟨ef, 3, none⟩ = some (.int .i64 0) ∧ W.cell? ⟨ef, 4, none⟩ = some (.int .u64 0)) ∧ (W.cell? ⟨ef, 5, none⟩ = some (.int .u64 0) ∧ W.cell? ⟨ef, 6, none⟩ = some (.slice none 0 0) ∧ W.cell? ⟨ef, 7, none⟩ = some (.int .i64 0) ∧ W.cell? ⟨ef, 8, none⟩ = some (.string ⟨#[]⟩) ∧ W.cell? ⟨ef, 9, none⟩ = some (.int .i64 0)) ∧
    W.cell? ⟨gr, 0, none⟩ = some (.slice (some ⟨pt, 0, none⟩) 2 2) :=
  ⟨⟨cellOf h.he 0, cellOf h.he 1, cellOf h.he 2, cellOf h.he 3, cellOf h.he 4⟩, ⟨cellOf h.he 5, cellOf h.he 6, cellOf h.he 7, cellOf h.he 8, cellOf h.he 9⟩, cellOf h.hr 0⟩
theorem ToBox.cells {Bp Bg ef gr : Nat} {pk : Value} {W : World} (h : ToBox Bp Bg pk ef gr W) : (W.cell? ⟨Bp, 0, none⟩ = some (.int .u8 1) ∧ W.cell? ⟨Bp, 1, none⟩ = some pk ∧ W.cell? ⟨Bp, 2, none⟩ = some (.int .i64 7)) ∧ (W.cell? ⟨Bp, 3, none⟩ = some (.bool false) ∧ W.cell? ⟨Bp, 4, none⟩ = some (.bool false) ∧ W.cell? ⟨Bp, 5, none⟩ = some (.slice (some ⟨ef, 0, none⟩) 1 1)) ∧ W.cell? ⟨Bg, 0, none⟩ = some (.slice (some ⟨gr, 0, none⟩) 2 2) :=
  ⟨⟨cellOf h.hp 0, cellOf h.hp 1, cellOf h.hp 2⟩, ⟨cellOf h.hp 3, cellOf h.hp 4, cellOf h.hp 5⟩, cellOf h.hg 0⟩

set_option maxRecDepth 100000 in
set_option maxHeartbeats 2000000 in
theorem to1_in (F : Nat → Prop) (l Bp Bg ef gr pt : Nat) (pk : Value) (hF : ¬ F ef ∧ ¬ F gr ∧ ¬ F pt ∧ ¬ F Bp ∧ ¬ F Bg) (J Jx : List Int → World → Prop)
    (W : World) (hJ : AbidesFrom W.heap.size J)
    (hY : ∀ pre x W1, J pre W1 → pre.length < 3 → YieldAt Fence.wide 1 Tryz.prog l #[.int .i64 x] W1 fun e W' =>
      (e = .returned (.bool true) ∧ J (pre ++ [x]) W' ∧ KeepC F W1 W') ∨ (e = .returned (.bool false) ∧ Jx (pre ++ [x]) W'))
    (hA : ToAt ef gr pt W) (hB : ToBox Bp Bg pk ef gr W) (h0 : J [] W) :
    CallsIn Fence.wide 2 Tryz.prog 178 #[.func (.yield l) #[] #[], .pointer (some ⟨Bp, 0, none⟩), .pointer (some ⟨Bg, 0, none⟩)] W fun e W' => (∃ v, e = .returned v) ∧
      ((∃ ys, ys = [1, 2, 7] ∧ J ys W') ∨ (∃ pre, pre <+: [1, 2, 7] ∧ Jx pre W')) := by
  refine callsIn_of_wp Tryz.func178 rfl trivial ?_ rfl
  simp only [Tryz.ntmps178, List.size_toArray, List.length_cons, List.length_nil, Nat.reduceAdd, Nat.reduceSub, Array.replicate_succ, Array.replicate_zero, List.push_toArray, List.append_toArray, List.nil_append, List.cons_append]
  have HA := aside' hA
  have HB := aside' hB
  have HF := aside' hF
  obtain ⟨⟨p0, p1, p2⟩, ⟨p3, p4, p5⟩, g0⟩ := hB.cells
  clear hA hB hF
  gi_wp2
  clear p0 p1 p2 p3 p4 p5 g0
  gi_loopw [11] (fun i wr => ∃ k : Nat, k ≤ 1 ∧ i = .int .i64 k ∧ J (([1, 2] : List Int).take (2 * k)) wr ∧ KeepC F W wr)
    (fun i _ => 1 - (intOf i).toNat)
  case atStart => exact ⟨0, Nat.zero_le _, rfl, h0, KeepC.refl _ _⟩
  case round =>
    obtain ⟨k, hk, rfl, hJs, hK⟩ := hrel
    obtain ⟨f1, f2, f3, f4, f5⟩ := HF.out
    have HA2 := aside' (HA.out.keep hK f1 f2 f3)
    have HB2 := aside' (HB.out.keep hK f4 f5)
    obtain ⟨⟨p0, p1, p2⟩, ⟨p3, p4, p5⟩, g0⟩ := HB2.out.cells
    obtain ⟨⟨e0, e1, e2, e3, e4⟩, ⟨e5, e6, e7, e8, e9⟩, r0⟩ := HA2.out.cells
    obtain rfl | rfl : k = 0 ∨ k = 1 := by omega
    · have hV : KeepC F W (wr.alloc (.cells #[.int .u8 7, .string ⟨#[]⟩, .int .i64 0, .int .i64 0, .int .u64 0, .int .u64 0, .slice none 0 0, .int .i64 0, .string ⟨#[]⟩, .int .i64 0] 97)) := hK.alloc _
      have HA3 := HA.out.keep hV f1 f2 f3
      have HB3 := HB.out.keep hV f4 f5
      obtain ⟨⟨p0', p1', p2'⟩, ⟨p3', p4', p5'⟩, g0'⟩ := HB3.cells
      obtain ⟨_, _, r0'⟩ := HA3.cells
      have HV := aside' hV
      clear hV HA3 HB3
      have hJV : J (([1, 2] : List Int).take 0) (wr.alloc (.cells #[.int .u8 7, .string ⟨#[]⟩, .int .i64 0, .int .i64 0, .int .u64 0, .int .u64 0, .slice none 0 0, .int .i64 0, .string ⟨#[]⟩, .int .i64 0] 97)) :=
        hJ _ _ _ none hJs (World.grownBy_alloc _ _ none) (fun r e => by cases e)
      obtain ⟨wo, rfl⟩ : ∃ wo : World, wo = wr := ⟨_, rfl⟩
      rw [show ((0 : Nat) : Int) = 0 from rfl]
      gi_wp2
      clear p0 p1 p2 p3 p4 p5 g0 e0 e1 e2 e3 e4 e5 e6 e7 e8 e9 r0 p0' p1' p2' p3' p4' p5' g0' r0'
      generalize wo.alloc (.cells #[.int .u8 7, .string ⟨#[]⟩, .int .i64 0, .int .i64 0, .int .u64 0, .int .u64 0, .slice none 0 0, .int .i64 0, .string ⟨#[]⟩, .int .i64 0] 97) = V at *
      gi_loopw [25] (fun i wr => ∃ t : Nat, t ≤ 2 ∧ i = .int .i64 t ∧ J (([1, 2] : List Int).take t) wr ∧ KeepC F W wr)
        (fun i _ => 2 - (intOf i).toNat)
      case atStart => exact ⟨0, Nat.zero_le _, rfl, hJV, HV.out⟩
      case round =>
        obtain ⟨t, ht, rfl, hJt, hK2⟩ := hrel
        have hx2 := (HA.out.keep hK2 f1 f2 f3).hx
        by_cases htm : t < 2
        · obtain ⟨x, hx⟩ : ∃ x, x = ([1, 2] : List Int).getD t 0 := ⟨_, rfl⟩
          have hcx : wr.cell? ⟨pt, t, none⟩ = some (.int .i64 x) := by
            rw [cellOf hx2 t, hx]
            obtain rfl | rfl : t = 0 ∨ t = 1 := by omega
            · rfl
            · rfl
          have hnext : ([1, 2] : List Int).take t ++ [x] = ([1, 2] : List Int).take (t + 1) := by
            rw [hx]
            obtain rfl | rfl : t = 0 ∨ t = 1 := by omega
            · rfl
            · rfl
          have hpre : ([1, 2] : List Int).take (t + 1) <+: [1, 2, 7] := by
            obtain rfl | rfl : t = 0 ∨ t = 1 := by omega
            · exact ⟨[2, 7], rfl⟩
            · exact ⟨[7], rfl⟩
          obtain ⟨fn, tmps, assign, body, hy, hR⟩ := hY _ x wr hJt (by simp; omega)
          rw [hnext] at hR
          have HPRE := aside' hpre
          have t0 : (0 : Int) ≤ (t : Int) := by omega
          have t1 : (t : Int) < 2 := by omega
          clear hnext hpre hx hx2
          gi_wp2
          refine hR.mono ?_
          rintro e W3 (⟨rfl, hJ3, hk3⟩ | ⟨rfl, hJx3⟩)
          · gi_wp2
            go_roundw
            case rel => exact ⟨t + 1, by omega, by go_num, hJ3, hK2.trans hk3⟩
            case measure => (simp [intOf]; try omega)
          · gi_wp2
            refine bodyPost_ret (results_none rfl _ _ _) rfl ?_
            exact ⟨⟨_, rfl⟩, .inr ⟨_, HPRE.out, hJx3⟩⟩
        · obtain rfl : t = 2 := by omega
          gi_wp2
          go_roundw
          case rel => exact ⟨1, by omega, by go_num, hJt, hK2⟩
          case measure => (simp [intOf]; try omega)
    · rw [show ((1 : Nat) : Int) = 1 from rfl]
      obtain ⟨fn, tmps, assign, body, hy, hR⟩ := hY _ 7 wr hJs (by decide)
      gi_wp2
      refine hR.mono ?_
      rintro e W3 (⟨rfl, hJ3, hk3⟩ | ⟨rfl, hJx3⟩)
      · gi_wp2
        go_end0
        exact ⟨⟨_, rfl⟩, .inl ⟨_, rfl, hJ3⟩⟩
      · gi_wp2
        go_end0
        exact ⟨⟨_, rfl⟩, .inr ⟨_, ⟨[], rfl⟩, hJx3⟩⟩
theorem to_stops (F : Nat → Prop) (Bp Bg ef gr pt : Nat) (pk : Value) (hF : ¬ F ef ∧ ¬ F gr ∧ ¬ F pt ∧ ¬ F Bp ∧ ¬ F Bg) (w : World) (hA : ToAt ef gr pt w) (hB : ToBox Bp Bg pk ef gr w) :
    SeqStopsK Fence.wide 2 Tryz.prog 178 #[.pointer (some ⟨Bp, 0, none⟩), .pointer (some ⟨Bg, 0, none⟩)] (fun x : Int => #[.int .i64 x]) (KeepC F) (fun ys => ys = [1, 2, 7]) (fun pre => pre <+: [1, 2, 7]) 3 w :=
  fun l J Jx W hW hJ _ hY h0 => to1_in F l Bp Bg ef gr pt pk hF J Jx W hJ hY
    (hA.keep (KeepC.ofFoot (Foot.ofBelow hW (fun _ => False))) not_false not_false not_false) (hB.keep (KeepC.ofFoot (Foot.ofBelow hW (fun _ => False))) not_false not_false) h0
end Go.Proofs.YtdgilloblfbklabGreatDoor.Own
