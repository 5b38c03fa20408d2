/- What the Go functions of the law tell, as Lean functions, each with its walk (written by wip/tools/printh.py over the kit's print). -/
import Derived.Test.YtanimonhnngfkaaProg
import Derived.Below
import Derived.Deep.Draws
import Derived.Deep.AppendLies
import Derived.Maps.AppendAt
import Derived.OwnWalk
import Derived.Laws.BytesArg
import Derived.Laws.MakeOwn
import Derived.Laws.OwnMore
import Derived.Deep.OwnRows
import Derived.Tactics
import Derived.Lib.ConvBytes
import Derived.Laws.Slices
import Derived.WalkKit
import Derived.KernelRfl
import Derived.RowKit3
import Derived.Deep.LoopGhost
import Derived.Deep.QuietTactic
import Derived.BigQuiet
import Derived.WideLaws
import Derived.Deep.DeepCutAuto
import Derived.Deep.CutBlock
import Derived.Deep.RegionHeld3
import Derived.Laws.Rows
import Derived.Lib.AppendStr
import Derived.ArgAppend
import Derived.Laws.IdiomCopy
import Derived.OrdersHeld
import Derived.Laws.BitsLemmas
import Derived.RowKit
import Derived.Test.YtanimonhnngfkaaWWords
import Derived.Test.YtanimonhnngfkaaWLast
import Derived.Test.YtanimonhnngfkaaWTab
import Derived.Test.YtanimonhnngfkaaWFour
import Derived.Test.YtanimonhnngfkaaWQPut
import Derived.Test.YtanimonhnngfkaaWApart
import Derived.Test.YtanimonhnngfkaaWArr
import Derived.Test.YtanimonhnngfkaaWZeros
import Derived.Test.YtanimonhnngfkaaWFoot
import Derived.Test.YtanimonhnngfkaaWKept
import Derived.Test.YtanimonhnngfkaaWShare
import Derived.Test.YtanimonhnngfkaaWN
import Derived.Test.YtanimonhnngfkaaWFootNe
import Derived.Test.YtanimonhnngfkaaWAt
import Derived.Test.YtanimonhnngfkaaWEqStruct
import Derived.Test.YtanimonhnngfkaaWRepsOne
import Derived.Test.YtanimonhnngfkaaWInv
import Derived.Test.YtanimonhnngfkaaWInvWords
import Derived.Test.YtanimonhnngfkaaWGuard
import Derived.Test.YtanimonhnngfkaaWNEv
import Derived.Test.YtanimonhnngfkaaWMore
namespace Go.Proofs.Ytanimonhnngfkaa.K
open Go.RowKit Go.Proofs.YtanimonhnngfkaaW.PrintWords Go.Proofs.YtanimonhnngfkaaW.PrintLast Go.Proofs.YtanimonhnngfkaaW.PrintMore
attribute [local go_sem] max2_int min2_int max_two min_two max_three min_three max_four min_four   -- for this text's walks alone
set_option linter.unusedVariables false
set_option linter.unusedSimpArgs false



def errW : Option Int → Value
  | none => .nilIface
  | some c => .iface 0 (.int .i64 c)
theorem errW_none : errW none = .nilIface := rfl
theorem errW_some (c : Int) : errW (some c) = .iface 0 (.int .i64 c) := rfl

theorem info4 : (Try.prog.info? 4).map (fun i => (i.zero, i.size, i.bytes)) = some (some (.bool false), 1, 1) := by kernel_rfl
-- the values' own types
/-! #### struct type 114 -/
structure S114 where
  f0 : ByteArray
  f1 : Int
def z114 : S114 := ⟨(⟨#[]⟩ : ByteArray), (0 : Int)⟩
def k114 : Kd S114 := Kd.iso (Kd.pair Kd.string (Kd.int .i64)) (fun x : S114 => (x.f0, x.f1))
theorem k114_open {w : World} {x : S114} {cs : List Value} (h : k114.K w x cs) : cs = [.string x.f0, .int .i64 x.f1] := by
  obtain ⟨_, _, rfl, rfl, rfl⟩ := h
  exact rfl
theorem k114_openM {w : World} {base : Nat} {ok : Nat → Prop} {x : S114} {cs : List Value} (h : k114.M w base ok x cs) : cs = [.string x.f0, .int .i64 x.f1] := by
  obtain ⟨_, _, rfl, rfl, rfl⟩ := h
  exact rfl
theorem k114_mk (w : World) (x : S114)  : k114.K w x [.string x.f0, .int .i64 x.f1] := ⟨[.string x.f0], [.int .i64 x.f1], rfl, rfl, rfl⟩
theorem k114_mkM (w : World) (base : Nat) (ok : Nat → Prop) (x : S114)  : k114.M w base ok x [.string x.f0, .int .i64 x.f1] := ⟨[.string x.f0], [.int .i64 x.f1], rfl, rfl, rfl⟩
def rd_T114 (xs : List S114) (i : Int) : S114 := xs.getD i.toNat z114
theorem at_T114 {w : World} {A : Option Addr} {n : Nat} {xs : List S114} (h : Kd.C k114 w A n xs) (i : Int) (h0 : 0 ≤ i) (h1 : i < n) : ∃ ad , A = some ad ∧ w.cell? (ad.add (i.toNat * 2)) = some (.string (rd_T114 xs i).f0) ∧ w.cell? ⟨(ad.add (i.toNat * 2)).block, (ad.add (i.toNat * 2)).off + 1, none⟩ = some (.int .i64 (rd_T114 xs i).f1) := by
  obtain ⟨ad, c, e, _, hK, hc0⟩ := Kd.C_get h z114 i h0 h1
  have hc : ∀ j u, c[j]? = some u → w.cell? (ad.add (i.toNat * 2 + j)) = some u := hc0
  obtain rfl := k114_open hK
  exact ⟨ad, e, hc 0 _ rfl, by rw [← add_field _ _ 1 (by omega)]; exact hc 1 _ rfl⟩

def rd_L4 (xs : List (List S114)) (i : Int) : (List S114) := xs.getD i.toNat ([] : List S114)
theorem at_L4 {w : World} {A : Option Addr} {n : Nat} {xs : List (List S114)} (h : Kd.C (Kd.slice 114 k114) w A n xs) (i : Int) (h0 : 0 ≤ i) (h1 : i < n) : ∃ ad A0 c0, A = some ad ∧ w.cell? (ad.add i.toNat) = some (.slice A0 (rd_L4 xs i).length c0) ∧ (rd_L4 xs i).length ≤ c0 ∧ k114.C w A0 (rd_L4 xs i).length (rd_L4 xs i) := by
  obtain ⟨ad, c, e, _, hK, hc0⟩ := Kd.C_get h ([] : List S114) i h0 h1
  have hc : ∀ j u, c[j]? = some u → w.cell? (ad.add (i.toNat * 1 + j)) = some u := hc0
  obtain ⟨A0, c0, rfl, l0, g0⟩ := hK
  exact ⟨ad, A0, c0, e, by have hq := hc 0 _ rfl; rwa [Nat.mul_one, Nat.add_zero] at hq, l0, g0⟩

def rd_L5 (xs : List (List ByteArray)) (i : Int) : (List ByteArray) := xs.getD i.toNat ([] : List ByteArray)
theorem at_L5 {w : World} {A : Option Addr} {n : Nat} {xs : List (List ByteArray)} (h : Kd.C (Kd.slice 9 Kd.string) w A n xs) (i : Int) (h0 : 0 ≤ i) (h1 : i < n) : ∃ ad A0 c0, A = some ad ∧ w.cell? (ad.add i.toNat) = some (.slice A0 (rd_L5 xs i).length c0) ∧ (rd_L5 xs i).length ≤ c0 ∧ Kd.string.C w A0 (rd_L5 xs i).length (rd_L5 xs i) := by
  obtain ⟨ad, c, e, _, hK, hc0⟩ := Kd.C_get h ([] : List ByteArray) i h0 h1
  have hc : ∀ j u, c[j]? = some u → w.cell? (ad.add (i.toNat * 1 + j)) = some u := hc0
  obtain ⟨A0, c0, rfl, l0, g0⟩ := hK
  exact ⟨ad, A0, c0, e, by have hq := hc 0 _ rfl; rwa [Nat.mul_one, Nat.add_zero] at hq, l0, g0⟩

/-! #### struct type 45 -/
structure S45 where
  f0 : Int
  f1 : Int
  f2 : Int
def z45 : S45 := ⟨(0 : Int), (0 : Int), (0 : Int)⟩
def k45 : Kd S45 := Kd.iso (Kd.pair (Kd.int .i64) (Kd.pair (Kd.int .u64) (Kd.int .u64))) (fun x : S45 => (x.f0, x.f1, x.f2))
theorem k45_open {w : World} {x : S45} {cs : List Value} (h : k45.K w x cs) : cs = [.int .i64 x.f0, .int .u64 x.f1, .int .u64 x.f2] := by
  obtain ⟨_, _, rfl, rfl, ⟨_, _, rfl, rfl, rfl⟩⟩ := h
  exact rfl
theorem k45_openM {w : World} {base : Nat} {ok : Nat → Prop} {x : S45} {cs : List Value} (h : k45.M w base ok x cs) : cs = [.int .i64 x.f0, .int .u64 x.f1, .int .u64 x.f2] := by
  obtain ⟨_, _, rfl, rfl, ⟨_, _, rfl, rfl, rfl⟩⟩ := h
  exact rfl
theorem k45_mk (w : World) (x : S45)  : k45.K w x [.int .i64 x.f0, .int .u64 x.f1, .int .u64 x.f2] := ⟨[.int .i64 x.f0], [.int .u64 x.f1, .int .u64 x.f2], rfl, rfl, ⟨[.int .u64 x.f1], [.int .u64 x.f2], rfl, rfl, rfl⟩⟩
theorem k45_mkM (w : World) (base : Nat) (ok : Nat → Prop) (x : S45)  : k45.M w base ok x [.int .i64 x.f0, .int .u64 x.f1, .int .u64 x.f2] := ⟨[.int .i64 x.f0], [.int .u64 x.f1, .int .u64 x.f2], rfl, rfl, ⟨[.int .u64 x.f1], [.int .u64 x.f2], rfl, rfl, rfl⟩⟩
def rd_T45 (xs : List S45) (i : Int) : S45 := xs.getD i.toNat z45
theorem at_T45 {w : World} {A : Option Addr} {n : Nat} {xs : List S45} (h : Kd.C k45 w A n xs) (i : Int) (h0 : 0 ≤ i) (h1 : i < n) : ∃ ad , A = some ad ∧ w.cell? (ad.add (i.toNat * 3)) = some (.int .i64 (rd_T45 xs i).f0) ∧ w.cell? ⟨(ad.add (i.toNat * 3)).block, (ad.add (i.toNat * 3)).off + 1, none⟩ = some (.int .u64 (rd_T45 xs i).f1) ∧ w.cell? ⟨(ad.add (i.toNat * 3)).block, (ad.add (i.toNat * 3)).off + 2, none⟩ = some (.int .u64 (rd_T45 xs i).f2) := by
  obtain ⟨ad, c, e, _, hK, hc0⟩ := Kd.C_get h z45 i h0 h1
  have hc : ∀ j u, c[j]? = some u → w.cell? (ad.add (i.toNat * 3 + j)) = some u := hc0
  obtain rfl := k45_open hK
  exact ⟨ad, e, hc 0 _ rfl, by rw [← add_field _ _ 1 (by omega)]; exact hc 1 _ rfl, by rw [← add_field _ _ 2 (by omega)]; exact hc 2 _ rfl⟩

/-! #### struct type 121, nested in itself -/
structure S121 where
  f0 : Int
  f1 : S45
  f2 : ByteArray
  f3 : ByteArray
  f4 : Int
  f5 : Int
  f6 : (List S121)
  f7 : Int
def z121 : S121 := ⟨(0 : Int), z45, (⟨#[]⟩ : ByteArray), (⟨#[]⟩ : ByteArray), (0 : Int), (0 : Int), ([] : List S121), (0 : Int)⟩
def F121 (d : Kd S121) : Kd S121 := Kd.iso (Kd.pair (Kd.int .u8) (Kd.pair k45 (Kd.pair Kd.string (Kd.pair Kd.string (Kd.pair (Kd.int .i64) (Kd.pair (Kd.int .i64) (Kd.pair (Kd.slice 121 d) (Kd.int .i64)))))))) (fun x : S121 => (x.f0, x.f1, x.f2, x.f3, x.f4, x.f5, x.f6, x.f7))
theorem mono121 : Kd.Mono F121 := Kd.mono_iso _ (Kd.mono_pair (Kd.mono_const _) (Kd.mono_pair (Kd.mono_const _) (Kd.mono_pair (Kd.mono_const _) (Kd.mono_pair (Kd.mono_const _) (Kd.mono_pair (Kd.mono_const _) (Kd.mono_pair (Kd.mono_const _) (Kd.mono_pair (Kd.mono_slice 121 Kd.mono_id) (Kd.mono_const _))))))))
theorem sub121 : Kd.Sub F121 [121] := Kd.sub_iso _ (Kd.sub_pair (Kd.sub_const _ (by decide)) (Kd.sub_pair (Kd.sub_const _ (by decide)) (Kd.sub_pair (Kd.sub_const _ (by decide)) (Kd.sub_pair (Kd.sub_const _ (by decide)) (Kd.sub_pair (Kd.sub_const _ (by decide)) (Kd.sub_pair (Kd.sub_const _ (by decide)) (Kd.sub_pair (Kd.sub_slice 121 (by decide) Kd.sub_id) (Kd.sub_const _ (by decide)))))))))
theorem sz121 : ∀ n, (Kd.upto F121 10 [121] n).sz = 10 := Kd.upto_sz (fun _ => rfl)
def k121 : Kd S121 := Kd.fix F121 10 [121] sz121 (Kd.upto_E sub121)
theorem k121_open {w : World} {x : S121} {cs : List Value} (h : k121.K w x cs) : ∃ A8 c8, cs = [.int .u8 x.f0, .int .i64 x.f1.f0, .int .u64 x.f1.f1, .int .u64 x.f1.f2, .string x.f2, .string x.f3, .int .i64 x.f4, .int .i64 x.f5, .slice A8 x.f6.length c8, .int .i64 x.f7] ∧ x.f6.length ≤ c8 ∧ k121.C w A8 x.f6.length x.f6 := by
  obtain ⟨n, h⟩ := h
  cases n with
  | zero => exact h.elim
  | succ n =>
    obtain ⟨_, _, rfl, rfl, ⟨_, _, rfl, s1, ⟨_, _, rfl, rfl, ⟨_, _, rfl, rfl, ⟨_, _, rfl, rfl, ⟨_, _, rfl, rfl, ⟨_, _, rfl, ⟨A8, c8, rfl, l8, g8⟩, rfl⟩⟩⟩⟩⟩⟩⟩ := h
    obtain rfl := k45_open s1
    exact ⟨A8, c8, rfl, l8, Kd.fix_C g8⟩
theorem k121_openM {w : World} {base : Nat} {ok : Nat → Prop} {x : S121} {cs : List Value} (h : k121.M w base ok x cs) : ∃ v8, cs = [.int .u8 x.f0, .int .i64 x.f1.f0, .int .u64 x.f1.f1, .int .u64 x.f1.f2, .string x.f2, .string x.f3, .int .i64 x.f4, .int .i64 x.f5, v8, .int .i64 x.f7] ∧ k121.R 121 w base ok v8 x.f6 := by
  obtain ⟨n, h⟩ := h
  cases n with
  | zero => exact h.elim
  | succ n =>
    obtain ⟨_, _, rfl, rfl, ⟨_, _, rfl, s1, ⟨_, _, rfl, rfl, ⟨_, _, rfl, rfl, ⟨_, _, rfl, rfl, ⟨_, _, rfl, rfl, ⟨_, _, rfl, ⟨v8, rfl, g8⟩, rfl⟩⟩⟩⟩⟩⟩⟩ := h
    obtain rfl := k45_openM s1
    exact ⟨v8, rfl, Kd.fix_R g8⟩
theorem k121_mk (w : World) (x : S121) {A8 : Option Addr} {c8 : Nat} (l8 : x.f6.length ≤ c8) (g8 : k121.C w A8 x.f6.length x.f6) : k121.K w x [.int .u8 x.f0, .int .i64 x.f1.f0, .int .u64 x.f1.f1, .int .u64 x.f1.f2, .string x.f2, .string x.f3, .int .i64 x.f4, .int .i64 x.f5, .slice A8 x.f6.length c8, .int .i64 x.f7] := by
  obtain ⟨n8, q8⟩ := Kd.fix_C_back mono121 g8
  have r8 := Kd.upto_C_le mono121 sz121 (show n8 ≤ n8 by omega) q8
  exact ⟨n8 + 1, ⟨[.int .u8 x.f0], [.int .i64 x.f1.f0, .int .u64 x.f1.f1, .int .u64 x.f1.f2, .string x.f2, .string x.f3, .int .i64 x.f4, .int .i64 x.f5, .slice A8 x.f6.length c8, .int .i64 x.f7], rfl, rfl, ⟨[.int .i64 x.f1.f0, .int .u64 x.f1.f1, .int .u64 x.f1.f2], [.string x.f2, .string x.f3, .int .i64 x.f4, .int .i64 x.f5, .slice A8 x.f6.length c8, .int .i64 x.f7], rfl, (k45_mk w x.f1 ), ⟨[.string x.f2], [.string x.f3, .int .i64 x.f4, .int .i64 x.f5, .slice A8 x.f6.length c8, .int .i64 x.f7], rfl, rfl, ⟨[.string x.f3], [.int .i64 x.f4, .int .i64 x.f5, .slice A8 x.f6.length c8, .int .i64 x.f7], rfl, rfl, ⟨[.int .i64 x.f4], [.int .i64 x.f5, .slice A8 x.f6.length c8, .int .i64 x.f7], rfl, rfl, ⟨[.int .i64 x.f5], [.slice A8 x.f6.length c8, .int .i64 x.f7], rfl, rfl, ⟨[.slice A8 x.f6.length c8], [.int .i64 x.f7], rfl, ⟨A8, c8, rfl, l8, r8⟩, rfl⟩⟩⟩⟩⟩⟩⟩⟩
theorem k121_mkM (w : World) (base : Nat) (ok : Nat → Prop) (x : S121) {v8 : Value} (g8 : k121.R 121 w base ok v8 x.f6) : k121.M w base ok x [.int .u8 x.f0, .int .i64 x.f1.f0, .int .u64 x.f1.f1, .int .u64 x.f1.f2, .string x.f2, .string x.f3, .int .i64 x.f4, .int .i64 x.f5, v8, .int .i64 x.f7] := by
  obtain ⟨n8, q8⟩ := Kd.fix_R_back mono121 g8
  have r8 := Kd.upto_R_le mono121 sz121 (show n8 ≤ n8 by omega) q8
  exact ⟨n8 + 1, ⟨[.int .u8 x.f0], [.int .i64 x.f1.f0, .int .u64 x.f1.f1, .int .u64 x.f1.f2, .string x.f2, .string x.f3, .int .i64 x.f4, .int .i64 x.f5, v8, .int .i64 x.f7], rfl, rfl, ⟨[.int .i64 x.f1.f0, .int .u64 x.f1.f1, .int .u64 x.f1.f2], [.string x.f2, .string x.f3, .int .i64 x.f4, .int .i64 x.f5, v8, .int .i64 x.f7], rfl, (k45_mkM w base ok x.f1 ), ⟨[.string x.f2], [.string x.f3, .int .i64 x.f4, .int .i64 x.f5, v8, .int .i64 x.f7], rfl, rfl, ⟨[.string x.f3], [.int .i64 x.f4, .int .i64 x.f5, v8, .int .i64 x.f7], rfl, rfl, ⟨[.int .i64 x.f4], [.int .i64 x.f5, v8, .int .i64 x.f7], rfl, rfl, ⟨[.int .i64 x.f5], [v8, .int .i64 x.f7], rfl, rfl, ⟨[v8], [.int .i64 x.f7], rfl, ⟨v8, rfl, r8⟩, rfl⟩⟩⟩⟩⟩⟩⟩⟩
def rd_T121 (xs : List S121) (i : Int) : S121 := xs.getD i.toNat z121
theorem at_T121 {w : World} {A : Option Addr} {n : Nat} {xs : List S121} (h : Kd.C k121 w A n xs) (i : Int) (h0 : 0 ≤ i) (h1 : i < n) : ∃ ad A8 c8, A = some ad ∧ w.cell? (ad.add (i.toNat * 10)) = some (.int .u8 (rd_T121 xs i).f0) ∧ w.cell? ⟨(ad.add (i.toNat * 10)).block, (ad.add (i.toNat * 10)).off + 1, none⟩ = some (.int .i64 (rd_T121 xs i).f1.f0) ∧ w.cell? ⟨(ad.add (i.toNat * 10)).block, (ad.add (i.toNat * 10)).off + 2, none⟩ = some (.int .u64 (rd_T121 xs i).f1.f1) ∧ w.cell? ⟨(ad.add (i.toNat * 10)).block, (ad.add (i.toNat * 10)).off + 3, none⟩ = some (.int .u64 (rd_T121 xs i).f1.f2) ∧ w.cell? ⟨(ad.add (i.toNat * 10)).block, (ad.add (i.toNat * 10)).off + 4, none⟩ = some (.string (rd_T121 xs i).f2) ∧ w.cell? ⟨(ad.add (i.toNat * 10)).block, (ad.add (i.toNat * 10)).off + 5, none⟩ = some (.string (rd_T121 xs i).f3) ∧ w.cell? ⟨(ad.add (i.toNat * 10)).block, (ad.add (i.toNat * 10)).off + 6, none⟩ = some (.int .i64 (rd_T121 xs i).f4) ∧ w.cell? ⟨(ad.add (i.toNat * 10)).block, (ad.add (i.toNat * 10)).off + 7, none⟩ = some (.int .i64 (rd_T121 xs i).f5) ∧ w.cell? ⟨(ad.add (i.toNat * 10)).block, (ad.add (i.toNat * 10)).off + 8, none⟩ = some (.slice A8 (rd_T121 xs i).f6.length c8) ∧ w.cell? ⟨(ad.add (i.toNat * 10)).block, (ad.add (i.toNat * 10)).off + 9, none⟩ = some (.int .i64 (rd_T121 xs i).f7) ∧ (rd_T121 xs i).f6.length ≤ c8 ∧ k121.C w A8 (rd_T121 xs i).f6.length (rd_T121 xs i).f6 := by
  obtain ⟨ad, c, e, _, hK, hc0⟩ := Kd.C_get h z121 i h0 h1
  have hc : ∀ j u, c[j]? = some u → w.cell? (ad.add (i.toNat * 10 + j)) = some u := hc0
  obtain ⟨A8, c8, rfl, l8, g8⟩ := k121_open hK
  exact ⟨ad, A8, c8, e, hc 0 _ rfl, by rw [← add_field _ _ 1 (by omega)]; exact hc 1 _ rfl, by rw [← add_field _ _ 2 (by omega)]; exact hc 2 _ rfl, by rw [← add_field _ _ 3 (by omega)]; exact hc 3 _ rfl, by rw [← add_field _ _ 4 (by omega)]; exact hc 4 _ rfl, by rw [← add_field _ _ 5 (by omega)]; exact hc 5 _ rfl, by rw [← add_field _ _ 6 (by omega)]; exact hc 6 _ rfl, by rw [← add_field _ _ 7 (by omega)]; exact hc 7 _ rfl, by rw [← add_field _ _ 8 (by omega)]; exact hc 8 _ rfl, by rw [← add_field _ _ 9 (by omega)]; exact hc 9 _ rfl, l8, g8⟩

def rd_L9 (xs : List (List S121)) (i : Int) : (List S121) := xs.getD i.toNat ([] : List S121)
theorem at_L9 {w : World} {A : Option Addr} {n : Nat} {xs : List (List S121)} (h : Kd.C (Kd.slice 121 k121) w A n xs) (i : Int) (h0 : 0 ≤ i) (h1 : i < n) : ∃ ad A0 c0, A = some ad ∧ w.cell? (ad.add i.toNat) = some (.slice A0 (rd_L9 xs i).length c0) ∧ (rd_L9 xs i).length ≤ c0 ∧ k121.C w A0 (rd_L9 xs i).length (rd_L9 xs i) := by
  obtain ⟨ad, c, e, _, hK, hc0⟩ := Kd.C_get h ([] : List S121) i h0 h1
  have hc : ∀ j u, c[j]? = some u → w.cell? (ad.add (i.toNat * 1 + j)) = some u := hc0
  obtain ⟨A0, c0, rfl, l0, g0⟩ := hK
  exact ⟨ad, A0, c0, e, by have hq := hc 0 _ rfl; rwa [Nat.mul_one, Nat.add_zero] at hq, l0, g0⟩

/-! #### struct type 130 -/
structure S130 where
  f0 : S45
  f1 : S45
  f2 : ByteArray
def z130 : S130 := ⟨z45, z45, (⟨#[]⟩ : ByteArray)⟩
def k130 : Kd S130 := Kd.iso (Kd.pair k45 (Kd.pair k45 Kd.string)) (fun x : S130 => (x.f0, x.f1, x.f2))
theorem k130_open {w : World} {x : S130} {cs : List Value} (h : k130.K w x cs) : cs = [.int .i64 x.f0.f0, .int .u64 x.f0.f1, .int .u64 x.f0.f2, .int .i64 x.f1.f0, .int .u64 x.f1.f1, .int .u64 x.f1.f2, .string x.f2] := by
  obtain ⟨_, _, rfl, s0, ⟨_, _, rfl, s3, rfl⟩⟩ := h
  obtain rfl := k45_open s0
  obtain rfl := k45_open s3
  exact rfl
theorem k130_openM {w : World} {base : Nat} {ok : Nat → Prop} {x : S130} {cs : List Value} (h : k130.M w base ok x cs) : cs = [.int .i64 x.f0.f0, .int .u64 x.f0.f1, .int .u64 x.f0.f2, .int .i64 x.f1.f0, .int .u64 x.f1.f1, .int .u64 x.f1.f2, .string x.f2] := by
  obtain ⟨_, _, rfl, s0, ⟨_, _, rfl, s3, rfl⟩⟩ := h
  obtain rfl := k45_openM s0
  obtain rfl := k45_openM s3
  exact rfl
theorem k130_mk (w : World) (x : S130)  : k130.K w x [.int .i64 x.f0.f0, .int .u64 x.f0.f1, .int .u64 x.f0.f2, .int .i64 x.f1.f0, .int .u64 x.f1.f1, .int .u64 x.f1.f2, .string x.f2] := ⟨[.int .i64 x.f0.f0, .int .u64 x.f0.f1, .int .u64 x.f0.f2], [.int .i64 x.f1.f0, .int .u64 x.f1.f1, .int .u64 x.f1.f2, .string x.f2], rfl, (k45_mk w x.f0 ), ⟨[.int .i64 x.f1.f0, .int .u64 x.f1.f1, .int .u64 x.f1.f2], [.string x.f2], rfl, (k45_mk w x.f1 ), rfl⟩⟩
theorem k130_mkM (w : World) (base : Nat) (ok : Nat → Prop) (x : S130)  : k130.M w base ok x [.int .i64 x.f0.f0, .int .u64 x.f0.f1, .int .u64 x.f0.f2, .int .i64 x.f1.f0, .int .u64 x.f1.f1, .int .u64 x.f1.f2, .string x.f2] := ⟨[.int .i64 x.f0.f0, .int .u64 x.f0.f1, .int .u64 x.f0.f2], [.int .i64 x.f1.f0, .int .u64 x.f1.f1, .int .u64 x.f1.f2, .string x.f2], rfl, (k45_mkM w base ok x.f0 ), ⟨[.int .i64 x.f1.f0, .int .u64 x.f1.f1, .int .u64 x.f1.f2], [.string x.f2], rfl, (k45_mkM w base ok x.f1 ), rfl⟩⟩
def rd_T130 (xs : List S130) (i : Int) : S130 := xs.getD i.toNat z130
theorem at_T130 {w : World} {A : Option Addr} {n : Nat} {xs : List S130} (h : Kd.C k130 w A n xs) (i : Int) (h0 : 0 ≤ i) (h1 : i < n) : ∃ ad , A = some ad ∧ w.cell? (ad.add (i.toNat * 7)) = some (.int .i64 (rd_T130 xs i).f0.f0) ∧ w.cell? ⟨(ad.add (i.toNat * 7)).block, (ad.add (i.toNat * 7)).off + 1, none⟩ = some (.int .u64 (rd_T130 xs i).f0.f1) ∧ w.cell? ⟨(ad.add (i.toNat * 7)).block, (ad.add (i.toNat * 7)).off + 2, none⟩ = some (.int .u64 (rd_T130 xs i).f0.f2) ∧ w.cell? ⟨(ad.add (i.toNat * 7)).block, (ad.add (i.toNat * 7)).off + 3, none⟩ = some (.int .i64 (rd_T130 xs i).f1.f0) ∧ w.cell? ⟨(ad.add (i.toNat * 7)).block, (ad.add (i.toNat * 7)).off + 4, none⟩ = some (.int .u64 (rd_T130 xs i).f1.f1) ∧ w.cell? ⟨(ad.add (i.toNat * 7)).block, (ad.add (i.toNat * 7)).off + 5, none⟩ = some (.int .u64 (rd_T130 xs i).f1.f2) ∧ w.cell? ⟨(ad.add (i.toNat * 7)).block, (ad.add (i.toNat * 7)).off + 6, none⟩ = some (.string (rd_T130 xs i).f2) := by
  obtain ⟨ad, c, e, _, hK, hc0⟩ := Kd.C_get h z130 i h0 h1
  have hc : ∀ j u, c[j]? = some u → w.cell? (ad.add (i.toNat * 7 + j)) = some u := hc0
  obtain rfl := k130_open hK
  exact ⟨ad, e, hc 0 _ rfl, by rw [← add_field _ _ 1 (by omega)]; exact hc 1 _ rfl, by rw [← add_field _ _ 2 (by omega)]; exact hc 2 _ rfl, by rw [← add_field _ _ 3 (by omega)]; exact hc 3 _ rfl, by rw [← add_field _ _ 4 (by omega)]; exact hc 4 _ rfl, by rw [← add_field _ _ 5 (by omega)]; exact hc 5 _ rfl, by rw [← add_field _ _ 6 (by omega)]; exact hc 6 _ rfl⟩

def rd_L11 (xs : List (List S130)) (i : Int) : (List S130) := xs.getD i.toNat ([] : List S130)
theorem at_L11 {w : World} {A : Option Addr} {n : Nat} {xs : List (List S130)} (h : Kd.C (Kd.slice 130 k130) w A n xs) (i : Int) (h0 : 0 ≤ i) (h1 : i < n) : ∃ ad A0 c0, A = some ad ∧ w.cell? (ad.add i.toNat) = some (.slice A0 (rd_L11 xs i).length c0) ∧ (rd_L11 xs i).length ≤ c0 ∧ k130.C w A0 (rd_L11 xs i).length (rd_L11 xs i) := by
  obtain ⟨ad, c, e, _, hK, hc0⟩ := Kd.C_get h ([] : List S130) i h0 h1
  have hc : ∀ j u, c[j]? = some u → w.cell? (ad.add (i.toNat * 1 + j)) = some u := hc0
  obtain ⟨A0, c0, rfl, l0, g0⟩ := hK
  exact ⟨ad, A0, c0, e, by have hq := hc 0 _ rfl; rwa [Nat.mul_one, Nat.add_zero] at hq, l0, g0⟩

/-! #### struct type 118 -/
structure S118 where
  f0 : ByteArray
  f1 : (List ByteArray)
  f2 : (List S121)
  f3 : (List S130)
  f4 : ByteArray
  f5 : Int
def z118 : S118 := ⟨(⟨#[]⟩ : ByteArray), ([] : List ByteArray), ([] : List S121), ([] : List S130), (⟨#[]⟩ : ByteArray), (0 : Int)⟩
def k118 : Kd S118 := Kd.iso (Kd.pair Kd.string (Kd.pair (Kd.slice 9 Kd.string) (Kd.pair (Kd.slice 121 k121) (Kd.pair (Kd.slice 130 k130) (Kd.pair Kd.string (Kd.int .i64)))))) (fun x : S118 => (x.f0, x.f1, x.f2, x.f3, x.f4, x.f5))
theorem k118_open {w : World} {x : S118} {cs : List Value} (h : k118.K w x cs) : ∃ A1 c1 A2 c2 A3 c3, cs = [.string x.f0, .slice A1 x.f1.length c1, .slice A2 x.f2.length c2, .slice A3 x.f3.length c3, .string x.f4, .int .i64 x.f5] ∧ x.f1.length ≤ c1 ∧ Kd.string.C w A1 x.f1.length x.f1 ∧ x.f2.length ≤ c2 ∧ k121.C w A2 x.f2.length x.f2 ∧ x.f3.length ≤ c3 ∧ k130.C w A3 x.f3.length x.f3 := by
  obtain ⟨_, _, rfl, rfl, ⟨_, _, rfl, ⟨A1, c1, rfl, l1, g1⟩, ⟨_, _, rfl, ⟨A2, c2, rfl, l2, g2⟩, ⟨_, _, rfl, ⟨A3, c3, rfl, l3, g3⟩, ⟨_, _, rfl, rfl, rfl⟩⟩⟩⟩⟩ := h
  exact ⟨A1, c1, A2, c2, A3, c3, rfl, l1, g1, l2, g2, l3, g3⟩
theorem k118_openM {w : World} {base : Nat} {ok : Nat → Prop} {x : S118} {cs : List Value} (h : k118.M w base ok x cs) : ∃ v1 v2 v3, cs = [.string x.f0, v1, v2, v3, .string x.f4, .int .i64 x.f5] ∧ Kd.string.R 9 w base ok v1 x.f1 ∧ k121.R 121 w base ok v2 x.f2 ∧ k130.R 130 w base ok v3 x.f3 := by
  obtain ⟨_, _, rfl, rfl, ⟨_, _, rfl, ⟨v1, rfl, g1⟩, ⟨_, _, rfl, ⟨v2, rfl, g2⟩, ⟨_, _, rfl, ⟨v3, rfl, g3⟩, ⟨_, _, rfl, rfl, rfl⟩⟩⟩⟩⟩ := h
  exact ⟨v1, v2, v3, rfl, g1, g2, g3⟩
theorem k118_mk (w : World) (x : S118) {A1 : Option Addr} {c1 : Nat} (l1 : x.f1.length ≤ c1) (g1 : Kd.string.C w A1 x.f1.length x.f1) {A2 : Option Addr} {c2 : Nat} (l2 : x.f2.length ≤ c2) (g2 : k121.C w A2 x.f2.length x.f2) {A3 : Option Addr} {c3 : Nat} (l3 : x.f3.length ≤ c3) (g3 : k130.C w A3 x.f3.length x.f3) : k118.K w x [.string x.f0, .slice A1 x.f1.length c1, .slice A2 x.f2.length c2, .slice A3 x.f3.length c3, .string x.f4, .int .i64 x.f5] := ⟨[.string x.f0], [.slice A1 x.f1.length c1, .slice A2 x.f2.length c2, .slice A3 x.f3.length c3, .string x.f4, .int .i64 x.f5], rfl, rfl, ⟨[.slice A1 x.f1.length c1], [.slice A2 x.f2.length c2, .slice A3 x.f3.length c3, .string x.f4, .int .i64 x.f5], rfl, ⟨A1, c1, rfl, l1, g1⟩, ⟨[.slice A2 x.f2.length c2], [.slice A3 x.f3.length c3, .string x.f4, .int .i64 x.f5], rfl, ⟨A2, c2, rfl, l2, g2⟩, ⟨[.slice A3 x.f3.length c3], [.string x.f4, .int .i64 x.f5], rfl, ⟨A3, c3, rfl, l3, g3⟩, ⟨[.string x.f4], [.int .i64 x.f5], rfl, rfl, rfl⟩⟩⟩⟩⟩
theorem k118_mkM (w : World) (base : Nat) (ok : Nat → Prop) (x : S118) {v1 : Value} (g1 : Kd.string.R 9 w base ok v1 x.f1) {v2 : Value} (g2 : k121.R 121 w base ok v2 x.f2) {v3 : Value} (g3 : k130.R 130 w base ok v3 x.f3) : k118.M w base ok x [.string x.f0, v1, v2, v3, .string x.f4, .int .i64 x.f5] := ⟨[.string x.f0], [v1, v2, v3, .string x.f4, .int .i64 x.f5], rfl, rfl, ⟨[v1], [v2, v3, .string x.f4, .int .i64 x.f5], rfl, ⟨v1, rfl, g1⟩, ⟨[v2], [v3, .string x.f4, .int .i64 x.f5], rfl, ⟨v2, rfl, g2⟩, ⟨[v3], [.string x.f4, .int .i64 x.f5], rfl, ⟨v3, rfl, g3⟩, ⟨[.string x.f4], [.int .i64 x.f5], rfl, rfl, rfl⟩⟩⟩⟩⟩
def rd_T118 (xs : List S118) (i : Int) : S118 := xs.getD i.toNat z118
theorem at_T118 {w : World} {A : Option Addr} {n : Nat} {xs : List S118} (h : Kd.C k118 w A n xs) (i : Int) (h0 : 0 ≤ i) (h1 : i < n) : ∃ ad A1 c1 A2 c2 A3 c3, A = some ad ∧ w.cell? (ad.add (i.toNat * 6)) = some (.string (rd_T118 xs i).f0) ∧ w.cell? ⟨(ad.add (i.toNat * 6)).block, (ad.add (i.toNat * 6)).off + 1, none⟩ = some (.slice A1 (rd_T118 xs i).f1.length c1) ∧ w.cell? ⟨(ad.add (i.toNat * 6)).block, (ad.add (i.toNat * 6)).off + 2, none⟩ = some (.slice A2 (rd_T118 xs i).f2.length c2) ∧ w.cell? ⟨(ad.add (i.toNat * 6)).block, (ad.add (i.toNat * 6)).off + 3, none⟩ = some (.slice A3 (rd_T118 xs i).f3.length c3) ∧ w.cell? ⟨(ad.add (i.toNat * 6)).block, (ad.add (i.toNat * 6)).off + 4, none⟩ = some (.string (rd_T118 xs i).f4) ∧ w.cell? ⟨(ad.add (i.toNat * 6)).block, (ad.add (i.toNat * 6)).off + 5, none⟩ = some (.int .i64 (rd_T118 xs i).f5) ∧ (rd_T118 xs i).f1.length ≤ c1 ∧ Kd.string.C w A1 (rd_T118 xs i).f1.length (rd_T118 xs i).f1 ∧ (rd_T118 xs i).f2.length ≤ c2 ∧ k121.C w A2 (rd_T118 xs i).f2.length (rd_T118 xs i).f2 ∧ (rd_T118 xs i).f3.length ≤ c3 ∧ k130.C w A3 (rd_T118 xs i).f3.length (rd_T118 xs i).f3 := by
  obtain ⟨ad, c, e, _, hK, hc0⟩ := Kd.C_get h z118 i h0 h1
  have hc : ∀ j u, c[j]? = some u → w.cell? (ad.add (i.toNat * 6 + j)) = some u := hc0
  obtain ⟨A1, c1, A2, c2, A3, c3, rfl, l1, g1, l2, g2, l3, g3⟩ := k118_open hK
  exact ⟨ad, A1, c1, A2, c2, A3, c3, e, hc 0 _ rfl, by rw [← add_field _ _ 1 (by omega)]; exact hc 1 _ rfl, by rw [← add_field _ _ 2 (by omega)]; exact hc 2 _ rfl, by rw [← add_field _ _ 3 (by omega)]; exact hc 3 _ rfl, by rw [← add_field _ _ 4 (by omega)]; exact hc 4 _ rfl, by rw [← add_field _ _ 5 (by omega)]; exact hc 5 _ rfl, l1, g1, l2, g2, l3, g3⟩

def rd_L13 (xs : List (List S118)) (i : Int) : (List S118) := xs.getD i.toNat ([] : List S118)
theorem at_L13 {w : World} {A : Option Addr} {n : Nat} {xs : List (List S118)} (h : Kd.C (Kd.slice 118 k118) w A n xs) (i : Int) (h0 : 0 ≤ i) (h1 : i < n) : ∃ ad A0 c0, A = some ad ∧ w.cell? (ad.add i.toNat) = some (.slice A0 (rd_L13 xs i).length c0) ∧ (rd_L13 xs i).length ≤ c0 ∧ k118.C w A0 (rd_L13 xs i).length (rd_L13 xs i) := by
  obtain ⟨ad, c, e, _, hK, hc0⟩ := Kd.C_get h ([] : List S118) i h0 h1
  have hc : ∀ j u, c[j]? = some u → w.cell? (ad.add (i.toNat * 1 + j)) = some u := hc0
  obtain ⟨A0, c0, rfl, l0, g0⟩ := hK
  exact ⟨ad, A0, c0, e, by have hq := hc 0 _ rfl; rwa [Nat.mul_one, Nat.add_zero] at hq, l0, g0⟩

/-! #### struct type 124 -/
structure S124 where
  f0 : S121
  f1 : Int
def z124 : S124 := ⟨z121, (0 : Int)⟩
def k124 : Kd S124 := Kd.iso (Kd.pair k121 (Kd.int .u8)) (fun x : S124 => (x.f0, x.f1))
theorem k124_open {w : World} {x : S124} {cs : List Value} (h : k124.K w x cs) : ∃ A8 c8, cs = [.int .u8 x.f0.f0, .int .i64 x.f0.f1.f0, .int .u64 x.f0.f1.f1, .int .u64 x.f0.f1.f2, .string x.f0.f2, .string x.f0.f3, .int .i64 x.f0.f4, .int .i64 x.f0.f5, .slice A8 x.f0.f6.length c8, .int .i64 x.f0.f7, .int .u8 x.f1] ∧ x.f0.f6.length ≤ c8 ∧ k121.C w A8 x.f0.f6.length x.f0.f6 := by
  obtain ⟨_, _, rfl, s0, rfl⟩ := h
  obtain ⟨A8, c8, rfl, l8, g8⟩ := k121_open s0
  exact ⟨A8, c8, rfl, l8, g8⟩
theorem k124_openM {w : World} {base : Nat} {ok : Nat → Prop} {x : S124} {cs : List Value} (h : k124.M w base ok x cs) : ∃ v8, cs = [.int .u8 x.f0.f0, .int .i64 x.f0.f1.f0, .int .u64 x.f0.f1.f1, .int .u64 x.f0.f1.f2, .string x.f0.f2, .string x.f0.f3, .int .i64 x.f0.f4, .int .i64 x.f0.f5, v8, .int .i64 x.f0.f7, .int .u8 x.f1] ∧ k121.R 121 w base ok v8 x.f0.f6 := by
  obtain ⟨_, _, rfl, s0, rfl⟩ := h
  obtain ⟨v8, rfl, g8⟩ := k121_openM s0
  exact ⟨v8, rfl, g8⟩
theorem k124_mk (w : World) (x : S124) {A8 : Option Addr} {c8 : Nat} (l8 : x.f0.f6.length ≤ c8) (g8 : k121.C w A8 x.f0.f6.length x.f0.f6) : k124.K w x [.int .u8 x.f0.f0, .int .i64 x.f0.f1.f0, .int .u64 x.f0.f1.f1, .int .u64 x.f0.f1.f2, .string x.f0.f2, .string x.f0.f3, .int .i64 x.f0.f4, .int .i64 x.f0.f5, .slice A8 x.f0.f6.length c8, .int .i64 x.f0.f7, .int .u8 x.f1] := ⟨[.int .u8 x.f0.f0, .int .i64 x.f0.f1.f0, .int .u64 x.f0.f1.f1, .int .u64 x.f0.f1.f2, .string x.f0.f2, .string x.f0.f3, .int .i64 x.f0.f4, .int .i64 x.f0.f5, .slice A8 x.f0.f6.length c8, .int .i64 x.f0.f7], [.int .u8 x.f1], rfl, (k121_mk w x.f0 l8 g8), rfl⟩
theorem k124_mkM (w : World) (base : Nat) (ok : Nat → Prop) (x : S124) {v8 : Value} (g8 : k121.R 121 w base ok v8 x.f0.f6) : k124.M w base ok x [.int .u8 x.f0.f0, .int .i64 x.f0.f1.f0, .int .u64 x.f0.f1.f1, .int .u64 x.f0.f1.f2, .string x.f0.f2, .string x.f0.f3, .int .i64 x.f0.f4, .int .i64 x.f0.f5, v8, .int .i64 x.f0.f7, .int .u8 x.f1] := ⟨[.int .u8 x.f0.f0, .int .i64 x.f0.f1.f0, .int .u64 x.f0.f1.f1, .int .u64 x.f0.f1.f2, .string x.f0.f2, .string x.f0.f3, .int .i64 x.f0.f4, .int .i64 x.f0.f5, v8, .int .i64 x.f0.f7], [.int .u8 x.f1], rfl, (k121_mkM w base ok x.f0 g8), rfl⟩
def rd_T124 (xs : List S124) (i : Int) : S124 := xs.getD i.toNat z124
theorem at_T124 {w : World} {A : Option Addr} {n : Nat} {xs : List S124} (h : Kd.C k124 w A n xs) (i : Int) (h0 : 0 ≤ i) (h1 : i < n) : ∃ ad A8 c8, A = some ad ∧ w.cell? (ad.add (i.toNat * 11)) = some (.int .u8 (rd_T124 xs i).f0.f0) ∧ w.cell? ⟨(ad.add (i.toNat * 11)).block, (ad.add (i.toNat * 11)).off + 1, none⟩ = some (.int .i64 (rd_T124 xs i).f0.f1.f0) ∧ w.cell? ⟨(ad.add (i.toNat * 11)).block, (ad.add (i.toNat * 11)).off + 2, none⟩ = some (.int .u64 (rd_T124 xs i).f0.f1.f1) ∧ w.cell? ⟨(ad.add (i.toNat * 11)).block, (ad.add (i.toNat * 11)).off + 3, none⟩ = some (.int .u64 (rd_T124 xs i).f0.f1.f2) ∧ w.cell? ⟨(ad.add (i.toNat * 11)).block, (ad.add (i.toNat * 11)).off + 4, none⟩ = some (.string (rd_T124 xs i).f0.f2) ∧ w.cell? ⟨(ad.add (i.toNat * 11)).block, (ad.add (i.toNat * 11)).off + 5, none⟩ = some (.string (rd_T124 xs i).f0.f3) ∧ w.cell? ⟨(ad.add (i.toNat * 11)).block, (ad.add (i.toNat * 11)).off + 6, none⟩ = some (.int .i64 (rd_T124 xs i).f0.f4) ∧ w.cell? ⟨(ad.add (i.toNat * 11)).block, (ad.add (i.toNat * 11)).off + 7, none⟩ = some (.int .i64 (rd_T124 xs i).f0.f5) ∧ w.cell? ⟨(ad.add (i.toNat * 11)).block, (ad.add (i.toNat * 11)).off + 8, none⟩ = some (.slice A8 (rd_T124 xs i).f0.f6.length c8) ∧ w.cell? ⟨(ad.add (i.toNat * 11)).block, (ad.add (i.toNat * 11)).off + 9, none⟩ = some (.int .i64 (rd_T124 xs i).f0.f7) ∧ w.cell? ⟨(ad.add (i.toNat * 11)).block, (ad.add (i.toNat * 11)).off + 10, none⟩ = some (.int .u8 (rd_T124 xs i).f1) ∧ (rd_T124 xs i).f0.f6.length ≤ c8 ∧ k121.C w A8 (rd_T124 xs i).f0.f6.length (rd_T124 xs i).f0.f6 := by
  obtain ⟨ad, c, e, _, hK, hc0⟩ := Kd.C_get h z124 i h0 h1
  have hc : ∀ j u, c[j]? = some u → w.cell? (ad.add (i.toNat * 11 + j)) = some u := hc0
  obtain ⟨A8, c8, rfl, l8, g8⟩ := k124_open hK
  exact ⟨ad, A8, c8, e, hc 0 _ rfl, by rw [← add_field _ _ 1 (by omega)]; exact hc 1 _ rfl, by rw [← add_field _ _ 2 (by omega)]; exact hc 2 _ rfl, by rw [← add_field _ _ 3 (by omega)]; exact hc 3 _ rfl, by rw [← add_field _ _ 4 (by omega)]; exact hc 4 _ rfl, by rw [← add_field _ _ 5 (by omega)]; exact hc 5 _ rfl, by rw [← add_field _ _ 6 (by omega)]; exact hc 6 _ rfl, by rw [← add_field _ _ 7 (by omega)]; exact hc 7 _ rfl, by rw [← add_field _ _ 8 (by omega)]; exact hc 8 _ rfl, by rw [← add_field _ _ 9 (by omega)]; exact hc 9 _ rfl, by rw [← add_field _ _ 10 (by omega)]; exact hc 10 _ rfl, l8, g8⟩

def rd_L15 (xs : List (List S124)) (i : Int) : (List S124) := xs.getD i.toNat ([] : List S124)
theorem at_L15 {w : World} {A : Option Addr} {n : Nat} {xs : List (List S124)} (h : Kd.C (Kd.slice 124 k124) w A n xs) (i : Int) (h0 : 0 ≤ i) (h1 : i < n) : ∃ ad A0 c0, A = some ad ∧ w.cell? (ad.add i.toNat) = some (.slice A0 (rd_L15 xs i).length c0) ∧ (rd_L15 xs i).length ≤ c0 ∧ k124.C w A0 (rd_L15 xs i).length (rd_L15 xs i) := by
  obtain ⟨ad, c, e, _, hK, hc0⟩ := Kd.C_get h ([] : List S124) i h0 h1
  have hc : ∀ j u, c[j]? = some u → w.cell? (ad.add (i.toNat * 1 + j)) = some u := hc0
  obtain ⟨A0, c0, rfl, l0, g0⟩ := hK
  exact ⟨ad, A0, c0, e, by have hq := hc 0 _ rfl; rwa [Nat.mul_one, Nat.add_zero] at hq, l0, g0⟩

def rd_L16 (xs : List (List S45)) (i : Int) : (List S45) := xs.getD i.toNat ([] : List S45)
theorem at_L16 {w : World} {A : Option Addr} {n : Nat} {xs : List (List S45)} (h : Kd.C (Kd.slice 45 k45) w A n xs) (i : Int) (h0 : 0 ≤ i) (h1 : i < n) : ∃ ad A0 c0, A = some ad ∧ w.cell? (ad.add i.toNat) = some (.slice A0 (rd_L16 xs i).length c0) ∧ (rd_L16 xs i).length ≤ c0 ∧ k45.C w A0 (rd_L16 xs i).length (rd_L16 xs i) := by
  obtain ⟨ad, c, e, _, hK, hc0⟩ := Kd.C_get h ([] : List S45) i h0 h1
  have hc : ∀ j u, c[j]? = some u → w.cell? (ad.add (i.toNat * 1 + j)) = some u := hc0
  obtain ⟨A0, c0, rfl, l0, g0⟩ := hK
  exact ⟨ad, A0, c0, e, by have hq := hc 0 _ rfl; rwa [Nat.mul_one, Nat.add_zero] at hq, l0, g0⟩

/-! #### struct type 127, nested in itself -/
structure S127 where
  f0 : Int
  f1 : ByteArray
  f2 : ByteArray
  f3 : ByteArray
  f4 : Int
  f5 : (List S121)
  f6 : (List S127)
  f7 : (List S127)
  f8 : Int
def z127 : S127 := ⟨(0 : Int), (⟨#[]⟩ : ByteArray), (⟨#[]⟩ : ByteArray), (⟨#[]⟩ : ByteArray), (0 : Int), ([] : List S121), ([] : List S127), ([] : List S127), (0 : Int)⟩
def F127 (d : Kd S127) : Kd S127 := Kd.iso (Kd.pair (Kd.int .u8) (Kd.pair Kd.string (Kd.pair Kd.string (Kd.pair Kd.string (Kd.pair (Kd.int .i64) (Kd.pair (Kd.slice 121 k121) (Kd.pair (Kd.slice 127 d) (Kd.pair (Kd.slice 127 d) (Kd.int .i64))))))))) (fun x : S127 => (x.f0, x.f1, x.f2, x.f3, x.f4, x.f5, x.f6, x.f7, x.f8))
theorem mono127 : Kd.Mono F127 := Kd.mono_iso _ (Kd.mono_pair (Kd.mono_const _) (Kd.mono_pair (Kd.mono_const _) (Kd.mono_pair (Kd.mono_const _) (Kd.mono_pair (Kd.mono_const _) (Kd.mono_pair (Kd.mono_const _) (Kd.mono_pair (Kd.mono_const _) (Kd.mono_pair (Kd.mono_slice 127 Kd.mono_id) (Kd.mono_pair (Kd.mono_slice 127 Kd.mono_id) (Kd.mono_const _)))))))))
theorem sub127 : Kd.Sub F127 [121, 127] := Kd.sub_iso _ (Kd.sub_pair (Kd.sub_const _ (by decide)) (Kd.sub_pair (Kd.sub_const _ (by decide)) (Kd.sub_pair (Kd.sub_const _ (by decide)) (Kd.sub_pair (Kd.sub_const _ (by decide)) (Kd.sub_pair (Kd.sub_const _ (by decide)) (Kd.sub_pair (Kd.sub_const _ (by decide)) (Kd.sub_pair (Kd.sub_slice 127 (by decide) Kd.sub_id) (Kd.sub_pair (Kd.sub_slice 127 (by decide) Kd.sub_id) (Kd.sub_const _ (by decide))))))))))
theorem sz127 : ∀ n, (Kd.upto F127 9 [121, 127] n).sz = 9 := Kd.upto_sz (fun _ => rfl)
def k127 : Kd S127 := Kd.fix F127 9 [121, 127] sz127 (Kd.upto_E sub127)
theorem k127_open {w : World} {x : S127} {cs : List Value} (h : k127.K w x cs) : ∃ A5 c5 A6 c6 A7 c7, cs = [.int .u8 x.f0, .string x.f1, .string x.f2, .string x.f3, .int .i64 x.f4, .slice A5 x.f5.length c5, .slice A6 x.f6.length c6, .slice A7 x.f7.length c7, .int .i64 x.f8] ∧ x.f5.length ≤ c5 ∧ k121.C w A5 x.f5.length x.f5 ∧ x.f6.length ≤ c6 ∧ k127.C w A6 x.f6.length x.f6 ∧ x.f7.length ≤ c7 ∧ k127.C w A7 x.f7.length x.f7 := by
  obtain ⟨n, h⟩ := h
  cases n with
  | zero => exact h.elim
  | succ n =>
    obtain ⟨_, _, rfl, rfl, ⟨_, _, rfl, rfl, ⟨_, _, rfl, rfl, ⟨_, _, rfl, rfl, ⟨_, _, rfl, rfl, ⟨_, _, rfl, ⟨A5, c5, rfl, l5, g5⟩, ⟨_, _, rfl, ⟨A6, c6, rfl, l6, g6⟩, ⟨_, _, rfl, ⟨A7, c7, rfl, l7, g7⟩, rfl⟩⟩⟩⟩⟩⟩⟩⟩ := h
    exact ⟨A5, c5, A6, c6, A7, c7, rfl, l5, g5, l6, Kd.fix_C g6, l7, Kd.fix_C g7⟩
theorem k127_openM {w : World} {base : Nat} {ok : Nat → Prop} {x : S127} {cs : List Value} (h : k127.M w base ok x cs) : ∃ v5 v6 v7, cs = [.int .u8 x.f0, .string x.f1, .string x.f2, .string x.f3, .int .i64 x.f4, v5, v6, v7, .int .i64 x.f8] ∧ k121.R 121 w base ok v5 x.f5 ∧ k127.R 127 w base ok v6 x.f6 ∧ k127.R 127 w base ok v7 x.f7 := by
  obtain ⟨n, h⟩ := h
  cases n with
  | zero => exact h.elim
  | succ n =>
    obtain ⟨_, _, rfl, rfl, ⟨_, _, rfl, rfl, ⟨_, _, rfl, rfl, ⟨_, _, rfl, rfl, ⟨_, _, rfl, rfl, ⟨_, _, rfl, ⟨v5, rfl, g5⟩, ⟨_, _, rfl, ⟨v6, rfl, g6⟩, ⟨_, _, rfl, ⟨v7, rfl, g7⟩, rfl⟩⟩⟩⟩⟩⟩⟩⟩ := h
    exact ⟨v5, v6, v7, rfl, g5, Kd.fix_R g6, Kd.fix_R g7⟩
theorem k127_mk (w : World) (x : S127) {A5 : Option Addr} {c5 : Nat} (l5 : x.f5.length ≤ c5) (g5 : k121.C w A5 x.f5.length x.f5) {A6 : Option Addr} {c6 : Nat} (l6 : x.f6.length ≤ c6) (g6 : k127.C w A6 x.f6.length x.f6) {A7 : Option Addr} {c7 : Nat} (l7 : x.f7.length ≤ c7) (g7 : k127.C w A7 x.f7.length x.f7) : k127.K w x [.int .u8 x.f0, .string x.f1, .string x.f2, .string x.f3, .int .i64 x.f4, .slice A5 x.f5.length c5, .slice A6 x.f6.length c6, .slice A7 x.f7.length c7, .int .i64 x.f8] := by
  obtain ⟨n6, q6⟩ := Kd.fix_C_back mono127 g6
  obtain ⟨n7, q7⟩ := Kd.fix_C_back mono127 g7
  have r6 := Kd.upto_C_le mono127 sz127 (show n6 ≤ (max n6 n7) by omega) q6
  have r7 := Kd.upto_C_le mono127 sz127 (show n7 ≤ (max n6 n7) by omega) q7
  exact ⟨(max n6 n7) + 1, ⟨[.int .u8 x.f0], [.string x.f1, .string x.f2, .string x.f3, .int .i64 x.f4, .slice A5 x.f5.length c5, .slice A6 x.f6.length c6, .slice A7 x.f7.length c7, .int .i64 x.f8], rfl, rfl, ⟨[.string x.f1], [.string x.f2, .string x.f3, .int .i64 x.f4, .slice A5 x.f5.length c5, .slice A6 x.f6.length c6, .slice A7 x.f7.length c7, .int .i64 x.f8], rfl, rfl, ⟨[.string x.f2], [.string x.f3, .int .i64 x.f4, .slice A5 x.f5.length c5, .slice A6 x.f6.length c6, .slice A7 x.f7.length c7, .int .i64 x.f8], rfl, rfl, ⟨[.string x.f3], [.int .i64 x.f4, .slice A5 x.f5.length c5, .slice A6 x.f6.length c6, .slice A7 x.f7.length c7, .int .i64 x.f8], rfl, rfl, ⟨[.int .i64 x.f4], [.slice A5 x.f5.length c5, .slice A6 x.f6.length c6, .slice A7 x.f7.length c7, .int .i64 x.f8], rfl, rfl, ⟨[.slice A5 x.f5.length c5], [.slice A6 x.f6.length c6, .slice A7 x.f7.length c7, .int .i64 x.f8], rfl, ⟨A5, c5, rfl, l5, g5⟩, ⟨[.slice A6 x.f6.length c6], [.slice A7 x.f7.length c7, .int .i64 x.f8], rfl, ⟨A6, c6, rfl, l6, r6⟩, ⟨[.slice A7 x.f7.length c7], [.int .i64 x.f8], rfl, ⟨A7, c7, rfl, l7, r7⟩, rfl⟩⟩⟩⟩⟩⟩⟩⟩⟩
theorem k127_mkM (w : World) (base : Nat) (ok : Nat → Prop) (x : S127) {v5 : Value} (g5 : k121.R 121 w base ok v5 x.f5) {v6 : Value} (g6 : k127.R 127 w base ok v6 x.f6) {v7 : Value} (g7 : k127.R 127 w base ok v7 x.f7) : k127.M w base ok x [.int .u8 x.f0, .string x.f1, .string x.f2, .string x.f3, .int .i64 x.f4, v5, v6, v7, .int .i64 x.f8] := by
  obtain ⟨n6, q6⟩ := Kd.fix_R_back mono127 g6
  obtain ⟨n7, q7⟩ := Kd.fix_R_back mono127 g7
  have r6 := Kd.upto_R_le mono127 sz127 (show n6 ≤ (max n6 n7) by omega) q6
  have r7 := Kd.upto_R_le mono127 sz127 (show n7 ≤ (max n6 n7) by omega) q7
  exact ⟨(max n6 n7) + 1, ⟨[.int .u8 x.f0], [.string x.f1, .string x.f2, .string x.f3, .int .i64 x.f4, v5, v6, v7, .int .i64 x.f8], rfl, rfl, ⟨[.string x.f1], [.string x.f2, .string x.f3, .int .i64 x.f4, v5, v6, v7, .int .i64 x.f8], rfl, rfl, ⟨[.string x.f2], [.string x.f3, .int .i64 x.f4, v5, v6, v7, .int .i64 x.f8], rfl, rfl, ⟨[.string x.f3], [.int .i64 x.f4, v5, v6, v7, .int .i64 x.f8], rfl, rfl, ⟨[.int .i64 x.f4], [v5, v6, v7, .int .i64 x.f8], rfl, rfl, ⟨[v5], [v6, v7, .int .i64 x.f8], rfl, ⟨v5, rfl, g5⟩, ⟨[v6], [v7, .int .i64 x.f8], rfl, ⟨v6, rfl, r6⟩, ⟨[v7], [.int .i64 x.f8], rfl, ⟨v7, rfl, r7⟩, rfl⟩⟩⟩⟩⟩⟩⟩⟩⟩
def rd_T127 (xs : List S127) (i : Int) : S127 := xs.getD i.toNat z127
theorem at_T127 {w : World} {A : Option Addr} {n : Nat} {xs : List S127} (h : Kd.C k127 w A n xs) (i : Int) (h0 : 0 ≤ i) (h1 : i < n) : ∃ ad A5 c5 A6 c6 A7 c7, A = some ad ∧ w.cell? (ad.add (i.toNat * 9)) = some (.int .u8 (rd_T127 xs i).f0) ∧ w.cell? ⟨(ad.add (i.toNat * 9)).block, (ad.add (i.toNat * 9)).off + 1, none⟩ = some (.string (rd_T127 xs i).f1) ∧ w.cell? ⟨(ad.add (i.toNat * 9)).block, (ad.add (i.toNat * 9)).off + 2, none⟩ = some (.string (rd_T127 xs i).f2) ∧ w.cell? ⟨(ad.add (i.toNat * 9)).block, (ad.add (i.toNat * 9)).off + 3, none⟩ = some (.string (rd_T127 xs i).f3) ∧ w.cell? ⟨(ad.add (i.toNat * 9)).block, (ad.add (i.toNat * 9)).off + 4, none⟩ = some (.int .i64 (rd_T127 xs i).f4) ∧ w.cell? ⟨(ad.add (i.toNat * 9)).block, (ad.add (i.toNat * 9)).off + 5, none⟩ = some (.slice A5 (rd_T127 xs i).f5.length c5) ∧ w.cell? ⟨(ad.add (i.toNat * 9)).block, (ad.add (i.toNat * 9)).off + 6, none⟩ = some (.slice A6 (rd_T127 xs i).f6.length c6) ∧ w.cell? ⟨(ad.add (i.toNat * 9)).block, (ad.add (i.toNat * 9)).off + 7, none⟩ = some (.slice A7 (rd_T127 xs i).f7.length c7) ∧ w.cell? ⟨(ad.add (i.toNat * 9)).block, (ad.add (i.toNat * 9)).off + 8, none⟩ = some (.int .i64 (rd_T127 xs i).f8) ∧ (rd_T127 xs i).f5.length ≤ c5 ∧ k121.C w A5 (rd_T127 xs i).f5.length (rd_T127 xs i).f5 ∧ (rd_T127 xs i).f6.length ≤ c6 ∧ k127.C w A6 (rd_T127 xs i).f6.length (rd_T127 xs i).f6 ∧ (rd_T127 xs i).f7.length ≤ c7 ∧ k127.C w A7 (rd_T127 xs i).f7.length (rd_T127 xs i).f7 := by
  obtain ⟨ad, c, e, _, hK, hc0⟩ := Kd.C_get h z127 i h0 h1
  have hc : ∀ j u, c[j]? = some u → w.cell? (ad.add (i.toNat * 9 + j)) = some u := hc0
  obtain ⟨A5, c5, A6, c6, A7, c7, rfl, l5, g5, l6, g6, l7, g7⟩ := k127_open hK
  exact ⟨ad, A5, c5, A6, c6, A7, c7, e, hc 0 _ rfl, by rw [← add_field _ _ 1 (by omega)]; exact hc 1 _ rfl, by rw [← add_field _ _ 2 (by omega)]; exact hc 2 _ rfl, by rw [← add_field _ _ 3 (by omega)]; exact hc 3 _ rfl, by rw [← add_field _ _ 4 (by omega)]; exact hc 4 _ rfl, by rw [← add_field _ _ 5 (by omega)]; exact hc 5 _ rfl, by rw [← add_field _ _ 6 (by omega)]; exact hc 6 _ rfl, by rw [← add_field _ _ 7 (by omega)]; exact hc 7 _ rfl, by rw [← add_field _ _ 8 (by omega)]; exact hc 8 _ rfl, l5, g5, l6, g6, l7, g7⟩

def rd_L18 (xs : List (List S127)) (i : Int) : (List S127) := xs.getD i.toNat ([] : List S127)
theorem at_L18 {w : World} {A : Option Addr} {n : Nat} {xs : List (List S127)} (h : Kd.C (Kd.slice 127 k127) w A n xs) (i : Int) (h0 : 0 ≤ i) (h1 : i < n) : ∃ ad A0 c0, A = some ad ∧ w.cell? (ad.add i.toNat) = some (.slice A0 (rd_L18 xs i).length c0) ∧ (rd_L18 xs i).length ≤ c0 ∧ k127.C w A0 (rd_L18 xs i).length (rd_L18 xs i) := by
  obtain ⟨ad, c, e, _, hK, hc0⟩ := Kd.C_get h ([] : List S127) i h0 h1
  have hc : ∀ j u, c[j]? = some u → w.cell? (ad.add (i.toNat * 1 + j)) = some u := hc0
  obtain ⟨A0, c0, rfl, l0, g0⟩ := hK
  exact ⟨ad, A0, c0, e, by have hq := hc 0 _ rfl; rwa [Nat.mul_one, Nat.add_zero] at hq, l0, g0⟩

/-! #### struct type 33 -/
structure S33 where
  f0 : Int
  f1 : ByteArray
  f2 : (List S114)
  f3 : Int
  f4 : Int
  f5 : Int
  f6 : Int
  f7 : (List S118)
  f8 : (List S124)
  f9 : (List ByteArray)
  f10 : ByteArray
  f11 : (List S45)
  f12 : (List S127)
  f13 : (List ByteArray)
  f14 : Int
def z33 : S33 := ⟨(0 : Int), (⟨#[]⟩ : ByteArray), ([] : List S114), (0 : Int), (0 : Int), (0 : Int), (0 : Int), ([] : List S118), ([] : List S124), ([] : List ByteArray), (⟨#[]⟩ : ByteArray), ([] : List S45), ([] : List S127), ([] : List ByteArray), (0 : Int)⟩
def k33 : Kd S33 := Kd.iso (Kd.pair (Kd.int .u8) (Kd.pair Kd.string (Kd.pair (Kd.slice 114 k114) (Kd.pair (Kd.int .i64) (Kd.pair (Kd.int .i64) (Kd.pair (Kd.int .i64) (Kd.pair (Kd.int .i64) (Kd.pair (Kd.slice 118 k118) (Kd.pair (Kd.slice 124 k124) (Kd.pair (Kd.slice 9 Kd.string) (Kd.pair Kd.string (Kd.pair (Kd.slice 45 k45) (Kd.pair (Kd.slice 127 k127) (Kd.pair (Kd.slice 9 Kd.string) (Kd.int .i64))))))))))))))) (fun x : S33 => (x.f0, x.f1, x.f2, x.f3, x.f4, x.f5, x.f6, x.f7, x.f8, x.f9, x.f10, x.f11, x.f12, x.f13, x.f14))
theorem k33_open {w : World} {x : S33} {cs : List Value} (h : k33.K w x cs) : ∃ A2 c2 A7 c7 A8 c8 A9 c9 A11 c11 A12 c12 A13 c13, cs = [.int .u8 x.f0, .string x.f1, .slice A2 x.f2.length c2, .int .i64 x.f3, .int .i64 x.f4, .int .i64 x.f5, .int .i64 x.f6, .slice A7 x.f7.length c7, .slice A8 x.f8.length c8, .slice A9 x.f9.length c9, .string x.f10, .slice A11 x.f11.length c11, .slice A12 x.f12.length c12, .slice A13 x.f13.length c13, .int .i64 x.f14] ∧ x.f2.length ≤ c2 ∧ k114.C w A2 x.f2.length x.f2 ∧ x.f7.length ≤ c7 ∧ k118.C w A7 x.f7.length x.f7 ∧ x.f8.length ≤ c8 ∧ k124.C w A8 x.f8.length x.f8 ∧ x.f9.length ≤ c9 ∧ Kd.string.C w A9 x.f9.length x.f9 ∧ x.f11.length ≤ c11 ∧ k45.C w A11 x.f11.length x.f11 ∧ x.f12.length ≤ c12 ∧ k127.C w A12 x.f12.length x.f12 ∧ x.f13.length ≤ c13 ∧ Kd.string.C w A13 x.f13.length x.f13 := by
  obtain ⟨_, _, rfl, rfl, ⟨_, _, rfl, rfl, ⟨_, _, rfl, ⟨A2, c2, rfl, l2, g2⟩, ⟨_, _, rfl, rfl, ⟨_, _, rfl, rfl, ⟨_, _, rfl, rfl, ⟨_, _, rfl, rfl, ⟨_, _, rfl, ⟨A7, c7, rfl, l7, g7⟩, ⟨_, _, rfl, ⟨A8, c8, rfl, l8, g8⟩, ⟨_, _, rfl, ⟨A9, c9, rfl, l9, g9⟩, ⟨_, _, rfl, rfl, ⟨_, _, rfl, ⟨A11, c11, rfl, l11, g11⟩, ⟨_, _, rfl, ⟨A12, c12, rfl, l12, g12⟩, ⟨_, _, rfl, ⟨A13, c13, rfl, l13, g13⟩, rfl⟩⟩⟩⟩⟩⟩⟩⟩⟩⟩⟩⟩⟩⟩ := h
  exact ⟨A2, c2, A7, c7, A8, c8, A9, c9, A11, c11, A12, c12, A13, c13, rfl, l2, g2, l7, g7, l8, g8, l9, g9, l11, g11, l12, g12, l13, g13⟩
theorem k33_openM {w : World} {base : Nat} {ok : Nat → Prop} {x : S33} {cs : List Value} (h : k33.M w base ok x cs) : ∃ v2 v7 v8 v9 v11 v12 v13, cs = [.int .u8 x.f0, .string x.f1, v2, .int .i64 x.f3, .int .i64 x.f4, .int .i64 x.f5, .int .i64 x.f6, v7, v8, v9, .string x.f10, v11, v12, v13, .int .i64 x.f14] ∧ k114.R 114 w base ok v2 x.f2 ∧ k118.R 118 w base ok v7 x.f7 ∧ k124.R 124 w base ok v8 x.f8 ∧ Kd.string.R 9 w base ok v9 x.f9 ∧ k45.R 45 w base ok v11 x.f11 ∧ k127.R 127 w base ok v12 x.f12 ∧ Kd.string.R 9 w base ok v13 x.f13 := by
  obtain ⟨_, _, rfl, rfl, ⟨_, _, rfl, rfl, ⟨_, _, rfl, ⟨v2, rfl, g2⟩, ⟨_, _, rfl, rfl, ⟨_, _, rfl, rfl, ⟨_, _, rfl, rfl, ⟨_, _, rfl, rfl, ⟨_, _, rfl, ⟨v7, rfl, g7⟩, ⟨_, _, rfl, ⟨v8, rfl, g8⟩, ⟨_, _, rfl, ⟨v9, rfl, g9⟩, ⟨_, _, rfl, rfl, ⟨_, _, rfl, ⟨v11, rfl, g11⟩, ⟨_, _, rfl, ⟨v12, rfl, g12⟩, ⟨_, _, rfl, ⟨v13, rfl, g13⟩, rfl⟩⟩⟩⟩⟩⟩⟩⟩⟩⟩⟩⟩⟩⟩ := h
  exact ⟨v2, v7, v8, v9, v11, v12, v13, rfl, g2, g7, g8, g9, g11, g12, g13⟩
theorem k33_mk (w : World) (x : S33) {A2 : Option Addr} {c2 : Nat} (l2 : x.f2.length ≤ c2) (g2 : k114.C w A2 x.f2.length x.f2) {A7 : Option Addr} {c7 : Nat} (l7 : x.f7.length ≤ c7) (g7 : k118.C w A7 x.f7.length x.f7) {A8 : Option Addr} {c8 : Nat} (l8 : x.f8.length ≤ c8) (g8 : k124.C w A8 x.f8.length x.f8) {A9 : Option Addr} {c9 : Nat} (l9 : x.f9.length ≤ c9) (g9 : Kd.string.C w A9 x.f9.length x.f9) {A11 : Option Addr} {c11 : Nat} (l11 : x.f11.length ≤ c11) (g11 : k45.C w A11 x.f11.length x.f11) {A12 : Option Addr} {c12 : Nat} (l12 : x.f12.length ≤ c12) (g12 : k127.C w A12 x.f12.length x.f12) {A13 : Option Addr} {c13 : Nat} (l13 : x.f13.length ≤ c13) (g13 : Kd.string.C w A13 x.f13.length x.f13) : k33.K w x [.int .u8 x.f0, .string x.f1, .slice A2 x.f2.length c2, .int .i64 x.f3, .int .i64 x.f4, .int .i64 x.f5, .int .i64 x.f6, .slice A7 x.f7.length c7, .slice A8 x.f8.length c8, .slice A9 x.f9.length c9, .string x.f10, .slice A11 x.f11.length c11, .slice A12 x.f12.length c12, .slice A13 x.f13.length c13, .int .i64 x.f14] := ⟨[.int .u8 x.f0], [.string x.f1, .slice A2 x.f2.length c2, .int .i64 x.f3, .int .i64 x.f4, .int .i64 x.f5, .int .i64 x.f6, .slice A7 x.f7.length c7, .slice A8 x.f8.length c8, .slice A9 x.f9.length c9, .string x.f10, .slice A11 x.f11.length c11, .slice A12 x.f12.length c12, .slice A13 x.f13.length c13, .int .i64 x.f14], rfl, rfl, ⟨[.string x.f1], [.slice A2 x.f2.length c2, .int .i64 x.f3, .int .i64 x.f4, .int .i64 x.f5, .int .i64 x.f6, .slice A7 x.f7.length c7, .slice A8 x.f8.length c8, .slice A9 x.f9.length c9, .string x.f10, .slice A11 x.f11.length c11, .slice A12 x.f12.length c12, .slice A13 x.f13.length c13, .int .i64 x.f14], rfl, rfl, ⟨[.slice A2 x.f2.length c2], [.int .i64 x.f3, .int .i64 x.f4, .int .i64 x.f5, .int .i64 x.f6, .slice A7 x.f7.length c7, .slice A8 x.f8.length c8, .slice A9 x.f9.length c9, .string x.f10, .slice A11 x.f11.length c11, .slice A12 x.f12.length c12, .slice A13 x.f13.length c13, .int .i64 x.f14], rfl, ⟨A2, c2, rfl, l2, g2⟩, ⟨[.int .i64 x.f3], [.int .i64 x.f4, .int .i64 x.f5, .int .i64 x.f6, .slice A7 x.f7.length c7, .slice A8 x.f8.length c8, .slice A9 x.f9.length c9, .string x.f10, .slice A11 x.f11.length c11, .slice A12 x.f12.length c12, .slice A13 x.f13.length c13, .int .i64 x.f14], rfl, rfl, ⟨[.int .i64 x.f4], [.int .i64 x.f5, .int .i64 x.f6, .slice A7 x.f7.length c7, .slice A8 x.f8.length c8, .slice A9 x.f9.length c9, .string x.f10, .slice A11 x.f11.length c11, .slice A12 x.f12.length c12, .slice A13 x.f13.length c13, .int .i64 x.f14], rfl, rfl, ⟨[.int .i64 x.f5], [.int .i64 x.f6, .slice A7 x.f7.length c7, .slice A8 x.f8.length c8, .slice A9 x.f9.length c9, .string x.f10, .slice A11 x.f11.length c11, .slice A12 x.f12.length c12, .slice A13 x.f13.length c13, .int .i64 x.f14], rfl, rfl, ⟨[.int .i64 x.f6], [.slice A7 x.f7.length c7, .slice A8 x.f8.length c8, .slice A9 x.f9.length c9, .string x.f10, .slice A11 x.f11.length c11, .slice A12 x.f12.length c12, .slice A13 x.f13.length c13, .int .i64 x.f14], rfl, rfl, ⟨[.slice A7 x.f7.length c7], [.slice A8 x.f8.length c8, .slice A9 x.f9.length c9, .string x.f10, .slice A11 x.f11.length c11, .slice A12 x.f12.length c12, .slice A13 x.f13.length c13, .int .i64 x.f14], rfl, ⟨A7, c7, rfl, l7, g7⟩, ⟨[.slice A8 x.f8.length c8], [.slice A9 x.f9.length c9, .string x.f10, .slice A11 x.f11.length c11, .slice A12 x.f12.length c12, .slice A13 x.f13.length c13, .int .i64 x.f14], rfl, ⟨A8, c8, rfl, l8, g8⟩, ⟨[.slice A9 x.f9.length c9], [.string x.f10, .slice A11 x.f11.length c11, .slice A12 x.f12.length c12, .slice A13 x.f13.length c13, .int .i64 x.f14], rfl, ⟨A9, c9, rfl, l9, g9⟩, ⟨[.string x.f10], [.slice A11 x.f11.length c11, .slice A12 x.f12.length c12, .slice A13 x.f13.length c13, .int .i64 x.f14], rfl, rfl, ⟨[.slice A11 x.f11.length c11], [.slice A12 x.f12.length c12, .slice A13 x.f13.length c13, .int .i64 x.f14], rfl, ⟨A11, c11, rfl, l11, g11⟩, ⟨[.slice A12 x.f12.length c12], [.slice A13 x.f13.length c13, .int .i64 x.f14], rfl, ⟨A12, c12, rfl, l12, g12⟩, ⟨[.slice A13 x.f13.length c13], [.int .i64 x.f14], rfl, ⟨A13, c13, rfl, l13, g13⟩, rfl⟩⟩⟩⟩⟩⟩⟩⟩⟩⟩⟩⟩⟩⟩
theorem k33_mkM (w : World) (base : Nat) (ok : Nat → Prop) (x : S33) {v2 : Value} (g2 : k114.R 114 w base ok v2 x.f2) {v7 : Value} (g7 : k118.R 118 w base ok v7 x.f7) {v8 : Value} (g8 : k124.R 124 w base ok v8 x.f8) {v9 : Value} (g9 : Kd.string.R 9 w base ok v9 x.f9) {v11 : Value} (g11 : k45.R 45 w base ok v11 x.f11) {v12 : Value} (g12 : k127.R 127 w base ok v12 x.f12) {v13 : Value} (g13 : Kd.string.R 9 w base ok v13 x.f13) : k33.M w base ok x [.int .u8 x.f0, .string x.f1, v2, .int .i64 x.f3, .int .i64 x.f4, .int .i64 x.f5, .int .i64 x.f6, v7, v8, v9, .string x.f10, v11, v12, v13, .int .i64 x.f14] := ⟨[.int .u8 x.f0], [.string x.f1, v2, .int .i64 x.f3, .int .i64 x.f4, .int .i64 x.f5, .int .i64 x.f6, v7, v8, v9, .string x.f10, v11, v12, v13, .int .i64 x.f14], rfl, rfl, ⟨[.string x.f1], [v2, .int .i64 x.f3, .int .i64 x.f4, .int .i64 x.f5, .int .i64 x.f6, v7, v8, v9, .string x.f10, v11, v12, v13, .int .i64 x.f14], rfl, rfl, ⟨[v2], [.int .i64 x.f3, .int .i64 x.f4, .int .i64 x.f5, .int .i64 x.f6, v7, v8, v9, .string x.f10, v11, v12, v13, .int .i64 x.f14], rfl, ⟨v2, rfl, g2⟩, ⟨[.int .i64 x.f3], [.int .i64 x.f4, .int .i64 x.f5, .int .i64 x.f6, v7, v8, v9, .string x.f10, v11, v12, v13, .int .i64 x.f14], rfl, rfl, ⟨[.int .i64 x.f4], [.int .i64 x.f5, .int .i64 x.f6, v7, v8, v9, .string x.f10, v11, v12, v13, .int .i64 x.f14], rfl, rfl, ⟨[.int .i64 x.f5], [.int .i64 x.f6, v7, v8, v9, .string x.f10, v11, v12, v13, .int .i64 x.f14], rfl, rfl, ⟨[.int .i64 x.f6], [v7, v8, v9, .string x.f10, v11, v12, v13, .int .i64 x.f14], rfl, rfl, ⟨[v7], [v8, v9, .string x.f10, v11, v12, v13, .int .i64 x.f14], rfl, ⟨v7, rfl, g7⟩, ⟨[v8], [v9, .string x.f10, v11, v12, v13, .int .i64 x.f14], rfl, ⟨v8, rfl, g8⟩, ⟨[v9], [.string x.f10, v11, v12, v13, .int .i64 x.f14], rfl, ⟨v9, rfl, g9⟩, ⟨[.string x.f10], [v11, v12, v13, .int .i64 x.f14], rfl, rfl, ⟨[v11], [v12, v13, .int .i64 x.f14], rfl, ⟨v11, rfl, g11⟩, ⟨[v12], [v13, .int .i64 x.f14], rfl, ⟨v12, rfl, g12⟩, ⟨[v13], [.int .i64 x.f14], rfl, ⟨v13, rfl, g13⟩, rfl⟩⟩⟩⟩⟩⟩⟩⟩⟩⟩⟩⟩⟩⟩
def rd_T33 (xs : List S33) (i : Int) : S33 := xs.getD i.toNat z33
theorem at_T33 {w : World} {A : Option Addr} {n : Nat} {xs : List S33} (h : Kd.C k33 w A n xs) (i : Int) (h0 : 0 ≤ i) (h1 : i < n) : ∃ ad A2 c2 A7 c7 A8 c8 A9 c9 A11 c11 A12 c12 A13 c13, A = some ad ∧ w.cell? (ad.add (i.toNat * 15)) = some (.int .u8 (rd_T33 xs i).f0) ∧ w.cell? ⟨(ad.add (i.toNat * 15)).block, (ad.add (i.toNat * 15)).off + 1, none⟩ = some (.string (rd_T33 xs i).f1) ∧ w.cell? ⟨(ad.add (i.toNat * 15)).block, (ad.add (i.toNat * 15)).off + 2, none⟩ = some (.slice A2 (rd_T33 xs i).f2.length c2) ∧ w.cell? ⟨(ad.add (i.toNat * 15)).block, (ad.add (i.toNat * 15)).off + 3, none⟩ = some (.int .i64 (rd_T33 xs i).f3) ∧ w.cell? ⟨(ad.add (i.toNat * 15)).block, (ad.add (i.toNat * 15)).off + 4, none⟩ = some (.int .i64 (rd_T33 xs i).f4) ∧ w.cell? ⟨(ad.add (i.toNat * 15)).block, (ad.add (i.toNat * 15)).off + 5, none⟩ = some (.int .i64 (rd_T33 xs i).f5) ∧ w.cell? ⟨(ad.add (i.toNat * 15)).block, (ad.add (i.toNat * 15)).off + 6, none⟩ = some (.int .i64 (rd_T33 xs i).f6) ∧ w.cell? ⟨(ad.add (i.toNat * 15)).block, (ad.add (i.toNat * 15)).off + 7, none⟩ = some (.slice A7 (rd_T33 xs i).f7.length c7) ∧ w.cell? ⟨(ad.add (i.toNat * 15)).block, (ad.add (i.toNat * 15)).off + 8, none⟩ = some (.slice A8 (rd_T33 xs i).f8.length c8) ∧ w.cell? ⟨(ad.add (i.toNat * 15)).block, (ad.add (i.toNat * 15)).off + 9, none⟩ = some (.slice A9 (rd_T33 xs i).f9.length c9) ∧ w.cell? ⟨(ad.add (i.toNat * 15)).block, (ad.add (i.toNat * 15)).off + 10, none⟩ = some (.string (rd_T33 xs i).f10) ∧ w.cell? ⟨(ad.add (i.toNat * 15)).block, (ad.add (i.toNat * 15)).off + 11, none⟩ = some (.slice A11 (rd_T33 xs i).f11.length c11) ∧ w.cell? ⟨(ad.add (i.toNat * 15)).block, (ad.add (i.toNat * 15)).off + 12, none⟩ = some (.slice A12 (rd_T33 xs i).f12.length c12) ∧ w.cell? ⟨(ad.add (i.toNat * 15)).block, (ad.add (i.toNat * 15)).off + 13, none⟩ = some (.slice A13 (rd_T33 xs i).f13.length c13) ∧ w.cell? ⟨(ad.add (i.toNat * 15)).block, (ad.add (i.toNat * 15)).off + 14, none⟩ = some (.int .i64 (rd_T33 xs i).f14) ∧ (rd_T33 xs i).f2.length ≤ c2 ∧ k114.C w A2 (rd_T33 xs i).f2.length (rd_T33 xs i).f2 ∧ (rd_T33 xs i).f7.length ≤ c7 ∧ k118.C w A7 (rd_T33 xs i).f7.length (rd_T33 xs i).f7 ∧ (rd_T33 xs i).f8.length ≤ c8 ∧ k124.C w A8 (rd_T33 xs i).f8.length (rd_T33 xs i).f8 ∧ (rd_T33 xs i).f9.length ≤ c9 ∧ Kd.string.C w A9 (rd_T33 xs i).f9.length (rd_T33 xs i).f9 ∧ (rd_T33 xs i).f11.length ≤ c11 ∧ k45.C w A11 (rd_T33 xs i).f11.length (rd_T33 xs i).f11 ∧ (rd_T33 xs i).f12.length ≤ c12 ∧ k127.C w A12 (rd_T33 xs i).f12.length (rd_T33 xs i).f12 ∧ (rd_T33 xs i).f13.length ≤ c13 ∧ Kd.string.C w A13 (rd_T33 xs i).f13.length (rd_T33 xs i).f13 := by
  obtain ⟨ad, c, e, _, hK, hc0⟩ := Kd.C_get h z33 i h0 h1
  have hc : ∀ j u, c[j]? = some u → w.cell? (ad.add (i.toNat * 15 + j)) = some u := hc0
  obtain ⟨A2, c2, A7, c7, A8, c8, A9, c9, A11, c11, A12, c12, A13, c13, rfl, l2, g2, l7, g7, l8, g8, l9, g9, l11, g11, l12, g12, l13, g13⟩ := k33_open hK
  exact ⟨ad, A2, c2, A7, c7, A8, c8, A9, c9, A11, c11, A12, c12, A13, c13, e, hc 0 _ rfl, by rw [← add_field _ _ 1 (by omega)]; exact hc 1 _ rfl, by rw [← add_field _ _ 2 (by omega)]; exact hc 2 _ rfl, by rw [← add_field _ _ 3 (by omega)]; exact hc 3 _ rfl, by rw [← add_field _ _ 4 (by omega)]; exact hc 4 _ rfl, by rw [← add_field _ _ 5 (by omega)]; exact hc 5 _ rfl, by rw [← add_field _ _ 6 (by omega)]; exact hc 6 _ rfl, by rw [← add_field _ _ 7 (by omega)]; exact hc 7 _ rfl, by rw [← add_field _ _ 8 (by omega)]; exact hc 8 _ rfl, by rw [← add_field _ _ 9 (by omega)]; exact hc 9 _ rfl, by rw [← add_field _ _ 10 (by omega)]; exact hc 10 _ rfl, by rw [← add_field _ _ 11 (by omega)]; exact hc 11 _ rfl, by rw [← add_field _ _ 12 (by omega)]; exact hc 12 _ rfl, by rw [← add_field _ _ 13 (by omega)]; exact hc 13 _ rfl, by rw [← add_field _ _ 14 (by omega)]; exact hc 14 _ rfl, l2, g2, l7, g7, l8, g8, l9, g9, l11, g11, l12, g12, l13, g13⟩

end Go.Proofs.Ytanimonhnngfkaa.K
