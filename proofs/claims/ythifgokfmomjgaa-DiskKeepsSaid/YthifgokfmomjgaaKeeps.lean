/-
  The walk of pointsmanlaw04.DiskKeeps: it answers true and writes nothing that was there.
-/
import Derived.Test.YthifgokfmomjgaaAlive
set_option linter.unusedVariables false
set_option linter.unusedSimpArgs false
namespace Go.Proofs.Ythifgokfmomjgaa
open Go.RowKit

/-- A slice of slices of bytes that is read. -/
def ReadsRows (w : World) (A : Option Addr) (n : Nat) (rows : List (List Int)) : Prop :=
  rows.length = n ∧ n ≤ 9223372036854775807 ∧ (0 < n → ∃ ad, A = some ad ∧ ∀ j, j < n → ∃ B d, w.cell? (ad.add j) = some (.slice B (rows.getD j []).length d) ∧ (rows.getD j []).length ≤ d ∧ (rows.getD j []).length ≤ 140737488351232 ∧ Reads w .u8 B (rows.getD j []).length (rows.getD j []))

/-- How many bytes the first k pieces have. -/
def total (rows : List (List Int)) (k : Nat) : Nat := ((rows.take k).map List.length).sum
theorem total_succ (rows : List (List Int)) (k : Nat) (h : k < rows.length) : total rows (k + 1) = total rows k + (rows.getD k []).length := by
  unfold total
  rw [List.take_succ_eq_append_getElem h, List.map_append, List.sum_append]
  simp [List.getD_eq_getElem?_getD, List.getElem?_eq_getElem h]
theorem total_mono (rows : List (List Int)) (k : Nat) (h : k ≤ rows.length) : total rows k ≤ total rows rows.length := by
  unfold total
  rw [List.take_length]
  conv => rhs; rw [← List.take_append_drop k rows, List.map_append, List.sum_append]
  exact Nat.le_add_right _ _

/-- The law's disk, and beside it the bytes that are wanted, in a row of the law's own. -/
def KS (B : Nat) (w0 w : World) (g : Nat) (bs : List Int) (off : Bool) (fl : Option Int) (v : Value) (ws : List Int) : Prop :=
  ∃ F : Nat → Prop, (∀ k, F k → B ≤ k) ∧ DiskAt F w g 1048576 bs off fl ∧ Below B w0 w ∧ B ≤ w.heap.size ∧ w.ownsRow B 5 1 v ws.length (nums .u8 ws) ∧ (∀ k, v.ownBlock = some k → ¬ F k)

theorem KS.to {B : Nat} {w0 w w' : World} {g : Nat} {bs' : List Int} {off' : Bool} {fl' : Option Int} {v : Value} {ws : List Int} {F : Nat → Prop} (hF : ∀ k, F k → B ≤ k) (hB : Below B w0 w) (hs : B ≤ w.heap.size)
    (hown : w.ownsRow B 5 1 v ws.length (nums .u8 ws)) (hv : ∀ k, v.ownBlock = some k → ¬ F k) (ht : DiskTo F w w' g 1048576 bs' off' fl') : KS B w0 w' g bs' off' fl' v ws := by
  obtain ⟨hf, F', hF', hD'⟩ := ht
  refine ⟨F', fun k hk => (hF' k hk).elim (hF k) (fun h => Nat.le_trans hs h), hD', hB.trans (hf.below hF hs), Nat.le_trans hs hf.size, hf.own hown hv, fun k hk h => ?_⟩
  rcases hF' k h with h | h
  · exact hv k hk h
  · exact absurd (hown.lt k hk).2 (Nat.not_lt.2 h)

section
variable {B : Nat} {w0 w : World} {g : Nat} {bs ys : List Int} {off : Bool} {fl : Option Int} {A : Option Addr} {m c : Nat} {v : Value} {ws : List Int}
theorem KS.below (h : KS B w0 w g bs off fl v ws) : Below B w0 w := by obtain ⟨F, _, _, h, _⟩ := h; exact h
theorem KS.size (h : KS B w0 w g bs off fl v ws) : B ≤ w.heap.size := by obtain ⟨F, _, _, _, h, _⟩ := h; exact h
theorem KS.own (h : KS B w0 w g bs off fl v ws) : w.ownsRow B 5 1 v ws.length (nums .u8 ws) := by obtain ⟨F, _, _, _, _, h, _⟩ := h; exact h
theorem KS.drewN (h : KS B w0 w g bs off fl v ws) (n : Nat) : KS B w0 (w.drewN n) g bs off fl v ws := by
  obtain ⟨F, hF, hD, hB, hs, ho, hv⟩ := h
  exact ⟨F, hF, hD, ⟨hB.os, hB.tape, hB.output, hB.size, hB.block⟩, hs, ho, hv⟩
theorem KS.drew (h : KS B w0 w g bs off fl v ws) : KS B w0 w.drew g bs off fl v ws := h.drewN 1
theorem KS.start (h : DS B w0 w g 1048576 [] false none) : KS B w0 w g [] false none (.slice none 0 0) [] := by
  obtain ⟨F, hF, hD, hB, hs⟩ := h
  exact ⟨F, hF, hD, hB, hs, World.ownsRow_nil _ _ _ _, fun k hk => by simp [Value.ownBlock] at hk⟩
/-- What is wanted grows. -/
theorem KS.want {w1 : World} {v1 : Value} {ws' : List Int} (h : KS B w0 w g bs off fl v ws) (hown : w1.ownsRow B 5 1 v1 ws'.length (nums .u8 ws')) (hg : w.grownBy w1 v.ownBlock) (hat : v1.ownBlock = v.ownBlock ∨ v1.ownBlock = some w.heap.size) : KS B w0 w1 g bs off fl v1 ws' := by
  obtain ⟨F, hF, hD, hB, hs, ho, hv⟩ := h
  have hf : Foot (fun k => v.ownBlock = some k) w w1 := (Foot.refl _ w).grown hg (fun k hk => .inl hk)
  refine ⟨F, hF, hD.foot hf (fun k hk e => hv k e hk), hB.trans (hf.below (fun k hk => (ho.lt k hk).1) hs), Nat.le_trans hs hf.size, hown, fun k hk h => ?_⟩
  rcases hat with e | e
  · exact hv k (e ▸ hk) h
  · rw [e] at hk
    injection hk with hk
    have := hD.2.1 k h
    omega
theorem KS.appendOk (h : KS B w0 w g bs false none v ws) (HR : Reads w .u8 A m ys) (hroom : (m : Int) ≤ 1048576 - (bs.length : Int)) :
    Calls Try.prog 8 #[.pointer (some ⟨g, 0, none⟩), .slice A m c] w fun e w' => e = .returned (.int .i64 0) ∧ KS B w0 w' g (bs ++ ys) false none v ws := by
  obtain ⟨F, hF, hD, hB, hs, ho, hv⟩ := h
  exact (Append_ok hD HR (by decide) (by decide) hroom).mono fun e w' ⟨he, ht⟩ => ⟨he, KS.to hF hB hs ho hv ht⟩
theorem KS.appendFail {n : Int} (h : KS B w0 w g bs false (some n) v ws) (HR : Reads w .u8 A m ys) (hmc : m ≤ c) (hroom : (m : Int) ≤ 1048576 - (bs.length : Int)) :
    Calls Try.prog 8 #[.pointer (some ⟨g, 0, none⟩), .slice A m c] w fun e w' => e = .returned (.int .i64 13) ∧ KS B w0 w' g (bs ++ ys.take n.toNat) true none v ws := by
  obtain ⟨F, hF, hD, hB, hs, ho, hv⟩ := h
  exact (Append_fail hD HR hmc (by decide) (by decide) hroom).mono fun e w' ⟨he, ht⟩ => ⟨he, KS.to hF hB hs ho hv ht⟩
theorem KS.appendOff (h : KS B w0 w g bs true fl v ws) :
    Calls Try.prog 8 #[.pointer (some ⟨g, 0, none⟩), .slice A m c] w fun e w' => e = .returned (.int .i64 13) ∧ w = w' := by
  obtain ⟨F, hF, hD, hB, hs, ho, hv⟩ := h
  exact Append_off hD (by decide)
theorem KS.fail {n : Int} (h : KS B w0 w g bs false fl v ws) (hn : 0 ≤ n) :
    Calls Try.prog 7 #[.pointer (some ⟨g, 0, none⟩), .int .i64 n] w fun e w' => e = .returned (.int .i64 0) ∧ KS B w0 w' g bs false (some n) v ws := by
  obtain ⟨F, hF, hD, hB, hs, ho, hv⟩ := h
  exact (Fail_ok hD (by decide) hn).mono fun e w' ⟨he, ht⟩ => ⟨he, KS.to hF hB hs ho hv ht⟩
theorem KS.up (h : KS B w0 w g bs off fl v ws) :
    Calls Try.prog 11 #[.pointer (some ⟨g, 0, none⟩)] w fun e w' => e = .returned (.int .i64 0) ∧ KS B w0 w' g bs false none v ws := by
  obtain ⟨F, hF, hD, hB, hs, ho, hv⟩ := h
  exact (Up_ok hD (by decide)).mono fun e w' ⟨he, ht⟩ => ⟨he, KS.to hF hB hs ho hv ht⟩
theorem KS.down (h : KS B w0 w g bs off fl v ws) :
    Calls Try.prog 9 #[.pointer (some ⟨g, 0, none⟩)] w fun e w' => e = .returned (.bool off) ∧ w = w' := by
  obtain ⟨F, hF, hD, hB, hs, ho, hv⟩ := h
  exact Down_ok hD
theorem KS.trimOff {n : Int} (h : KS B w0 w g bs true fl v ws) :
    Calls Try.prog 10 #[.pointer (some ⟨g, 0, none⟩), .int .i64 n] w fun e w' => e = .returned (.int .i64 13) ∧ w = w' := by
  obtain ⟨F, hF, hD, hB, hs, ho, hv⟩ := h
  exact Trim_off hD (by decide)
theorem KS.bytes (h : KS B w0 w g bs off fl v ws) (hm : bs.length ≤ 16777216) :
    Calls Try.prog 13 #[.pointer (some ⟨g, 0, none⟩)] w fun e w' => Made w w' .u8 5 e bs := by
  obtain ⟨F, hF, hD, hB, hs, ho, hv⟩ := h
  exact Bytes_ok hD hm
end

set_option maxRecDepth 100000 in
set_option maxHeartbeats 3200000 in
theorem keeps_any (A : Option Addr) (n c : Nat) (rows : List (List Int)) (A2 : Option Addr) (n2 c2 : Nat) (fs : List Int) (w : World) (HR : ReadsRows w A n rows) (HF : Reads w .i64 A2 n2 fs) (hlt2 : ∀ ad, A2 = some ad → 0 < n2 → ad.block < w.heap.size) :
    Calls Try.prog 3 #[.slice A n c, .slice A2 n2 c2] w fun e w' => e = .returned (.bool true) ∧ Below w.heap.size w w' := by
  have hn := HR.2.1
  have hn2 := HF.2.1
  have HA : Aside (ReadsRows w A n rows ∧ Reads w .i64 A2 n2 fs) := ⟨HR, HF⟩
  clear HR HF
  by_cases hbig : 300 < n
  · go_enter Try.func3, Try.ntmps3
    go_wp2_with fail
    refine (alive_any w).mono ?_
    rintro e w1 ⟨rfl, hb1⟩
    go_wp2_with fail
    refine (alive_any w1).mono ?_
    rintro e w2 ⟨rfl, hb2⟩
    go_wp2
    go_ret
    exact ⟨rfl, hb1.trans (hb2.mono hb1.size)⟩
  · go_enter Try.func3, Try.ntmps3
    go_wp2_with fail
    refine (alive_any w).mono ?_
    rintro e w1 ⟨rfl, hb1⟩
    go_wp2
    go_loopw [5, 6] (fun t i wr => ∃ k : Nat, k ≤ n ∧ i = .int .i64 k ∧ t = .int .i64 (total rows k : Int) ∧ total rows k ≤ 300000 ∧ Below w.heap.size w wr) (fun _ i _ => n - (intOf i).toNat)
    case atStart => exact ⟨0, Nat.zero_le _, rfl, rfl, by simp [total], hb1⟩
    case round =>
      obtain ⟨k, hk, rfl, rfl, htot, hbr⟩ := hrel
      clear hb1
      by_cases hlt : k < n
      · obtain ⟨a, rfl, hrow⟩ := HA.out.1.2.2 (by omega)
        obtain ⟨B, d, hcell0, hld, hlen, hread⟩ := hrow k hlt
        have hblk : a.block < w.heap.size := by have := World.block_lt_of_cell? w _ hcell0; rwa [add_block] at this
        have hcell : wr.cell? (a.add k) = some (.slice B (rows.getD k []).length d) := by rw [hbr.cell (by rw [add_block]; exact hblk), hcell0]
        have hts : Aside (total rows (k + 1) = total rows k + (rows.getD k []).length) := total_succ rows k (by rw [HA.out.1.1]; exact hlt)
        generalize hL : (rows.getD k []).length = L at *
        generalize hT : total rows k = T at *
        have HT : Aside (total rows k = T) := hT
        clear hrow hcell0 hread hL hT
        have hk0 : (0 : Int) ≤ (k : Int) := by omega
        have hk1 : (k : Int) < (n : Int) := by omega
        go_wp2
        · go_ret
          exact ⟨rfl, hbr⟩
        · have hle : ¬ (300000 : Int) < (T : Int) + (L : Int) := by first | assumption | omega
          go_roundw
          case rel => exact ⟨k + 1, by omega, by go_num, by rw [hts.out]; go_num, by rw [hts.out]; omega, hbr⟩
          case measure => simp [intOf]; omega
      · obtain rfl : n = k := by omega
        have htl : Aside (total rows n ≤ 300000) := htot
        clear htot hlt hk
        go_wp2_with (go_at_call 6; refine (DS.new _ (by decide) (by decide)).mono ?_; rintro e w2 ⟨rfl, h2⟩)
        have h3 : KS w.heap.size w w2 wr.heap.size [] false none (.slice none 0 0) [] := by
          obtain ⟨F, hF, hD, hB, hs⟩ := h2
          have := hbr.size
          exact KS.start ⟨F, fun k hk => Nat.le_trans this (hF k hk), hD, hbr.trans (hB.mono this), Nat.le_trans this hs⟩
        clear h2
        go_wp2
        have hbr' : Aside (Below w.heap.size w wr) := hbr
        generalize hG : wr.heap.size = G at *
        clear hbr hbr' hG
        clear wr
        go_loopw [9, 10] (fun v i wq => ∃ (j : Nat) (bs : List Int), j ≤ n ∧ i = .int .i64 j ∧ Aside (bs.length ≤ total rows j) ∧ KS w.heap.size w wq G bs false none v bs) (fun _ i _ => n - (intOf i).toNat)
        case atStart => exact ⟨0, [], Nat.zero_le _, rfl, by simp [Aside], h3⟩
        case round =>
          obtain ⟨j, bs, hj, rfl, hbs, hK⟩ := hrel
          rename_i u9 _
          clear h3
          by_cases hlt : j < n
          · obtain ⟨a, rfl, hrow⟩ := HA.out.1.2.2 (by omega)
            obtain ⟨B, d, hcell0, hld, hlen, hread0⟩ := hrow j hlt
            have hblk : a.block < w.heap.size := by have := World.block_lt_of_cell? w _ hcell0; rwa [add_block] at this
            have hc : Aside (∀ W, Below w.heap.size w W → W.cell? (a.add j) = some (.slice B (rows.getD j []).length d)) := fun W hW => by rw [hW.cell (by rw [add_block]; exact hblk), hcell0]
            have hread : Aside (∀ W, Below w.heap.size w W → Reads W .u8 B (rows.getD j []).length (rows.getD j [])) := fun W hW => hread0.below hW
            have hts := total_succ rows j (by rw [HA.out.1.1]; exact hlt)
            have htm := total_mono rows (j + 1) (by rw [HA.out.1.1]; exact hlt)
            rw [HA.out.1.1] at htm
            have hbl : bs.length + (rows.getD j []).length ≤ 300000 := by have := htl.out; have := hbs.out; omega
            have hbs2 : Aside (∀ q, q ≤ (rows.getD j []).length → bs.length + q ≤ total rows (j + 1)) := fun q hq => by have := hbs.out; omega
            generalize hRW : rows.getD j [] = row at *
            clear hrow hcell0 hread0 hts htm hRW hblk
            have hj0 : (0 : Int) ≤ (j : Int) := by omega
            have hj1 : (j : Int) < (n : Int) := by omega
            have hrowl : Aside (∀ q, min q row.length = (row.take q).length) := fun q => by simp
            by_cases hfail : j < n2 ∧ 0 ≤ fs.getD j 0
            · obtain ⟨hj2, hf0⟩ := hfail
              obtain ⟨a2, rfl, hf1⟩ := HA.out.2.at_ (j : Int) (by omega) (by omega)
              simp only [Int.toNat_natCast, rd] at hf1
              have hblk2 : a2.block < w.heap.size := HA.out.2.block_lt a2 rfl (by omega)
              generalize hFV : fs.getD j 0 = f at *
              have hfc : Aside (∀ W, Below w.heap.size w W → W.cell? (a2.add j) = some (.int .i64 f)) := fun W hW => by rw [hW.cell (by rw [add_block]; exact hblk2), hf1]
              clear hf1 hFV hblk2
              have hj3 : (j : Int) < (n2 : Int) := by omega
              have q1 := hfc.out _ hK.below
              go_wp2_with fail
              refine (KS.fail hK hf0).mono ?_
              rintro e w3 ⟨rfl, h3⟩
              clear hK q1
              have q1 := hc.out _ h3.below
              go_wp2_with fail
              refine (KS.appendFail h3 (hread.out _ h3.below) hld (by omega)).mono ?_
              rintro e w4 ⟨rfl, h4⟩
              clear h3 q1
              go_wp2_with fail
              refine (KS.down h4).mono ?_
              rintro e w' ⟨rfl, rfl⟩
              have q1 := hc.out _ h4.below
              go_wp2_with fail
              refine (KS.appendOff h4).mono ?_
              rintro e w' ⟨rfl, rfl⟩
              clear q1
              go_wp2_with fail
              refine (KS.trimOff h4).mono ?_
              rintro e w' ⟨rfl, rfl⟩
              go_wp2_with fail
              refine (KS.up h4).mono ?_
              rintro e w5 ⟨rfl, h5⟩
              clear h4
              go_wp2_with fail
              have q1 := hc.out _ h5.below
              have q2 := hfc.out _ h5.below
              have hsz := h5.size
              obtain ⟨qf, rfl⟩ := Int.eq_ofNat_of_zero_le hf0
              by_cases hmin : qf ≤ row.length
              · have hm0 : (qf : Int) ≤ (row.length : Int) := by omega
                have hm2 : (0 : Int) ≤ (qf : Int) := by omega
                have hm3 : ¬ (row.length : Int) < (qf : Int) := by omega
                have hm1 : (qf : Int) ≤ (d : Int) := by omega
                have h5' : Aside (KS w.heap.size w w5 G (bs ++ row.take qf) false none u9 bs) := h5
                have hT : Aside (Reads w5 .u8 B qf (row.take qf)) := (hread.out _ h5.below).take_ qf hmin
                have hbl' : bs.length + qf ≤ 300000 := by omega
                clear h5
                go_region_held3 (fun w' => w'.cell? (a.add j) = some (.slice B row.length d) ∧ w'.cell? (a2.add j) = some (.int .i64 qf)) (first | go_keep | exact ⟨kA, kB⟩)
                  ((refine step_append_row w.heap.size (by rfl) _ _ 25 5 .u8 1 (by rfl) Try.underlying25 info5 (by omega) u9 bs (row.take qf) B qf d (by rfl) (by rfl) (by exact h5'.out.own) (by exact hT.out) (by exact hsz) (by omega) ?_; intro v1 w6 hown1 hg1 hat1; obtain ⟨A1, L1, k1, rfl, HL1⟩ := own_form hown1; have h6 := h5'.out.drew.want hown1 hg1 hat1; have kA := hc.out _ h6.below; have kB := hfc.out _ h6.below))
                go_wp2
                go_roundw
                case rel => exact ⟨j + 1, bs ++ row.take qf, by omega, by go_num, by have := hbs2.out qf hmin; simp [Aside]; omega, h6⟩
                case measure => simp [intOf]; omega
              · have hm0 : (row.length : Int) < (qf : Int) := by omega
                have hm1 : (row.length : Int) ≤ (d : Int) := by omega
                have hm2 : (0 : Int) ≤ (row.length : Int) := by omega
                have htk : row.take qf = row := List.take_of_length_le (by omega)
                have h5' : Aside (KS w.heap.size w w5 G (bs ++ row) false none u9 bs) := by rw [Int.toNat_natCast, htk] at h5; exact h5
                have hT : Aside (Reads w5 .u8 B row.length row) := hread.out _ h5.below
                clear h5 htk
                go_region_held3 (fun w' => w'.cell? (a.add j) = some (.slice B row.length d) ∧ w'.cell? (a2.add j) = some (.int .i64 qf)) (first | go_keep | exact ⟨kA, kB⟩)
                  ((refine step_append_row w.heap.size (by rfl) _ _ 25 5 .u8 1 (by rfl) Try.underlying25 info5 (by omega) u9 bs row B row.length d (by rfl) (by rfl) (by exact h5'.out.own) (by exact hT.out) (by exact hsz) (by omega) ?_; intro v1 w6 hown1 hg1 hat1; obtain ⟨A1, L1, k1, rfl, HL1⟩ := own_form hown1; have h6 := h5'.out.drew.want hown1 hg1 hat1; have kA := hc.out _ h6.below; have kB := hfc.out _ h6.below))
                go_wp2
                go_roundw
                case rel => exact ⟨j + 1, bs ++ row, by omega, by go_num, by have := hbs2.out row.length (Nat.le_refl _); simp [Aside]; omega, h6⟩
                case measure => simp [intOf]; omega
            · have q1 := hc.out _ hK.below
              have hsz := hK.size
              by_cases hj2 : j < n2
              · obtain ⟨a2, rfl, hf1⟩ := HA.out.2.at_ (j : Int) (by omega) (by omega)
                simp only [Int.toNat_natCast, rd] at hf1
                have hblk2 : a2.block < w.heap.size := HA.out.2.block_lt a2 rfl (by omega)
                have hneg : fs.getD j 0 < 0 := by omega
                generalize hFV : fs.getD j 0 = f at *
                have q2 : wr.cell? (a2.add j) = some (.int .i64 f) := by rw [hK.below.cell (by rw [add_block]; exact hblk2), hf1]
                clear hf1 hFV hblk2 hfail
                have hj3 : (j : Int) < (n2 : Int) := by omega
                go_wp2_with fail
                refine (KS.appendOk hK (hread.out _ hK.below) (by omega)).mono ?_
                rintro e w3 ⟨rfl, h3⟩
                clear hK q1 q2
                go_wp2_with fail
                refine (KS.down h3).mono ?_
                rintro e w' ⟨rfl, rfl⟩
                have q1 := hc.out _ h3.below
                have hT : Aside (Reads w3 .u8 B row.length row) := hread.out _ h3.below
                have hsz3 := h3.size
                go_wp2_with (at_builtin; refine append_row w.heap.size rfl _ _ 25 5 .u8 1 rfl Try.underlying25 info5 (by omega) u9 bs row B row.length d rfl rfl h3.own hT.out hsz3 (by omega) ?_)
                intro v1 w6 hown1 hg1 hat1
                obtain ⟨A1, L1, k1, rfl, HL1⟩ := own_form hown1
                have h6 := h3.want (ws' := bs ++ row) (by simpa using hown1) hg1 hat1
                go_wp2
                go_roundw
                case rel => exact ⟨j + 1, bs ++ row, by omega, by go_num, by have := hbs2.out row.length (Nat.le_refl _); simp [Aside]; omega, h6⟩
                case measure => simp [intOf]; omega
              · have hj3 : (n2 : Int) ≤ (j : Int) := by omega
                clear hfail
                go_wp2_with fail
                refine (KS.appendOk hK (hread.out _ hK.below) (by omega)).mono ?_
                rintro e w3 ⟨rfl, h3⟩
                clear hK q1
                go_wp2_with fail
                refine (KS.down h3).mono ?_
                rintro e w' ⟨rfl, rfl⟩
                have q1 := hc.out _ h3.below
                have hT : Aside (Reads w3 .u8 B row.length row) := hread.out _ h3.below
                have hsz3 := h3.size
                go_wp2_with (at_builtin; refine append_row w.heap.size rfl _ _ 25 5 .u8 1 rfl Try.underlying25 info5 (by omega) u9 bs row B row.length d rfl rfl h3.own hT.out hsz3 (by omega) ?_)
                intro v1 w6 hown1 hg1 hat1
                obtain ⟨A1, L1, k1, rfl, HL1⟩ := own_form hown1
                have h6 := h3.want (ws' := bs ++ row) (by simpa using hown1) hg1 hat1
                go_wp2
                go_roundw
                case rel => exact ⟨j + 1, bs ++ row, by omega, by go_num, by have := hbs2.out row.length (Nat.le_refl _); simp [Aside]; omega, h6⟩
                case measure => simp [intOf]; omega
          · obtain rfl : n = j := by omega
            have hle : bs.length ≤ 300000 := by have := htl.out; have := hbs.out; omega
            obtain ⟨A9, L9, c9, rfl, HL9⟩ := own_form hK.own
            go_wp2_with fail
            refine (KS.bytes hK (by omega)).mono ?_
            rintro e w3 ⟨v, rfl, hown, hb⟩
            obtain ⟨A8, c8, rfl, hc8, HR8⟩ := own_reads hown
            have hown9 : w3.ownsRow w.heap.size 5 1 (.slice A9 L9 c9) bs.length (nums .u8 bs) := (Foot.ofBelow hb (fun _ => False)).own hK.own (fun _ _ h => h)
            obtain ⟨A7, c7, e7, hc7, HR7⟩ := own_reads hown9
            injection e7 with e71 e72 e73
            have HR9 : Aside (Reads w3 .u8 A9 L9 bs) := by rw [e71, e72]; exact HR7
            have HB3 : Aside (Below w.heap.size w w3) := hK.below.trans (hb.mono hK.size)
            clear hown hown9 hb e71 e72 e73 HR7
            go_wp2_with fail
            refine (same_bytes _ _ _ _ _ _ bs bs _ HR8 HR9.out).mono ?_
            rintro e w4 ⟨rfl, q, rfl⟩
            go_wp2
            go_ret
            exact ⟨by simp, ⟨HB3.out.os, HB3.out.tape, HB3.out.output, HB3.out.size, HB3.out.block⟩⟩
end Go.Proofs.Ythifgokfmomjgaa
