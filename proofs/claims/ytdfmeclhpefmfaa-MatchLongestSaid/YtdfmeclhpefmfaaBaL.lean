/-
  MatchLongest, plainly.
-/
import Derived.Test.YtdfmeclhpefmfaaBaB1
set_option linter.unusedVariables false
set_option linter.unusedSimpArgs false
set_option maxRecDepth 100000
namespace Go.Proofs.Ytdfmeclhpefmfaa.Own
open Go.RowKit Go.Proofs.Ytdfmeclhpefmfaa.K YtdfmeclhpefmfaaW.PrintWords YtdfmeclhpefmfaaW.PrintLast YtdfmeclhpefmfaaW.PrintMore

/-- The first n of 8 bits. -/
def pfx (x n : Nat) : Nat := x / 2 ^ (8 - n) * 2 ^ (8 - n)
theorem head_all8 : ((List.range 9).all fun n => (List.range 256).all fun x => Go.bits .and .u64 (x : Int) (headP 8 (n : Int)).2 == ((pfx x n : Nat) : Int)) = true := by kernel_rfl
theorem head8 (n x : Nat) (hn : n ≤ 8) (hx : x ≤ 255) : Go.bits .and .u64 (x : Int) (headP 8 (n : Int)).2 = ((pfx x n : Nat) : Int) := by
  have h := head_all8
  rw [List.all_eq_true] at h
  have h2 := h n (by rw [List.mem_range]; omega)
  rw [List.all_eq_true] at h2
  simpa using h2 x (by rw [List.mem_range]; omega)
theorem check_all8 : ((List.range 9).all fun n => (List.range 256).all fun x => checkP [2] [8] 4096 (fe ((pfx x n : Nat) : Int) (n : Int)) == 0) = true := by kernel_rfl
theorem check8 (n x : Nat) (hn : n ≤ 8) (hx : x ≤ 255) : checkP [2] [8] 4096 (fe ((pfx x n : Nat) : Int) (n : Int)) = 0 := by
  have h := check_all8
  rw [List.all_eq_true] at h
  have h2 := h n (by rw [List.mem_range]; omega)
  rw [List.all_eq_true] at h2
  simpa using h2 x (by rw [List.mem_range]; omega)
theorem pfx_le (x n : Nat) (hx : x ≤ 255) : pfx x n ≤ 255 := by
  unfold pfx
  have := Nat.div_mul_le_self x (2 ^ (8 - n))
  omega
theorem pfx_pfx (x n : Nat) : pfx (pfx x n) n = pfx x n := by
  unfold pfx
  rw [Nat.mul_div_cancel _ (Nat.two_pow_pos _)]
/-- The pairs that stand in the table. -/
def fe' (p : Nat × Nat) : S30 := fe (p.1 : Int) (p.2 : Int)
structure Pok (p : Nat × Nat) : Prop where
  n : p.2 ≤ 8
  v : p.1 ≤ 255
  m : pfx p.1 p.2 = p.1
theorem one_fe (p q : Nat × Nat) : oneB (fe' p) (fe' q) = (q == p) := by
  obtain ⟨p1, p2⟩ := p
  obtain ⟨q1, q2⟩ := q
  unfold oneB fe' fe
  simp only [sameM, eqMB]
  rw [Bool.eq_iff_iff]
  simp
  omega
theorem place_fe (ps : List (Nat × Nat)) (p : Nat × Nat) : placeE (ps.map fe') (fe' p) = fIdx (fun q => q == p) ps := by
  unfold placeE
  rw [fIdx_map]
  congr 1
  funext q
  exact one_fe p q
theorem ins_fe (ps : List (Nat × Nat)) (p : Nat × Nat) (hp : Pok p) (hl : ps.length < 4096) : insP [2] [8] 4096 (ps.map fe') (fe' p) = if p ∈ ps then ([], 12) else (ps.map fe' ++ [fe' p], 0) := by
  have hc : checkP [2] [8] 4096 (fe' p) = 0 := by
    have := check8 p.2 p.1 hp.n hp.v
    rw [hp.m] at this
    exact this
  have hmem : 0 ≤ fIdx (fun q => q == p) ps ↔ p ∈ ps := by
    have := fIdx_any (fun q => q == p) ps
    constructor
    · intro h
      have h2 : ps.any (fun q => q == p) = true := by rw [← this]; exact decide_eq_true h
      simpa using h2
    · intro h
      have h2 : ps.any (fun q => q == p) = true := by simpa using h
      rw [← this] at h2
      exact of_decide_eq_true h2
  unfold insP
  rw [if_pos hc, place_fe]
  by_cases h : p ∈ ps
  · rw [if_pos h, if_pos (hmem.2 h)]
  · rw [if_neg h, if_neg (fun hh => h (hmem.1 hh)), if_neg (by rw [List.length_map]; omega)]
/-- The longest so far. -/
def stepL (key : Nat) (b : Int) (p : Nat × Nat) : Int := if pfx key p.2 = p.1 ∧ (p.2 : Int) > b then (p.2 : Int) else b
def bestL (key : Nat) (ps : List (Nat × Nat)) : Int := ps.foldl (stepL key) (-1)
theorem bestL_snoc (key : Nat) (ps : List (Nat × Nat)) (p : Nat × Nat) : bestL key (ps ++ [p]) = stepL key (bestL key ps) p := by
  unfold bestL
  rw [List.foldl_append]
  rfl
theorem hits_fe (p : Nat × Nat) (key : Nat) (hp : Pok p) (hk : key ≤ 255) : hitsE [2] [⟨8, 0, (key : Int)⟩] (fe' p) = decide (pfx key p.2 = p.1) := by
  have h1 := head8 p.2 p.1 hp.n hp.v
  rw [hp.m] at h1
  have h2 := head8 p.2 key hp.n hk
  have hmn : mn (mx (p.2 : Int) 0) 8 = (p.2 : Int) := by
    unfold mn mx
    have := hp.n
    rw [if_neg (show ¬ ((p.2 : Int) < 0) by omega), if_neg (by omega)]
  unfold hitsE fe' fe
  simp only [List.length_cons, List.length_nil]
  rw [show List.range (0 + 1) = [0] from rfl]
  simp only [List.all_cons, List.all_nil, Bool.and_true, List.getD_cons_zero]
  unfold hitsB
  rw [if_neg (by decide), if_pos rfl]
  simp only
  rw [hmn]
  unfold underB
  simp only
  rw [h1, h2]
  rw [Bool.eq_iff_iff]
  simp
  omega
theorem wt_fe (p : Nat × Nat) : wtE [2] (fe' p) = (p.2 : Int) := by
  have hw : weighsB [2] = false := by kernel_rfl
  have hp : kIdx [2] 2 = 0 := by kernel_rfl
  unfold wtE
  rw [hw, hp]
  rfl
/-- What counts, beside the longest. -/
def Same8 (ps : List (Nat × Nat)) (s : Int × Int) (b : Int) : Prop := (s.1 = -1 ∧ b = -1) ∨ ∃ i : Nat, s.1 = (i : Int) ∧ i < ps.length ∧ s.2 = b ∧ 0 ≤ b ∧ ((ps.getD i (0, 0)).2 : Int) = b
theorem best_fe (ps : List (Nat × Nat)) (key : Nat) (hk : key ≤ 255) (hp : ∀ p ∈ ps, Pok p) : ∀ k, k ≤ ps.length → Same8 ps (bestB [2] (ps.map fe') (hitsTo [2] [⟨8, 0, (key : Int)⟩] (ps.map fe') k)) (bestL key (ps.take k))
  | 0, _ => .inl ⟨rfl, rfl⟩
  | k + 1, hkl => by
    have ih := best_fe ps key hk hp k (by omega)
    have hkl' : k < ps.length := by omega
    have ht : ps.take (k + 1) = ps.take k ++ [ps.getD k (0, 0)] := by
      rw [List.take_add_one, List.getElem?_eq_getElem hkl', List.getD_eq_getElem?_getD, List.getElem?_eq_getElem hkl']
      rfl
    have hg : (ps.map fe').getD k z30 = fe' (ps.getD k (0, 0)) := by
      rw [List.getD_eq_getElem?_getD, List.getElem?_map, List.getD_eq_getElem?_getD, List.getElem?_eq_getElem hkl']
      rfl
    have hpk : Pok (ps.getD k (0, 0)) := hp _ (by rw [List.getD_eq_getElem?_getD, List.getElem?_eq_getElem hkl']; exact List.getElem_mem _)
    rw [ht, bestL_snoc]
    cases hh : hitsE [2] [⟨8, 0, (key : Int)⟩] ((ps.map fe').getD k z30) with
    | true =>
      rw [hitsTo_yes _ _ _ _ hh, bestB_snoc]
      rw [hg, hits_fe _ _ hpk hk] at hh
      have hh' := of_decide_eq_true hh
      unfold stepB stepL
      rw [hg, wt_fe]
      rcases ih with ⟨h1, h2⟩ | ⟨i, h1, h2, h3, h4, h5⟩
      · rw [h1, h2, if_pos (.inl (by decide)), if_pos ⟨hh', by omega⟩]
        exact .inr ⟨k, rfl, hkl', rfl, by omega, rfl⟩
      · by_cases hgt : ((ps.getD k (0, 0)).2 : Int) > bestL key (ps.take k)
        · rw [if_pos (.inr (by rw [h3]; exact hgt)), if_pos ⟨hh', hgt⟩]
          exact .inr ⟨k, rfl, hkl', rfl, by omega, rfl⟩
        · rw [if_neg (by rw [h1, h3]; omega), if_neg (fun h => hgt h.2)]
          exact .inr ⟨i, h1, h2, h3, h4, h5⟩
    | false =>
      rw [hitsTo_no _ _ _ _ hh]
      rw [hg, hits_fe _ _ hpk hk] at hh
      have hh' := of_decide_eq_false hh
      unfold stepL
      rw [if_neg (fun h => hh' h.1)]
      exact ih
theorem ok8 (key : Nat) (hk : key ≤ 255) : okB ⟨8, 0, (key : Int)⟩ = true := by
  have hm : IntKind.u64.wrap ((shl .u64 1 8) - 1) = 2 ^ 8 - 1 := by kernel_rfl
  have hb := bits_mask .u64 64 (by decide) (fun m a b => by rw [IntKind.wrap_u64]; omega) 8 (by decide) (key : Int) (by omega) (by omega)
  unfold okB bits_Check.f bits_wide.f bits_cut.f
  simp only [hm]
  rw [hb, Int.emod_eq_of_lt (by omega) (by omega)]
  simp
theorem find_fe (ps : List (Nat × Nat)) (key : Nat) (hk : key ≤ 255) (hp : ∀ p ∈ ps, Pok p) : (findP [2] [8] 4096 (ps.map fe') [⟨8, 0, (key : Int)⟩] = -1 ∧ bestL key ps = -1) ∨ ∃ i : Nat, findP [2] [8] 4096 (ps.map fe') [⟨8, 0, (key : Int)⟩] = (i : Int) ∧ i < ps.length ∧ 0 ≤ bestL key ps ∧ ((ps.getD i (0, 0)).2 : Int) = bestL key ps := by
  have ht : tmayB [2] [8] 4096 = true := by kernel_rfl
  have hf : fitsB [⟨8, 0, (key : Int)⟩] [8] = true := (fitsB_iff _ _).2 ⟨rfl, fun j hj => by
    have : j = 0 := by simp at hj; omega
    subst this
    show fit1 ⟨8, 0, (key : Int)⟩ 8 = true
    unfold fit1
    rw [ok8 key hk]
    rfl⟩
  unfold findP
  rw [ht, hf, Bool.true_and, if_pos rfl]
  have := best_fe ps key hk hp ps.length (Nat.le_refl _)
  rw [List.take_length] at this
  rw [List.length_map]
  rcases this with ⟨h1, h2⟩ | ⟨i, h1, h2, h3, h4, h5⟩
  · exact .inl ⟨h1, h2⟩
  · exact .inr ⟨i, h1, h2, h4, h5⟩
/-- Pairs, each once. -/
def addP (ps : List (Nat × Nat)) (p : Nat × Nat) : List (Nat × Nat) := if p ∈ ps then ps else ps ++ [p]
def toP (q : Nat × Nat) : Nat × Nat := (pfx q.1 (q.2 % 9), q.2 % 9)
def upP (qs : List (Nat × Nat)) : List (Nat × Nat) := qs.foldl (fun ps q => addP ps (toP q)) []
theorem upP_snoc (qs : List (Nat × Nat)) (q : Nat × Nat) : upP (qs ++ [q]) = addP (upP qs) (toP q) := by
  unfold upP
  rw [List.foldl_append]
  rfl
theorem toP_ok (q : Nat × Nat) (h : q.1 ≤ 255) : Pok (toP q) := ⟨by unfold toP; simp only; omega, pfx_le _ _ h, pfx_pfx _ _⟩
theorem upP_ok (qs : List (Nat × Nat)) (h : ∀ q ∈ qs, q.1 ≤ 255) : ∀ p ∈ upP qs, Pok p := by
  unfold upP
  have key : ∀ (qs ps : List (Nat × Nat)), (∀ q ∈ qs, q.1 ≤ 255) → (∀ p ∈ ps, Pok p) → ∀ p ∈ qs.foldl (fun ps q => addP ps (toP q)) ps, Pok p := by
    intro qs
    induction qs with
    | nil => exact fun ps _ h => h
    | cons q qs ih =>
      intro ps hq hp
      rw [List.foldl_cons]
      refine ih _ (fun x hx => hq x (List.mem_cons_of_mem _ hx)) ?_
      unfold addP
      split
      · exact hp
      · intro p hm
        rcases List.mem_append.1 hm with hm | hm
        · exact hp p hm
        · rw [List.mem_singleton.1 hm]
          exact toP_ok q (hq q (by simp))
  exact key qs [] h (fun p hp => by cases hp)
theorem upP_len : ∀ (qs ps : List (Nat × Nat)), (qs.foldl (fun ps q => addP ps (toP q)) ps).length ≤ ps.length + qs.length
  | [], ps => by simp
  | q :: qs, ps => by
    rw [List.foldl_cons]
    have := upP_len qs (addP ps (toP q))
    have h2 : (addP ps (toP q)).length ≤ ps.length + 1 := by
      unfold addP
      split
      · omega
      · simp
    simp only [List.length_cons]
    omega
theorem run_rem9 (qb : Nat) (W : World) (h : qb ≤ 255) : (Op.intDiv .rem .u8 (qb:Int) 9).run Try.prog W = .ok (.int .u8 ((qb % 9 : Nat) : Int)) W := by
  have e : (qb : Int).tmod 9 = ((qb % 9 : Nat) : Int) := by
    rw [Int.tmod_eq_emod_of_nonneg (by omega)]; omega
  unfold Op.intDiv
  rw [if_neg (by decide), ← e]
  rfl
theorem shr_eq (x n d x1 : Nat) (hd : d = 8 - n) (h1 : x1 = x / 2 ^ d) : (x : Int) / 2 ^ ((d : Nat) : Int).toNat = (x1 : Int) ∧ (x : Int) / 2 ^ d = (x1 : Int) := by
  subst h1
  rw [Int.toNat_natCast]
  exact ⟨by push_cast; rfl, by push_cast; rfl⟩
theorem shl_eq (x n d x1 v : Nat) (hd : d = 8 - n) (h1 : x1 = x / 2 ^ d) (hx : x ≤ 255) (hv : v = pfx x n) : IntKind.i64.wrap ((x1 : Int) * 2 ^ ((d : Nat) : Int).toNat) = (v : Int) ∧ IntKind.i64.wrap ((x1 : Int) * 2 ^ d) = (v : Int) := by
  have h := pfx_le x n hx
  have e2 : (x1 : Int) * 2 ^ d = (v : Int) := by subst h1; rw [hv]; unfold pfx; rw [← hd]; push_cast; rfl
  rw [Int.toNat_natCast, e2]
  have e3 : IntKind.i64.wrap (v : Int) = (v : Int) := by rw [IntKind.wrap_i64]; omega
  exact ⟨e3, e3⟩
end Go.Proofs.Ytdfmeclhpefmfaa.Own

/- MatchLongest: the walk. -/
set_option linter.unusedVariables false
set_option linter.unusedSimpArgs false
set_option maxRecDepth 100000
namespace Go.Proofs.Ytdfmeclhpefmfaa.Own
open Go.RowKit Go.Proofs.Ytdfmeclhpefmfaa.K YtdfmeclhpefmfaaW.PrintWords YtdfmeclhpefmfaaW.PrintLast YtdfmeclhpefmfaaW.PrintMore

/-- Pairs of bytes, in memory. -/
def PairsAt (w : World) (A : Option Addr) (n : Nat) (qs : List (Nat × Nat)) : Prop :=
  qs.length = n ∧ (0 < n → ∃ ad, A = some ad ∧ ∀ j, j < n → w.cell? (ad.add (j * 2)) = some (.int .u8 ((qs.getD j (0, 0)).1 : Int)) ∧ w.cell? ((ad.add (j * 2)).add 1) = some (.int .u8 ((qs.getD j (0, 0)).2 : Int)))
theorem PairsAt.below {w w' : World} {A : Option Addr} {n : Nat} {qs : List (Nat × Nat)} (h : PairsAt w A n qs) (hb : Below w.heap.size w w') : PairsAt w' A n qs :=
  ⟨h.1, fun hn => by
    obtain ⟨ad, h1, h3⟩ := h.2 hn
    have key : ∀ {p : Addr} {v : Value}, w.cell? p = some v → w'.cell? p = some v := fun hc => (hb.cell (World.block_lt_of_cell? w _ hc)).trans hc
    exact ⟨ad, h1, fun j hj => ⟨key (h3 j hj).1, key (h3 j hj).2⟩⟩⟩
theorem take_nextP (l : List (Nat × Nat)) (k : Nat) (h : k < l.length) : l.take (k + 1) = l.take k ++ [l.getD k (0, 0)] := by
  rw [List.take_add_one, List.getElem?_eq_getElem h, List.getD_eq_getElem?_getD, List.getElem?_eq_getElem h]
  rfl
theorem small_fe (ps : List (Nat × Nat)) (h : ps.length ≤ 300) : small (ps.map fe') := ⟨by rw [List.length_map]; omega, fun x hx => by
  obtain ⟨v, _, rfl⟩ := List.mem_map.1 hx
  exact ⟨by simp [fe', fe], by simp [fe', fe]⟩⟩
set_option maxHeartbeats 6400000 in
theorem long_any (A : Option Addr) (c : Nat) (l : List (Nat × Nat)) (key : Nat) (w : World) (hr : PairsAt w A l.length l) (hc : l.length ≤ c) (hmx : l.length ≤ 9223372036854775807) (hwf : ∀ j, j < l.length → (l.getD j (0, 0)).1 ≤ 255 ∧ (l.getD j (0, 0)).2 ≤ 255) (hk1 : key ≤ 255) :
    Calls Try.prog 6 #[.slice A l.length c, .int .u8 (key : Int)] w fun r w' => r = .returned (.bool true) ∧ Below w.heap.size w w' := by
  have hu25 := Try.underlying25
  have hu30 := Try.underlying30
  have hu40 := Try.underlying40
  have hu42 := Try.underlying42
  have hu50 := Try.underlying50
  have HR := Aside0.mk hr
  have HWF := Aside0.mk hwf
  clear hr hwf
  by_cases hbig : 300 < l.length
  · have g1 : decide ((l.length : Int) > 300) = true := decide_eq_true (by omega)
    go_enter Try.func6, Try.ntmps6
    go_wp2_with fail
    refine Calls.mono (lives_any _) ?_
    rintro r w2 ⟨rfl, hb⟩
    go_wp2
    go_ret
    exact ⟨rfl, hb⟩
  · have g1 : decide ((l.length : Int) > 300) = false := decide_eq_false (by omega)
    have HT := Aside0.mk (TabIs.mk3 2 8 w)
    have hb3 := below_alloc (below_alloc (below_alloc (Below.refl w.heap.size w) (.cells #[.int .u8 2] 47 (0,0))) (.cells #[.int .i64 8] 3 (0,0))) (.cells #[.slice (some ⟨w.heap.size, 0, none⟩) 1 1, .slice (some ⟨w.heap.size + 1, 0, none⟩) 1 1, .int .i64 4096] 25 (0,0))
    have HB := Aside0.mk hb3
    obtain ⟨g, hg⟩ : ∃ g, g = w.heap.size := ⟨_, rfl⟩
    have hl300 : l.length ≤ 300 := by omega
    have HKEY := Aside0.mk hk1
    clear hb3 hbig
    go_enter Try.func6, Try.ntmps6
    go_wp2_with fail
    generalize hV : ((w.alloc (.cells #[.int .u8 2] 47)).alloc (.cells #[.int .i64 8] 3)).alloc (.cells #[.slice (some ⟨w.heap.size, 0, none⟩) 1 1, .slice (some ⟨w.heap.size + 1, 0, none⟩) 1 1, .int .i64 4096] 25) = V at *
    clear hV
    rw [← hg] at HT ⊢
    clear hg
    go_loopw [6, 7, 8] (fun al at_ i wr => ∃ k : Nat, k ≤ l.length ∧ i = .int .i64 k ∧ ∃ m : Nat, m = ((upP (l.take k)).map fe').length ∧ ∃ AR cR, al = .slice AR m cR ∧ at_ = .int .i64 (bestL key (upP (l.take k))) ∧ Aside0 (m ≤ cR ∧ Kd.C k30 wr AR ((upP (l.take k)).map fe').length ((upP (l.take k)).map fe') ∧ Below w.heap.size w wr ∧ TabIs 2 8 g wr)) (fun _ _ i _ => l.length - (intOf i).toNat)
    case atStart => exact ⟨0, by omega, rfl, 0, rfl, none, 0, rfl, rfl, Nat.le_refl _, C_nilE _, HB.out, HT.out⟩
    case round =>
      obtain ⟨k, hk, rfl, m, hm, AR, cR, rfl, rfl, HI⟩ := hrel
      have HVL := Aside0.mk (show (upP (l.take k)).length ≤ 300 from by
        have := upP_len (l.take k) []
        have h2 : (l.take k).length ≤ 300 := by rw [List.length_take]; omega
        unfold upP
        simp only [List.length_nil] at this
        omega)
      have HPS := Aside0.mk (upP_ok (l.take k) (fun q hq => by
        obtain ⟨j, hj, rfl⟩ := List.mem_iff_getElem.1 (List.mem_of_mem_take hq)
        have := (HWF.out j hj).1
        rwa [List.getD_eq_getElem?_getD, List.getElem?_eq_getElem hj] at this))
      have HMM := Aside0.mk hm
      clear hm
      by_cases hlt : k < l.length
      · have g3 : decide ((k : Int) < (l.length : Int)) = true := decide_eq_true (by omega)
        have p0 : 0 ≤ (k : Int) := by omega
        have q0 : (k : Int) < (l.length : Int) := by omega
        obtain ⟨ad, rfl, hcs⟩ := (HR.out.below HI.out.2.2.1).2 (by omega)
        obtain ⟨x0, x1⟩ := hcs k hlt
        have HTK := Aside0.mk (take_nextP l k hlt)
        have HVB := Aside0.mk (HWF.out k hlt)
        clear hcs
        generalize l.getD k (0, 0) = q at *
        obtain ⟨qa, qb⟩ := q
        simp only at x0 x1
        have x1f : wr.cell? ⟨(ad.add (k * 2)).block, (ad.add (k * 2)).off + 1, none⟩ = some (.int .u8 (qb : Int)) := x1
        obtain ⟨ps, hps⟩ : ∃ ps, ps = upP (l.take k) := ⟨_, rfl⟩
        rw [← hps] at HI HVL HMM HPS ⊢
        obtain ⟨n, hn⟩ : ∃ n, n = qb % 9 := ⟨_, rfl⟩
        obtain ⟨v, hv⟩ : ∃ v, v = pfx qa n := ⟨_, rfl⟩
        have hn8 : n ≤ 8 := by omega
        have hqa : qa ≤ 255 := HVB.out.1
        have hqb : qb ≤ 255 := HVB.out.2
        have HUQ := Aside0.mk (show upP (l.take (k + 1)) = addP ps (v, n) from by rw [HTK.out, upP_snoc, ← hps, hv, hn]; rfl)
        have HPK := Aside0.mk (show Pok (v, n) from ⟨hn8, by rw [hv]; exact pfx_le _ _ hqa, by rw [hv]; exact pfx_pfx _ _⟩)
        have r1 : (qb : Int) % 9 = (n : Int) := by omega
        have r2 : (qb : Int).tmod 9 = (n : Int) := by rw [Int.tmod_eq_emod_of_nonneg (by omega)]; exact r1
        have r3 : IntKind.u8.wrap (n : Int) = (n : Int) := by rw [IntKind.wrap_u8]; omega
        have r4 : IntKind.i64.wrap (n : Int) = (n : Int) := by rw [IntKind.wrap_i64]; omega
        have r5 : IntKind.i64.wrap (qa : Int) = (qa : Int) := by rw [IntKind.wrap_i64]; omega
        obtain ⟨d, hd⟩ : ∃ d, d = 8 - n := ⟨_, rfl⟩
        obtain ⟨x1', hx1⟩ : ∃ x, x = qa / 2 ^ d := ⟨_, rfl⟩
        have r6 : IntKind.i64.wrap (8 - (n : Int)) = (d : Int) := by rw [IntKind.wrap_i64]; omega
        have r6' : wrap64 (8 - (n : Int)) = (d : Int) := by unfold wrap64; omega
        have hd8 : d ≤ 8 := by omega
        obtain ⟨s1, s2⟩ := shr_eq qa n d x1' hd hx1
        obtain ⟨s3, s4⟩ := shl_eq qa n d x1' v hd hx1 hqa hv
        have hrem : ∀ W, (Op.intDiv .rem .u8 (qb : Int) 9).run Try.prog W = .ok (.int .u8 (n : Int)) W := fun W => by rw [hn]; exact run_rem9 qb W hqb
        obtain ⟨y1, hy1⟩ : ∃ x, x = key / 2 ^ d := ⟨_, rfl⟩
        obtain ⟨kv, hkv⟩ : ∃ x, x = pfx key n := ⟨_, rfl⟩
        obtain ⟨s5, s6⟩ := shr_eq key n d y1 hd hy1
        obtain ⟨s7, s8⟩ := shl_eq key n d y1 kv hd hy1 HKEY.out hkv
        have HKV := Aside0.mk hkv
        have hv255 : v ≤ 255 := HPK.out.v
        have hkv255 : kv ≤ 255 := by rw [hkv]; exact pfx_le _ _ HKEY.out
        have r7 : IntKind.i64.wrap (key : Int) = (key : Int) := by have := HKEY.out; rw [IntKind.wrap_i64]; omega
        have r8 : IntKind.u64.wrap (v : Int) = (v : Int) := by rw [IntKind.wrap_u64]; omega
        clear hps hn hv hd hx1 hy1 hkv hqa hqb
        go_wp2_with fail
        have HBOX := Aside0.mk HI.out.2.2.2.box
        refine region_float (BoxIs (g + 1 + 1) (.cells #[.slice (some ⟨g, 0, none⟩) 1 1, .slice (some ⟨g + 1, 0, none⟩) 1 1, .int .i64 4096] 25 (0,0))) 11 [.float 0, .float 1, .float 2, .float 3, .float 4, .one 5, .one 6, .one 7, .float 8, .float 9, .one 10] (by kernel_rfl) (by kernel_rfl) HBOX.out ?_
        refine Pl.wp_float rfl rfl (.agg #[.slice (some ⟨g, 0, none⟩) 1 1, .slice (some ⟨g + 1, 0, none⟩) 1 1, .int .i64 4096]) (fun U hU => by have f0 := cellOf hU 0; have f1 := cellOf hU 1; have f2 := cellOf hU 2; go_simp) (fun _ _ _ h => h) ?_
        (try go_simp)
        refine Pl.wp_float rfl rfl (.slice AR m cR) (fun U hU => by go_simp) (fun _ _ _ h => h) ?_
        (try go_simp)
        refine Pl.wp_float rfl rfl (.int .i64 (v : Int)) (fun U hU => by go_simp) (fun _ _ _ h => h) ?_
        (try go_simp)
        refine Pl.wp_float rfl rfl (.int .u64 (v : Int)) (fun U hU => by go_simp) (fun _ _ _ h => h) ?_
        (try go_simp)
        refine Pl.wp_float rfl rfl (.int .i64 (n : Int)) (fun U hU => by go_simp) (fun _ _ _ h => h) ?_
        (try go_simp)
        refine Pl.wp_one rfl rfl ?_
        go_simp
        refine Calls.mono (first_any (v : Int) (n : Int) _) ?_
        rintro r w7 ⟨A0, c0, A3, c3, rfl, ⟨hm0, hm1, hm2⟩, hb⟩
        have HT7 := Aside0.mk (show TabIs 2 8 g w7 from (HI.out.2.2.2.next (pw_below_drewN (Below.refl _ _) 1)).next hb)
        have HA7 := Aside0.mk (Kd.C_below (Kd.C_below HI.out.2.1 (pw_below_drewN (Below.refl _ _) 1)) hb)
        have HB7 := Aside0.mk (HI.out.2.2.1.trans (((pw_below_drewN (Below.refl _ _) 1).trans hb).mono HI.out.2.2.1.size))
        have HINS0 := Aside0.mk (insert_any 4096 (ps.map fe') (c1 := cR) (fe' (v, n)) (c0 := c0) (c3 := c3) _ HT7.out.tab hm0 hm1 hm2 (Nat.zero_le _) HA7.out (by rw [← HMM.out]; exact HI.out.1) (small_fe ps HVL.out) ⟨by simp [fe', fe], by simp [fe', fe]⟩)
        rw [ins_fe ps (v, n) HPK.out (by have := HVL.out; omega), ← HMM.out] at HINS0
        clear hm0 hm1 hm2 hb
        refine ⟨HT7.out.box, ?_⟩
        refine Pl.wp_one rfl rfl ?_
        go_simp
        by_cases hmem : (v, n) ∈ ps
        · rw [if_pos hmem] at HINS0
          refine Calls.mono HINS0.out ?_
          rintro r w8 ⟨v7, rfl, hA, hb⟩
          obtain ⟨A2, c2, rfl, _, _⟩ := hA.reads
          have HT8 := Aside0.mk (HT7.out.next hb)
          have HA8 := Aside0.mk (Kd.C_below HA7.out hb)
          have HB8 := Aside0.mk (HB7.out.trans (hb.mono HB7.out.size))
          have HNEXT := Aside0.mk (show upP (l.take (k + 1)) = ps from by rw [HUQ.out]; unfold addP; rw [if_pos hmem])
          clear hmem hA hb HINS0
          refine ⟨HT8.out.box, ?_⟩
          refine Pl.wp_one rfl rfl ?_
          go_simp
          refine ⟨HT8.out.box, ?_⟩
          refine Pl.wp_float rfl rfl (.slice A2 ([] : List S30).length c2) (fun U hU => by go_simp) (fun _ _ _ h => h) ?_
          (try go_simp)
          refine Pl.wp_float rfl rfl (.int .i64 12) (fun U hU => by go_simp) (fun _ _ _ h => h) ?_
          (try go_simp)
          refine Pl.wp_one rfl rfl ?_
          go_simp
          refine ⟨HT8.out.box, ?_⟩
          simp only [Pl.wp, List.drop]
          go_wp2
          go_roundw
          case rel =>
            refine ⟨k + 1, by omega, by go_num, m, by rw [HNEXT.out]; exact HMM.out, AR, cR, rfl, by rw [HNEXT.out], ?_⟩
            rw [HNEXT.out]
            exact ⟨HI.out.1, HA8.out, HB8.out, HT8.out⟩
          case measure => (simp [intOf]; omega)
        · rw [if_neg hmem] at HINS0
          refine Calls.mono HINS0.out ?_
          rintro r w8 ⟨v7, rfl, hA, hb⟩
          obtain ⟨A2, c2, rfl, hc2, hr2⟩ := hA.reads
          have HT8 := Aside0.mk (HT7.out.next hb)
          have HB8 := Aside0.mk (HB7.out.trans (hb.mono HB7.out.size))
          have HL2 := Aside0.mk (show (ps.map fe' ++ [fe' (v, n)]).length = ((ps ++ [(v, n)]).map fe').length from by simp)
          have HC2 := Aside0.mk (show ((ps ++ [(v, n)]).map fe').length ≤ c2 from by rw [← HL2.out]; exact hc2)
          have HA8 := Aside0.mk (show Kd.C k30 w8 A2 ((ps ++ [(v, n)]).map fe').length ((ps ++ [(v, n)]).map fe') from by rw [List.map_append]; exact hr2)
          have HNEXT := Aside0.mk (show upP (l.take (k + 1)) = ps ++ [(v, n)] from by rw [HUQ.out]; unfold addP; rw [if_neg hmem])
          have HBL := Aside0.mk (bestL_snoc key ps (v, n))
          clear hmem hA hb HINS0 hc2 hr2
          generalize bestL key ps = bb at *
          refine ⟨HT8.out.box, ?_⟩
          refine Pl.wp_one rfl rfl ?_
          go_simp
          refine ⟨HT8.out.box, ?_⟩
          refine Pl.wp_float rfl rfl (.slice A2 (ps.map fe' ++ [fe' (v, n)]).length c2) (fun U hU => by go_simp) (fun _ _ _ h => h) ?_
          (try go_simp)
          refine Pl.wp_float rfl rfl (.int .i64 0) (fun U hU => by go_simp) (fun _ _ _ h => h) ?_
          (try go_simp)
          refine Pl.wp_one rfl rfl ?_
          go_simp
          refine ⟨HT8.out.box, ?_⟩
          simp only [Pl.wp, List.drop]
          by_cases hkv : kv = v
          · have b1 : (kv == v) = true := by simpa using hkv
            have b2 : ((kv : Int) == (v : Int)) = true := by rw [hkv]; simp
            by_cases hgt : (n : Int) > bb
            · have b3 : decide ((n : Int) > bb) = true := decide_eq_true hgt
              have HSL := Aside0.mk (show bestL key (ps ++ [(v, n)]) = (n : Int) from by rw [HBL.out]; unfold stepL; rw [if_pos ⟨by rw [← HKV.out]; exact hkv, hgt⟩])
              clear hkv hgt
              go_wp2
              go_roundw
              case rel =>
                refine ⟨k + 1, by omega, by go_num, _, ?_, A2, c2, rfl, by rw [HNEXT.out, HSL.out], ?_⟩
                · rw [HNEXT.out]
                  simp
                · rw [HNEXT.out]
                  exact ⟨by have := HC2.out; simpa using this, HA8.out, HB8.out, HT8.out⟩
              case measure => (simp [intOf]; omega)
            · have b3 : decide ((n : Int) > bb) = false := decide_eq_false hgt
              have HSL := Aside0.mk (show bestL key (ps ++ [(v, n)]) = bb from by rw [HBL.out]; unfold stepL; rw [if_neg (fun h => hgt h.2)])
              clear hkv hgt
              go_wp2
              go_roundw
              case rel =>
                refine ⟨k + 1, by omega, by go_num, _, ?_, A2, c2, rfl, by rw [HNEXT.out, HSL.out], ?_⟩
                · rw [HNEXT.out]
                  simp
                · rw [HNEXT.out]
                  exact ⟨by have := HC2.out; simpa using this, HA8.out, HB8.out, HT8.out⟩
              case measure => (simp [intOf]; omega)
          · have b1 : (kv == v) = false := by simpa using hkv
            have b2 : ((kv : Int) == (v : Int)) = false := by
              rw [beq_eq_false_iff_ne]
              omega
            have HSL := Aside0.mk (show bestL key (ps ++ [(v, n)]) = bb from by rw [HBL.out]; unfold stepL; rw [if_neg (fun h => hkv (by rw [HKV.out]; exact h.1))])
            clear hkv
            go_wp2
            go_roundw
            case rel =>
              refine ⟨k + 1, by omega, by go_num, _, ?_, A2, c2, rfl, by rw [HNEXT.out, HSL.out], ?_⟩
              · rw [HNEXT.out]
                simp
              · rw [HNEXT.out]
                exact ⟨by have := HC2.out; simpa using this, HA8.out, HB8.out, HT8.out⟩
            case measure => (simp [intOf]; omega)
      · have hkn : k = l.length := by omega
        have g3 : decide ((k : Int) < (l.length : Int)) = false := decide_eq_false (by omega)
        have hw64 : IntKind.u64.wrap (key : Int) = (key : Int) := by rw [IntKind.wrap_u64]; have := HKEY.out; omega
        rw [show l.take k = l from by rw [hkn, List.take_length]] at HI HMM HVL HPS ⊢
        have HFF := Aside0.mk (find_fe (upP l) key HKEY.out HPS.out)
        generalize hps : upP l = ps at *
        clear hkn hps
        generalize bestL key ps = bb at *
        have HBOX := Aside0.mk HI.out.2.2.2.box
        go_wp2_with fail
        refine region_float (BoxIs (g + 1 + 1) (.cells #[.slice (some ⟨g, 0, none⟩) 1 1, .slice (some ⟨g + 1, 0, none⟩) 1 1, .int .i64 4096] 25 (0,0))) 7 [.float 0, .float 1, .float 2, .float 3, .one 4, .one 5, .one 6] (by kernel_rfl) (by kernel_rfl) HBOX.out ?_
        refine Pl.wp_float rfl rfl (.agg #[.slice (some ⟨g, 0, none⟩) 1 1, .slice (some ⟨g + 1, 0, none⟩) 1 1, .int .i64 4096]) (fun U hU => by have f0 := cellOf hU 0; have f1 := cellOf hU 1; have f2 := cellOf hU 2; go_simp) (fun _ _ _ h => h) ?_
        (try go_simp)
        refine Pl.wp_float rfl rfl (.slice AR m cR) (fun U hU => by go_simp) (fun _ _ _ h => h) ?_
        (try go_simp)
        refine Pl.wp_float rfl rfl (.int .u8 (key : Int)) (fun U hU => by go_simp) (fun _ _ _ h => h) ?_
        (try go_simp)
        refine Pl.wp_float rfl rfl (.int .u64 (key : Int)) (fun U hU => by go_simp) (fun _ _ _ h => h) ?_
        (try go_simp)
        refine Pl.wp_one rfl rfl ?_
        go_simp
        refine Calls.mono (eight_any (key : Int) _) ?_
        rintro r w7 ⟨rfl, hb⟩
        have HT7 := Aside0.mk (show TabIs 2 8 g w7 from (HI.out.2.2.2.next (pw_below_drewN (Below.refl _ _) 1)).next hb)
        have HA7 := Aside0.mk (Kd.C_below (Kd.C_below HI.out.2.1 (pw_below_drewN (Below.refl _ _) 1)) hb)
        have HB7 := Aside0.mk (HI.out.2.2.1.trans (((pw_below_drewN (Below.refl _ _) 1).trans hb).mono HI.out.2.2.1.size))
        clear hb
        refine ⟨HT7.out.box, ?_⟩
        refine Pl.wp_one rfl rfl ?_
        go_simp
        have hbx := below_alloc (Below.refl w7.heap.size w7) (.cells #[.int .i64 8, .int .u64 0, .int .u64 (key : Int)] 40 (0,0))
        have HT8 := Aside0.mk (HT7.out.next hbx)
        have HB8 := Aside0.mk (HB7.out.trans (hbx.mono HB7.out.size))
        have HFD := Aside0.mk (find_ok 4096 (ps.map fe') (c1 := cR) [⟨8, 0, (key : Int)⟩] (kc := 1) _ HT8.out.tab (Kd.C_below HA7.out hbx) (by rw [← HMM.out]; exact HI.out.1) (C_key (heap_alloc_new w7 _)) (Nat.le_refl _))
        have HA8 := Aside0.mk (Kd.C_below HA7.out hbx)
        rw [← HMM.out] at HFD
        generalize findP [2] [8] 4096 (ps.map fe') [⟨8, 0, (key : Int)⟩] = fx at *
        clear hbx
        refine ⟨HT8.out.box, ?_⟩
        refine Pl.wp_one rfl rfl ?_
        go_simp
        refine Calls.mono HFD.out ?_
        rintro r w9 ⟨rfl, hb⟩
        have HT9 := Aside0.mk (HT8.out.next hb)
        have HB9 := Aside0.mk (HB8.out.trans (hb.mono HB8.out.size))
        have HA9 := Aside0.mk (Kd.C_below HA8.out hb)
        clear hb
        refine ⟨HT9.out.box, ?_⟩
        simp only [Pl.wp, List.drop]
        rcases HFF.out with ⟨h1, h2⟩ | ⟨i, h1, h2, h3, h4⟩
        · subst h1
          subst h2
          go_wp2_with fail
          refine Calls.mono (lives_any _) ?_
          rintro r w7 ⟨rfl, hb⟩
          have HB10 := Aside0.mk (HB9.out.trans (hb.mono HB9.out.size))
          clear hb
          go_wp2
          go_ret
          exact ⟨rfl, HB10.out⟩
        · subst h1
          have HML := Aside0.mk (show m = ps.length from by rw [HMM.out, List.length_map])
          have hgd : (ps.map fe').getD i z30 = fe' (ps.getD i (0, 0)) := by
            rw [List.getD_eq_getElem?_getD, List.getElem?_map, List.getD_eq_getElem?_getD, List.getElem?_eq_getElem h2]
            rfl
          obtain ⟨ad, A0, c0, A3, c3, rfl, x0, x1, x2, x3, l0, r0, l3, r3⟩ := at_T30 HA9.out (i : Int) (by omega) (by rw [List.length_map]; omega)
          rw [Int.toNat_natCast] at x0
          simp only [rd_T30, Int.toNat_natCast, hgd] at x0 r0
          have x0' : w9.cell? (ad.add (i * 4)) = some (.slice A0 1 c0) := x0
          obtain ⟨am, rfl, _, _, _, _, _, _, y6⟩ := at_T42 r0 (0 : Int) (by omega) (by show (0 : Int) < ((1 : Nat) : Int); omega)
          have y6' : w9.cell? ⟨am.block, am.off + 6, none⟩ = some (.int .i64 bb) := by
            have : w9.cell? ⟨(am.add 0).block, (am.add 0).off + 6, none⟩ = some (.int .i64 ((ps.getD i (0, 0)).2 : Int)) := y6
            rw [h4] at this
            exact this
          have hi1 : decide ((i : Int) < (m : Int)) = true := decide_eq_true (by rw [HML.out]; omega)
          have hi0 : (0 : Int) ≤ (i : Int) := by omega
          have hi2 : (i : Int) < (m : Int) := by rw [HML.out]; omega
          have hn1 : decide ((i : Int) < 0) = false := decide_eq_false (by omega)
          have hn2 : decide (bb < 0) = false := decide_eq_false (by omega)
          have hbe : (bb == bb) = true := by simp
          clear x0 x1 x2 x3 l0 r0 l3 r3 y6 hgd h2 h4 HML
          go_wp2_with fail
          refine Calls.mono (lives_any _) ?_
          rintro r w7 ⟨rfl, hb⟩
          have HB10 := Aside0.mk (HB9.out.trans (hb.mono HB9.out.size))
          clear hb
          go_wp2
          go_ret
          exact ⟨rfl, HB10.out⟩
end Go.Proofs.Ytdfmeclhpefmfaa.Own

/- Pairs of bytes that came in, opened. -/
set_option linter.unusedVariables false
set_option linter.unusedSimpArgs false
set_option maxRecDepth 100000
namespace Go.Proofs.Ytdfmeclhpefmfaa.Own
open Go.RowKit Go.ChangeShapes Go.Proofs.Ytdfmeclhpefmfaa.K YtdfmeclhpefmfaaW.PrintWords YtdfmeclhpefmfaaW.PrintLast YtdfmeclhpefmfaaW.PrintMore

section
variable {H : Type} {enc : TypeId × Value → H} {W : World}
theorem came_pair {cs : List Value} (h : Came enc Try.prog W 50 cs) : ∃ a b : Nat, cs = [.int .u8 (a : Int), .int .u8 (b : Int)] ∧ a ≤ 255 ∧ b ≤ 255 := by
  obtain ⟨hl, hf⟩ := h.array Try.underlying50
  have h3c : Try.prog.cellsOf 50 = 2 := by kernel_rfl
  have c5 : Try.prog.cellsOf 5 = 1 := by kernel_rfl
  rw [h3c] at hl
  match cs, hl with
  | [x0, x1], _ =>
    have f0 : Came enc Try.prog W 5 (([x0, x1].drop (0 * Try.prog.cellsOf 5)).take (Try.prog.cellsOf 5)) := hf 0 (by decide)
    have f1 : Came enc Try.prog W 5 (([x0, x1].drop (1 * Try.prog.cellsOf 5)).take (Try.prog.cellsOf 5)) := hf 1 (by decide)
    rw [c5] at f0 f1
    obtain ⟨a, h0, w0⟩ := f0.int Try.underlying5
    obtain ⟨b, h1, w1⟩ := f1.int Try.underlying5
    simp only [List.drop, List.take] at h0 h1
    injection h0 with h0 _
    injection h1 with h1 _
    have b0 := bd_u8 w0
    have b1 := bd_u8 w1
    refine ⟨a.toNat, b.toNat, ?_, by omega, by omega⟩
    rw [h0, h1, Int.toNat_of_nonneg b0.1, Int.toNat_of_nonneg b1.1]
theorem came_pairs {A : Option Addr} {n c : Nat} (h : Came enc Try.prog W 49 [.slice A n c]) :
    ∃ l : List (Nat × Nat), l.length = n ∧ PairsAt W A n l ∧ n ≤ c ∧ n ≤ 9223372036854775807 ∧ ∀ j, j < l.length → (l.getD j (0, 0)).1 ≤ 255 ∧ (l.getD j (0, 0)).2 ≤ 255 := by
  obtain ⟨A', n', c', h1, h2, h3, h4, h5, h6, h7⟩ := h.slice Try.underlying49
  injection h1 with h1 _
  injection h1 with h1 h1' h1''
  subst h1 h1' h1''
  unfold maxLen at h3
  have h3c : Try.prog.cellsOf 50 = 2 := by kernel_rfl
  rw [h3c] at h7
  rcases A with _ | ad
  · obtain ⟨rfl, _⟩ := h6 rfl
    exact ⟨[], rfl, ⟨rfl, by simp⟩, h2, by omega, fun j hj => by simp at hj⟩
  · obtain ⟨xs, hl, hx⟩ := list_of ((0, 0) : Nat × Nat) n (p := fun i x => (W.cell? (ad.add (i * 2)) = some (.int .u8 (x.1 : Int)) ∧ W.cell? ((ad.add (i * 2)).add 1) = some (.int .u8 (x.2 : Int))) ∧ x.1 ≤ 255 ∧ x.2 ≤ 255) (fun i hi => by
      obtain ⟨cs', h8, h9⟩ := h7 ad rfl i hi
      obtain ⟨a, b, rfl, ha, hb⟩ := came_pair h9
      obtain ⟨_, _, hc⟩ := World.cells?_some h8
      exact ⟨(a, b), ⟨hc 0 (by decide), hc 1 (by decide)⟩, ha, hb⟩)
    exact ⟨xs, hl, ⟨hl, fun _ => ⟨ad, rfl, fun j hj => (hx j hj).1⟩⟩, h2, by omega, fun j hj => (hx j (by omega)).2⟩
end
end Go.Proofs.Ytdfmeclhpefmfaa.Own
