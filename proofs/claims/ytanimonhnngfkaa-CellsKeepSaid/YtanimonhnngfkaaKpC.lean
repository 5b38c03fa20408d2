/-
  Arrays, as the printed texts read them: their size, and whether two are the same.
-/
import Derived.Test.YtanimonhnngfkaaKpA1
import Derived.Test.YtanimonhnngfkaaKpK4
import Derived.Test.YtanimonhnngfkaaKpK3
import Derived.BigRegion
set_option linter.unusedVariables false
set_option linter.unusedSimpArgs false
namespace Go.Proofs.Ytanimonhnngfkaa.K
open Go.RowKit Go.Proofs.Ytanimonhnngfkaa.Own Go.Proofs.YtanimonhnngfkaaW.PrintWords Go.Proofs.YtanimonhnngfkaaW.PrintMore

def toS (x : Num) : S45 := ⟨x.W, x.Hi, x.Lo⟩
theorem nums_C {w : World} {A : Option Addr} {n : Nat} {xs : List Num} (h : ReadsNums w A n xs) : Kd.C k45 w A n (xs.map toS) := by
  refine ⟨by simpa using h.1, h.2.1, fun hn => ?_⟩
  obtain ⟨b, off, hA, hb, hc⟩ := h.2.2 hn
  refine ⟨_, hA, fun j p hj => ?_⟩
  have hjl : j < xs.length := by simpa using (List.getElem?_eq_some_iff.1 hj).1
  have hp : p = toS (xs.getD j zeroNum) := by
    rw [List.getElem?_map, List.getElem?_eq_getElem hjl] at hj
    rw [List.getD_eq_getElem?_getD, List.getElem?_eq_getElem hjl]
    simpa using hj.symm
  subst hp
  obtain ⟨c0, c1, c2⟩ := hc j (by rw [← h.1]; exact hjl)
  refine ⟨[.int .i64 (xs.getD j zeroNum).W, .int .u64 (xs.getD j zeroNum).Hi, .int .u64 (xs.getD j zeroNum).Lo], rfl, k45_mk w (toS (xs.getD j zeroNum)), fun i u hu => ?_⟩
  rw [Addr.add_lit]
  match i, hu with
  | 0, hu => injection hu with hu; subst hu; exact c0
  | 1, hu => injection hu with hu; subst hu; exact c1
  | 2, hu => injection hu with hu; subst hu; exact c2
theorem ints_C {w : World} {A : Option Addr} {n : Nat} {xs : List Int} {k : IntKind} (h : Reads w k A n xs) : Kd.C (Kd.int k) w A n xs := by
  refine ⟨h.1, h.2.1, fun hn => ?_⟩
  obtain ⟨ad, hA, hc⟩ := h.2.2 hn
  refine ⟨_, hA, fun j p hj => ⟨[.int k p], rfl, rfl, fun i u hu => ?_⟩⟩
  have hjl : j < xs.length := (List.getElem?_eq_some_iff.1 hj).1
  have hp : p = xs.getD j 0 := by rw [List.getD_eq_getElem?_getD, hj]; rfl
  match i, hu with
  | 0, hu =>
    injection hu with hu
    subst hu
    have e1 : (Kd.int k).sz = 1 := rfl
    rw [e1, Nat.mul_one, Nat.add_zero, hp]
    exact hc j (by rw [← h.1]; exact hjl)

theorem same_ints_l (xs : List Int) (hl : xs.length ≤ 9223372036854775807) (d : Nat) : ∀ (i k : Nat), i + d = xs.length → d + 1 ≤ k → pointsmanlaw01_SameInts.l0 k xs xs (i : Int) = some true := by
  induction d with
  | zero =>
    intro i k h hk
    obtain ⟨k, rfl⟩ : ∃ m, k = m + 1 := ⟨k - 1, by omega⟩
    simp only [pointsmanlaw01_SameInts.l0]
    rw [if_neg (by omega)]
  | succ d ih =>
    intro i k h hk
    obtain ⟨k, rfl⟩ : ∃ m, k = m + 1 := ⟨k - 1, by omega⟩
    simp only [pointsmanlaw01_SameInts.l0]
    have hn : wrap64 ((i : Int) + 1) = ((i + 1 : Nat) : Int) := by unfold wrap64; omega
    rw [if_pos (by omega), if_pos (by omega), if_pos (by omega), if_pos trivial, hn]
    exact ih (i + 1) k (by omega) (by omega)
theorem same_nums_l (xs : List S45) (hl : xs.length ≤ 9223372036854775807) (d : Nat) : ∀ (i k : Nat), i + d = xs.length → d + 1 ≤ k → pointsmanlaw01_SameNumbers.l0 k xs xs (i : Int) = some true := by
  induction d with
  | zero =>
    intro i k h hk
    obtain ⟨k, rfl⟩ : ∃ m, k = m + 1 := ⟨k - 1, by omega⟩
    simp only [pointsmanlaw01_SameNumbers.l0]
    rw [if_neg (by omega)]
  | succ d ih =>
    intro i k h hk
    obtain ⟨k, rfl⟩ : ∃ m, k = m + 1 := ⟨k - 1, by omega⟩
    simp only [pointsmanlaw01_SameNumbers.l0]
    have hn : wrap64 ((i : Int) + 1) = ((i + 1 : Nat) : Int) := by unfold wrap64; omega
    rw [if_pos (by omega), if_pos (by omega), if_pos (by omega), if_neg (by simp), hn]
    exact ih (i + 1) k (by omega) (by omega)
theorem same_array_f (nm : ByteArray) (kd aW aR aB : Int) (cs : List S45) (ls : List Int) (h1 : cs.length ≤ 9223372036854775807) (h2 : ls.length ≤ 9223372036854775807) : pointsmanlaw01_SameArray.f (cs.length + ls.length + 1) nm kd aW aR aB cs ls nm kd aW aR aB cs ls = some true := by
  unfold pointsmanlaw01_SameArray.f
  rw [if_pos rfl, if_pos rfl, if_pos rfl, if_pos rfl, if_pos rfl]
  have e1 : pointsmanlaw01_SameNumbers.f (cs.length + ls.length + 1) cs cs = some true := by
    unfold pointsmanlaw01_SameNumbers.f
    rw [if_pos rfl]
    exact same_nums_l cs h1 cs.length 0 _ (by omega) (by omega)
  have e2 : pointsmanlaw01_SameInts.f (cs.length + ls.length + 1) ls ls = some true := by
    unfold pointsmanlaw01_SameInts.f
    rw [if_pos rfl]
    exact same_ints_l ls h2 ls.length 0 _ (by omega) (by omega)
  rw [e1]
  simp only [Option.bind_some]
  rw [if_pos trivial, e2]
  rfl
/-- SameArray, of an array that lies in two places. -/
theorem same_calls (a : Arr) (A : Option Addr) (n c : Nat) (B : Option Addr) (m d : Nat) (A' : Option Addr) (c' : Nat) (B' : Option Addr) (d' : Nat) (V : World) (hR : ReadsNums V A n a.cs) (hS : Reads V .i64 B m a.ls) (hR' : ReadsNums V A' n a.cs) (hS' : Reads V .i64 B' m a.ls) (hc : n ≤ c) (hd : m ≤ d) (hc' : n ≤ c') (hd' : m ≤ d') :
    Calls Try.prog 17 #[.agg (a.vals A n c B m d), .agg (a.vals A' n c' B' m d')] V fun e w' => e = .returned (.bool true) ∧ Below V.heap.size V w' := by
  have hn : (a.cs.map toS).length = n := by simpa using hR.1
  have hm : a.ls.length = m := hS.1
  have q1 := nums_C hR
  have q2 := ints_C hS
  have q3 := nums_C hR'
  have q4 := ints_C hS'
  have hh := same_array_f a.nm a.kd a.W a.Rate a.Burst (a.cs.map toS) a.ls (by rw [hn]; exact hR.2.1) (by rw [hm]; exact hS.2.1)
  have h := pointsmanlaw01_SameArray.calls _ a.nm a.kd a.W a.Rate a.Burst A c (a.cs.map toS) B d a.ls a.nm a.kd a.W a.Rate a.Burst A' c' (a.cs.map toS) B' d' a.ls true V (by rw [hn]; exact q1) (by rw [hn]; exact hc) (by rw [hm]; exact q2) (by rw [hm]; exact hd) (by rw [hn]; exact q3) (by rw [hn]; exact hc') (by rw [hm]; exact q4) (by rw [hm]; exact hd') hh
  rw [hn, hm] at h
  exact h
theorem size_some (nm : ByteArray) (kd aW aR aB : Int) (cs : List S45) (ls : List Int) : ∃ r, pointsmanlaw01_ArraySize.f nm kd aW aR aB cs ls = some r := by
  unfold pointsmanlaw01_ArraySize.f pointsmanlaw01_NumbersSize.f pointsmanlaw01_IntsSize.f
  generalize wrap64 (1 + (nm.size : Int)) = q
  generalize (cs.length : Int) = u
  generalize (ls.length : Int) = v
  generalize (1048576 : Int) = lim
  by_cases h1 : q ≤ lim
  · rw [if_pos h1, Option.bind_some]
    by_cases h2 : wrap64 (q + u) ≤ lim
    · rw [if_pos h2, Option.bind_some]; exact ⟨_, rfl⟩
    · rw [if_neg h2]; exact ⟨_, rfl⟩
  · rw [if_neg h1]; exact ⟨_, rfl⟩
/-- ArraySize, of any array. -/
theorem size_calls (a : Arr) (n m : Nat) (hn : a.cs.length = n) (hm : a.ls.length = m) : ∃ r : Int, ∀ (A : Option Addr) (c : Nat) (B : Option Addr) (d : Nat) (V : World), ReadsNums V A n a.cs → Reads V .i64 B m a.ls → n ≤ c → m ≤ d →
    Calls Try.prog 13 #[.agg (a.vals A n c B m d)] V fun e w' => e = .returned (.int .i64 r) ∧ Below V.heap.size V w' := by
  have hn' : (a.cs.map toS).length = n := by simpa using hn
  obtain ⟨r, hr⟩ := size_some a.nm a.kd a.W a.Rate a.Burst (a.cs.map toS) a.ls
  refine ⟨r, fun A c B d V hR hS hc hd => ?_⟩
  have q1 := nums_C hR
  have q2 := ints_C hS
  have h := pointsmanlaw01_ArraySize.calls a.nm a.kd a.W a.Rate a.Burst A c (a.cs.map toS) B d a.ls r V (by rw [hn']; exact q1) (by rw [hn']; exact hc) (by rw [hm]; exact q2) (by rw [hm]; exact hd) hr
  rw [hn', hm] at h
  exact h
end Go.Proofs.Ytanimonhnngfkaa.K

/- The law CellsKeep. -/
set_option linter.unusedVariables false
set_option linter.unusedSimpArgs false
namespace Go.Proofs.Ytanimonhnngfkaa.K
open Go.RowKit Go.Proofs.Ytanimonhnngfkaa.Own

theorem carry {V V' : World} {i : Nat} {o : Obj} (h : V.heap[i]? = some o) (hb : Below V.heap.size V V') : V'.heap[i]? = some o := (hb.block _ (Array.getElem?_eq_some_iff.1 h).1).trans h
theorem carryA {V V' : World} {i : Nat} {o : Obj} (h : Aside (V.heap[i]? = some o)) (hb : Below V.heap.size V V') : Aside (V'.heap[i]? = some o) := carry h.out hb
theorem oldA {V : World} {i : Nat} {o : Obj} (h : Aside (V.heap[i]? = some o)) (o' : Obj) : Aside ((V.alloc o').heap[i]? = some o) := heapOld _ _ _ _ h.out
theorem cells7 {V : World} {i : Nat} {a0 a1 a2 a3 a4 a5 a6 : Value} {t : TypeId} (h : Aside (V.heap[i]? = some (.cells #[a0, a1, a2, a3, a4, a5, a6] t (0, 0)))) :
    (V.cell? ⟨i, 0, none⟩ = some a0 ∧ V.cell? ⟨i, 1, none⟩ = some a1 ∧ V.cell? ⟨i, 2, none⟩ = some a2) ∧ V.cell? ⟨i, 3, none⟩ = some a3 ∧ V.cell? ⟨i, 4, none⟩ = some a4 ∧ V.cell? ⟨i, 5, none⟩ = some a5 ∧ V.cell? ⟨i, 6, none⟩ = some a6 :=
  ⟨⟨cellOf h.out 0, cellOf h.out 1, cellOf h.out 2⟩, cellOf h.out 3, cellOf h.out 4, cellOf h.out 5, cellOf h.out 6⟩
theorem cells3 {V : World} {i : Nat} {a0 a1 a2 : Value} {t : TypeId} (h : Aside (V.heap[i]? = some (.cells #[a0, a1, a2] t (0, 0)))) :
    V.cell? ⟨i, 0, none⟩ = some a0 ∧ V.cell? ⟨i, 1, none⟩ = some a1 ∧ V.cell? ⟨i, 2, none⟩ = some a2 := ⟨cellOf h.out 0, cellOf h.out 1, cellOf h.out 2⟩
/-- The three boxes. -/
theorem box_three (w : World) (c1 c2 c3 : Array Value) (t1 t2 t3 : TypeId) :
    Aside ((((w.alloc (.cells c1 t1)).alloc (.cells c2 t2)).alloc (.cells c3 t3)).heap[w.heap.size]? = some (.cells c1 t1 (0, 0))) ∧ Aside ((((w.alloc (.cells c1 t1)).alloc (.cells c2 t2)).alloc (.cells c3 t3)).heap[w.heap.size + 1]? = some (.cells c2 t2 (0, 0))) ∧ Aside ((((w.alloc (.cells c1 t1)).alloc (.cells c2 t2)).alloc (.cells c3 t3)).heap[w.heap.size + 1 + 1]? = some (.cells c3 t3 (0, 0))) ∧ Below w.heap.size w (((w.alloc (.cells c1 t1)).alloc (.cells c2 t2)).alloc (.cells c3 t3)) := by
  have s1 := sizeLit w (.cells c1 t1)
  have s2 := sizeLit (w.alloc (.cells c1 t1)) (.cells c2 t2)
  exact ⟨heapOld _ _ _ _ (heapOld _ _ _ _ (heapLit _ _ _ _ rfl)), heapOld _ _ _ _ (heapLit _ _ _ _ (by omega)), heapLit _ _ _ _ (by omega), (((Below.refl _ _).alloc (Nat.le_refl _) _).alloc (by omega) _).alloc (by omega) _⟩
theorem nil_zero {V : World} {B : Option Addr} {m : Nat} {ls : List Int} (h : Reads V .i64 B m ls) : B = none → m = 0 := fun e => (reads_lit0 _ _ _ _ h e).1
theorem set_back (cs : List Num) (k : Nat) (v x : Num) (hk : k < cs.length) (hx : cs.getD k zeroNum = x) : (cs.set k v).set k x = cs := by
  rw [List.set_set, ← hx, List.getD_eq_getElem?_getD, List.getElem?_eq_getElem hk]
  simp
theorem get_set (cs : List Num) (k : Nat) (v : Num) (hk : k < cs.length) : (cs.set k v).getD k zeroNum = v := by
  simp [List.getD_eq_getElem?_getD, hk]
theorem get_set_ne (cs : List Num) (k j : Nat) (v : Num) (h : ¬ j = k) : (cs.set k v).getD j zeroNum = cs.getD j zeroNum := by
  rw [List.getD_eq_getElem?_getD, List.getD_eq_getElem?_getD, List.getElem?_set_ne (Ne.symm h)]
theorem ok_set (a : Arr) (ho : a.ok) (k : Nat) (v : Num) (hkd : a.kd = 3) (hvw : v.wf) (hvo : v.ok) (hvW : v.W = a.W) : ({ a with cs := a.cs.set k v } : Arr).ok := by
  obtain ⟨h1, h2, h3, h4, h5⟩ := ho
  refine ⟨h1, ?_, by simpa using h3, fun j hj => ?_, h5⟩
  · refine ⟨h2.1, h2.2.1, h2.2.2.1, fun h => ?_⟩
    have : a.kd = 5 := h
    omega
  · have hj' : j < a.cs.length := by simpa using hj
    by_cases hjk : j = k
    · subst hjk
      show ((a.cs.set j v).getD j zeroNum).wf ∧ _
      have e := get_set a.cs j v hj'
      refine ⟨by rw [e]; exact hvw, ?_⟩
      show ((a.cs.set j v).getD j zeroNum).ok ∧ ((a.cs.set j v).getD j zeroNum).W = a.W ∧ (a.kd = 5 → _)
      rw [e]
      exact ⟨hvo, hvW, fun h => by omega⟩
    · obtain ⟨q1, q2⟩ := h4 j hj'
      show ((a.cs.set k v).getD j zeroNum).wf ∧ (((a.cs.set k v).getD j zeroNum).ok ∧ ((a.cs.set k v).getD j zeroNum).W = a.W ∧ (a.kd = 5 → ((a.cs.set k v).getD j zeroNum).Lo ≤ a.Burst))
      rw [get_set_ne a.cs k j v hjk]
      exact ⟨q1, q2⟩
theorem cellE_4 (a : Arr) (hkd : a.kd = 3) (x : Num) : a.cellE 4 x = 1 := by
  unfold Arr.cellE
  rw [if_neg (fun h => by have := h.2.1; omega)]
set_option maxRecDepth 100000 in
set_option maxHeartbeats 800000 in
theorem Keep_big (a : Arr)  (A : Option Addr) (n c : Nat) (B : Option Addr) (m d : Nat) (hnc : n ≤ c) (hmd : m ≤ d) (hBd : B = none → d = 0) (x v : Num) (hxw : x.wf) (hvw : v.wf) (w : World) (hR : ReadsNums w A n a.cs) (hS : Reads w .i64 B m a.ls) (r : Int) (hsz : ∀ (A : Option Addr) (c : Nat) (B : Option Addr) (d : Nat) (V : World), ReadsNums V A n a.cs → Reads V .i64 B m a.ls → n ≤ c → m ≤ d → Calls Try.prog 13 #[.agg (a.vals A n c B m d)] V fun e w' => e = .returned (.int .i64 r) ∧ Below V.heap.size V w') (hbig : 50000 < r) :
    Calls Try.prog 6 #[.agg (a.vals A n c B m d), x.v, v.v] w fun e w' => e = .returned (.bool true) ∧ Below w.heap.size w w' := by
  have HSZ := aside (fun V (h : Below w.heap.size w V) => hsz A c B d V (hR.below h) (hS.below h) hnc hmd)
  obtain ⟨HA, HX, HV, hB0⟩ := box_three w (a.vals A n c B m d) #[.int .i64 x.W, .int .u64 x.Hi, .int .u64 x.Lo] #[.int .i64 v.W, .int .u64 v.Hi, .int .u64 v.Lo] 38 45 45
  have HB0 := aside hB0
  have e1 : decide (50000 < r) = true := decide_eq_true hbig
  clear hR hS hsz hxw hvw hbig hB0
  obtain ⟨vW, vh, vl⟩ := v
  obtain ⟨xW, xh, xl⟩ := x
  obtain ⟨nm, kd, aW, aR, aB, cs, ls⟩ := a
  simp only [Num.v, Arr.vals] at *
  go_enter Try.func6, Try.ntmps6
  obtain ⟨⟨a0, a1, a2⟩, a3, a4, a5, a6⟩ := cells7 HA
  go_wp2_with fail
  refine Calls.mono (HSZ.out _ HB0.out) ?_
  rintro e w1 ⟨rfl, hb⟩
  have HB1 := aside (HB0.out.trans (hb.mono HB0.out.size))
  go_wp2_with fail
  refine Calls.mono (lives_any _) ?_
  rintro e w2 ⟨rfl, hb2⟩
  go_wp2
  go_ret
  exact ⟨rfl, HB1.out.trans (hb2.mono HB1.out.size)⟩
set_option maxRecDepth 100000 in
set_option maxHeartbeats 1600000 in
theorem Keep_no (a : Arr) (hw : a.wf) (A : Option Addr) (n c : Nat) (B : Option Addr) (m d : Nat) (hnc : n ≤ c) (hmd : m ≤ d) (hBd : B = none → d = 0) (x v : Num) (hxw : x.wf) (hvw : v.wf) (w : World) (hR : ReadsNums w A n a.cs) (hS : Reads w .i64 B m a.ls) (r : Int) (hsz : ∀ (A : Option Addr) (c : Nat) (B : Option Addr) (d : Nat) (V : World), ReadsNums V A n a.cs → Reads V .i64 B m a.ls → n ≤ c → m ≤ d → Calls Try.prog 13 #[.agg (a.vals A n c B m d)] V fun e w' => e = .returned (.int .i64 r) ∧ Below V.heap.size V w') (hbig : ¬ 50000 < r) (er : Int) (he : a.writeE x v = er) (he0 : ¬ er = 0) (ec : Int) (hc : a.cellE 4 x = ec) (hc0 : ¬ ec = 0) :
    Calls Try.prog 6 #[.agg (a.vals A n c B m d), x.v, v.v] w fun e w' => e = .returned (.bool true) ∧ Below w.heap.size w w' := by
  have HSZ := aside (fun V (h : Below w.heap.size w V) => hsz A c B d V (hR.below h) (hS.below h) hnc hmd)
  obtain ⟨HA, HX, HV, hB0⟩ := box_three w (a.vals A n c B m d) #[.int .i64 x.W, .int .u64 x.Hi, .int .u64 x.Lo] #[.int .i64 v.W, .int .u64 v.Hi, .int .u64 v.Lo] 38 45 45
  have HB0 := aside hB0
  have e1 : decide (50000 < r) = false := decide_eq_false hbig
  have HWE := aside (fun V (h : Below w.heap.size w V) => Write_err a hw A n c B m d hBd x v hxw hvw er he he0 V (hR.below h) (hS.below h))
  have HCE := aside (fun V (h : Below w.heap.size w V) => Count_err a hw A n c B m d hBd x hxw ec hc hc0 V (hR.below h) (hS.below h))
  have he1 : (er == 0) = false := by simp [he0]
  have hc1 : (ec == 0) = false := by simp [hc0]
  clear hR hS hsz hxw hvw hbig hB0
  clear he hc
  obtain ⟨vW, vh, vl⟩ := v
  obtain ⟨xW, xh, xl⟩ := x
  obtain ⟨nm, kd, aW, aR, aB, cs, ls⟩ := a
  simp only [Num.v, Arr.vals, zeroVals] at *
  go_enter Try.func6, Try.ntmps6
  obtain ⟨⟨a0, a1, a2⟩, a3, a4, a5, a6⟩ := cells7 HA
  go_wp2_with fail
  refine Calls.mono (HSZ.out _ HB0.out) ?_
  rintro e w1 ⟨rfl, hb⟩
  replace HA := carryA HA hb
  replace HX := carryA HX hb
  replace HV := carryA HV hb
  clear a0 a1 a2 a3 a4 a5 a6
  obtain ⟨⟨a0, a1, a2⟩, a3, a4, a5, a6⟩ := cells7 HA
  obtain ⟨x0, x1, x2⟩ := cells3 HX
  obtain ⟨v0, v1, v2⟩ := cells3 HV
  have HB1 := aside (HB0.out.trans (hb.mono HB0.out.size))
  clear hb
  go_wp2_with fail
  refine Calls.mono (HWE.out _ HB1.out) ?_
  rintro e w2 ⟨rfl, hb⟩
  replace HA := carryA HA hb
  replace HX := carryA HX hb
  replace HA := oldA HA (.cells #[.string ⟨#[]⟩, .int .u8 0, .int .i64 0, .int .i64 0, .int .i64 0, .slice none 0 0, .slice none 0 0] 38)
  replace HX := oldA HX (.cells #[.string ⟨#[]⟩, .int .u8 0, .int .i64 0, .int .i64 0, .int .i64 0, .slice none 0 0, .slice none 0 0] 38)
  clear v0 v1 v2
  clear a0 a1 a2 a3 a4 a5 a6
  obtain ⟨⟨a0, a1, a2⟩, a3, a4, a5, a6⟩ := cells7 HA
  clear x0 x1 x2
  obtain ⟨x0, x1, x2⟩ := cells3 HX
  have HB2 := aside (HB1.out.trans (hb.mono HB1.out.size))
  have HB3 := aside (HB2.out.alloc HB2.out.size (.cells #[.string ⟨#[]⟩, .int .u8 0, .int .i64 0, .int .i64 0, .int .i64 0, .slice none 0 0, .slice none 0 0] 38))
  clear hb
  go_wp2_with fail
  refine Calls.mono (HCE.out _ HB3.out) ?_
  rintro e w3 ⟨rfl, hb⟩
  have HB4 := aside (HB3.out.trans (hb.mono HB3.out.size))
  have HB5 := aside (HB4.out.alloc HB4.out.size (.cells #[.string ⟨#[]⟩, .int .u8 0, .int .i64 0, .int .i64 0, .int .i64 0, .slice none 0 0, .slice none 0 0] 38))
  clear hb
  go_wp2_with fail
  refine Calls.mono (lives_any _) ?_
  rintro e w4 ⟨rfl, hb⟩
  go_wp2
  go_ret
  exact ⟨rfl, HB5.out.trans (hb.mono HB5.out.size)⟩
end Go.Proofs.Ytanimonhnngfkaa.K

/- The law CellsKeep, where a counter is counted. -/
set_option linter.unusedVariables false
set_option linter.unusedSimpArgs false
namespace Go.Proofs.Ytanimonhnngfkaa.K
open Go.RowKit Go.Proofs.Ytanimonhnngfkaa.Own

theorem undrew {B : Nat} {a V : World} (h : Below B a V.drew) : Below B a V := ⟨h.os, h.tape, h.output, h.size, h.block⟩
set_option maxRecDepth 100000 in
set_option maxHeartbeats 1600000 in
theorem Keep_cnt (a : Arr) (hw : a.wf) (ho : a.ok) (hkd : a.kd = 4) (A : Option Addr) (n c : Nat) (B : Option Addr) (m d : Nat) (hnc : n ≤ c) (hmd : m ≤ d) (hBd : B = none → d = 0) (x v : Num) (hxw : x.wf) (hvw : v.wf) (w : World) (hR : ReadsNums w A n a.cs) (hS : Reads w .i64 B m a.ls) (r : Int) (hsz : ∀ (A : Option Addr) (c : Nat) (B : Option Addr) (d : Nat) (V : World), ReadsNums V A n a.cs → Reads V .i64 B m a.ls → n ≤ c → m ≤ d → Calls Try.prog 13 #[.agg (a.vals A n c B m d)] V fun e w' => e = .returned (.int .i64 r) ∧ Below V.heap.size V w') (hbig : ¬ 50000 < r) (er : Int) (he : a.writeE x v = er) (he0 : ¬ er = 0) (k : Nat) (x'W x'H x'L : Int) (hxx : a.cs.getD k zeroNum = ⟨x'W, x'H, x'L⟩) (hxo : x.ok) (hx0 : x.Hi = 0) (hxk : x.Lo = (k : Int)) (hk : k < n) :
    Calls Try.prog 6 #[.agg (a.vals A n c B m d), x.v, v.v] w fun e w' => e = .returned (.bool true) ∧ Below w.heap.size w w' := by
  have HSZ := aside (fun V (h : Below w.heap.size w V) => hsz A c B d V (hR.below h) (hS.below h) hnc hmd)
  obtain ⟨HA, HX, HV, hB0⟩ := box_three w (a.vals A n c B m d) #[.int .i64 x.W, .int .u64 x.Hi, .int .u64 x.Lo] #[.int .i64 v.W, .int .u64 v.Hi, .int .u64 v.Lo] 38 45 45
  have HB0 := aside hB0
  have e1 : decide (50000 < r) = false := decide_eq_false hbig
  have hkl : k < a.cs.length := by rw [hR.1]; exact hk
  have hnl := hR.1
  have hnn := hR.2.1
  have HWE := aside (fun V (h : Below w.heap.size w V) => Write_err a hw A n c B m d hBd x v hxw hvw er he he0 V (hR.below h) (hS.below h))
  have HCI := aside (fun V (h : Below w.heap.size w V) => Count_in a ho hkd A n c B m d k hBd x'W x'H x'L hxx x hxw hxo hx0 hxk hk V (hR.below h) (hS.below h))
  have HRD := aside (fun V (h : Below w.heap.size w V) => (⟨hR.below h, hS.below h⟩ : ReadsNums V A n a.cs ∧ Reads V .i64 B m a.ls))
  have HGET := aside (numsV_get (a.cs.set k ⟨x'W, x'H, IntKind.u64.wrap (x'L + 1)⟩) k (by simpa using hkl))
  have HSET := aside (numsV_setAll (a.cs.set k ⟨x'W, x'H, IntKind.u64.wrap (x'L + 1)⟩) ⟨x'W, x'H, x'L⟩ k (by simpa using hkl))
  have HBK := aside (set_back a.cs k ⟨x'W, x'H, IntKind.u64.wrap (x'L + 1)⟩ ⟨x'W, x'H, x'L⟩ hkl hxx)
  rw [get_set a.cs k _ hkl] at HGET
  rw [HBK.out] at HSET
  have HSA := aside (fun (V : World) (g : Nat) (B' : Option Addr) hR hS hg hS' => same_calls a A n c B m d (some ⟨g, 0, none⟩) n B' m V hR hS hg hS' hnc hmd (Nat.le_refl _) (Nat.le_refl _))
  have HCV := aside (fun (V : World) (g : Nat) (hg : V.heap[g]? = some (.cells (numsV a.cs).toArray 45 (0, 0))) => (show ReadsNums V (some ⟨g, 0, none⟩) n a.cs by have := readsNums_at hg (by rw [hnl]; exact hnn); rwa [hnl] at this))
  obtain ⟨b, off, hA, hblt, hcells⟩ := hR.2.2 (by omega)
  subst hA
  have hq := hcells k hk
  rw [hxx] at hq
  obtain ⟨hq0, hq1, hq2⟩ := hq
  have HQ := aside (fun (V : World) (h : Below w.heap.size w V) => (⟨(h.cell (p := ⟨b, off + k * 3, none⟩) hblt).trans hq0, (h.cell (p := ⟨b, off + (k * 3 + 1), none⟩) hblt).trans hq1, (h.cell (p := ⟨b, off + (k * 3 + 2), none⟩) hblt).trans hq2⟩ : V.cell? ⟨b, off + k * 3, none⟩ = some (.int .i64 x'W) ∧ V.cell? ⟨b, off + (k * 3 + 1), none⟩ = some (.int .u64 x'H) ∧ V.cell? ⟨b, off + (k * 3 + 2), none⟩ = some (.int .u64 x'L)))
  have HLT := aside hblt
  have hwi : IntKind.i64.wrap (k : Int) = (k : Int) := by rw [IntKind.wrap_i64]; omega
  have hk0 : (0 : Int) ≤ (k : Int) := by omega
  have hk1 : (k : Int) < (n : Int) := by omega
  have he1 : (er == 0) = false := by simp [he0]
  clear hR hS hsz hxw hvw hbig hB0 he hw ho hxo hxx hkl hnl hcells hq0 hq1 hq2 hblt
  have HKN := aside hk
  generalize hcs' : a.cs.set k ⟨x'W, x'H, IntKind.u64.wrap (x'L + 1)⟩ = cs' at *
  obtain ⟨vW, vh, vl⟩ := v
  obtain ⟨xW, xh, xl⟩ := x
  obtain ⟨nm, kd, aW, aR, aB, cs, ls⟩ := a
  simp only [Num.v, Arr.vals, zeroVals] at *
  subst hx0 hxk hkd
  go_enter Try.func6, Try.ntmps6
  obtain ⟨⟨a0, a1, a2⟩, a3, a4, a5, a6⟩ := cells7 HA
  go_wp2_with fail
  refine Calls.mono (HSZ.out _ HB0.out) ?_
  rintro e w1 ⟨rfl, hb⟩
  replace HA := carryA HA hb
  replace HX := carryA HX hb
  replace HV := carryA HV hb
  clear a0 a1 a2 a3 a4 a5 a6
  obtain ⟨⟨a0, a1, a2⟩, a3, a4, a5, a6⟩ := cells7 HA
  obtain ⟨x0, x1, x2⟩ := cells3 HX
  obtain ⟨v0, v1, v2⟩ := cells3 HV
  have HB1 := aside (HB0.out.trans (hb.mono HB0.out.size))
  clear hb
  go_wp2_with fail
  refine Calls.mono (HWE.out _ HB1.out) ?_
  rintro e w2 ⟨rfl, hb⟩
  replace HA := carryA HA hb
  replace HX := carryA HX hb
  replace HA := oldA HA (.cells #[.string ⟨#[]⟩, .int .u8 0, .int .i64 0, .int .i64 0, .int .i64 0, .slice none 0 0, .slice none 0 0] 38)
  replace HX := oldA HX (.cells #[.string ⟨#[]⟩, .int .u8 0, .int .i64 0, .int .i64 0, .int .i64 0, .slice none 0 0, .slice none 0 0] 38)
  clear v0 v1 v2
  clear a0 a1 a2 a3 a4 a5 a6
  obtain ⟨⟨a0, a1, a2⟩, a3, a4, a5, a6⟩ := cells7 HA
  clear x0 x1 x2
  obtain ⟨x0, x1, x2⟩ := cells3 HX
  have HB2 := aside (HB1.out.trans (hb.mono HB1.out.size))
  have HB3 := aside (HB2.out.alloc HB2.out.size (.cells #[.string ⟨#[]⟩, .int .u8 0, .int .i64 0, .int .i64 0, .int .i64 0, .slice none 0 0, .slice none 0 0] 38))
  clear hb
  go_wp2_with fail
  have hwl := (Array.getElem?_eq_some_iff.1 HA.out).1
  refine Calls.mono (HCI.out _ HB3.out) ?_
  rintro e w3 ⟨g, B', rfl, hg0, hg1, hR1, hB1, hb⟩
  have HB4 := aside (HB3.out.trans (hb.mono HB3.out.size))
  replace HA := carryA HA hb
  replace HX := carryA HX hb
  replace HA := oldA HA (.cells #[.string nm, .int .u8 4, .int .i64 aW, .int .i64 aR, .int .i64 aB, .slice (some ⟨g, 0, none⟩) n n, .slice B' m m] 38)
  replace HX := oldA HX (.cells #[.string nm, .int .u8 4, .int .i64 aW, .int .i64 aR, .int .i64 aB, .slice (some ⟨g, 0, none⟩) n n, .slice B' m m] 38)
  have HC := aside (heap_alloc_new w3 (.cells #[.string nm, .int .u8 4, .int .i64 aW, .int .i64 aR, .int .i64 aB, .slice (some ⟨g, 0, none⟩) n n, .slice B' m m] 38))
  have HG := oldA (aside hg1) (.cells #[.string nm, .int .u8 4, .int .i64 aW, .int .i64 aR, .int .i64 aB, .slice (some ⟨g, 0, none⟩) n n, .slice B' m m] 38)
  have HB5 := aside (HB4.out.alloc HB4.out.size (.cells #[.string nm, .int .u8 4, .int .i64 aW, .int .i64 aR, .int .i64 aB, .slice (some ⟨g, 0, none⟩) n n, .slice B' m m] 38))
  have HR1 := aside (hR1.below ((Below.refl w3.heap.size w3).alloc (Nat.le_refl _) (.cells #[.string nm, .int .u8 4, .int .i64 aW, .int .i64 aR, .int .i64 aB, .slice (some ⟨g, 0, none⟩) n n, .slice B' m m] 38)))
  have hgs : g < w3.heap.size := (Array.getElem?_eq_some_iff.1 hg1).1
  have hws : w.heap.size ≤ g := by have := HB3.out.size; omega
  clear a0 a1 a2 a3 a4 a5 a6
  obtain ⟨⟨a0, a1, a2⟩, a3, a4, a5, a6⟩ := cells7 HA
  clear x0 x1 x2
  obtain ⟨x0, x1, x2⟩ := cells3 HX
  obtain ⟨⟨c0, c1, c2⟩, c3, c4, c5, c6⟩ := cells7 HC
  obtain ⟨q0, q1, q2⟩ := HQ.out _ HB5.out
  have fg := frozenOf HG.out
  have g0 : (w3.alloc (.cells #[.string nm, .int .u8 4, .int .i64 aW, .int .i64 aR, .int .i64 aB, .slice (some ⟨g, 0, none⟩) n n, .slice B' m m] 38)).cell? ⟨g, k * 3, none⟩ = some (.int .i64 x'W) := (cellOf HG.out _).trans (by rw [List.getElem?_toArray]; exact HGET.out.1)
  have g1 : (w3.alloc (.cells #[.string nm, .int .u8 4, .int .i64 aW, .int .i64 aR, .int .i64 aB, .slice (some ⟨g, 0, none⟩) n n, .slice B' m m] 38)).cell? ⟨g, k * 3 + 1, none⟩ = some (.int .u64 x'H) := (cellOf HG.out _).trans (by rw [List.getElem?_toArray]; exact HGET.out.2.1)
  have g2 : (w3.alloc (.cells #[.string nm, .int .u8 4, .int .i64 aW, .int .i64 aR, .int .i64 aB, .slice (some ⟨g, 0, none⟩) n n, .slice B' m m] 38)).cell? ⟨g, k * 3 + 2, none⟩ = some (.int .u64 (IntKind.u64.wrap (x'L + 1))) := (cellOf HG.out _).trans (by rw [List.getElem?_toArray]; exact HGET.out.2.2)
  rw [← Nat.add_assoc] at q1 q2
  clear hb hg1 hR1 HWE HCI HSZ HV
  go_wp2_with fail
  go_quiet (fail)
  clear q0 q1 q2 g0 g1 g2 fg
  have hdd := below_drewN (Below.refl (w3.alloc (.cells #[.string nm, .int .u8 4, .int .i64 aW, .int .i64 aR, .int .i64 aB, .slice (some ⟨g, 0, none⟩) n n, .slice B' m m] 38)).heap.size (w3.alloc (.cells #[.string nm, .int .u8 4, .int .i64 aW, .int .i64 aR, .int .i64 aB, .slice (some ⟨g, 0, none⟩) n n, .slice B' m m] 38))) nq
  replace HA := carryA HA hdd
  replace HX := carryA HX hdd
  replace HC := carryA HC hdd
  replace HG := carryA HG hdd
  replace HR1 := aside (HR1.out.below hdd)
  replace HB5 := aside (HB5.out.trans (hdd.mono HB5.out.size))
  clear hdd a0 a1 a2 a3 a4 a5 a6 x0 x1 x2 c0 c1 c2 c3 c4 c5 c6
  generalize (w3.alloc (.cells #[.string nm, .int .u8 4, .int .i64 aW, .int .i64 aR, .int .i64 aB, .slice (some ⟨g, 0, none⟩) n n, .slice B' m m] 38)).drewN nq = V at *
  have hdd := (Below.refl V.heap.size V).drew
  replace HA := carryA HA hdd
  replace HX := carryA HX hdd
  replace HC := carryA HC hdd
  replace HG := carryA HG hdd
  replace HR1 := aside (HR1.out.below hdd)
  replace HB5 := aside (HB5.out.trans (hdd.mono HB5.out.size))
  clear hdd
  obtain ⟨⟨a0, a1, a2⟩, a3, a4, a5, a6⟩ := cells7 HA
  obtain ⟨x0, x1, x2⟩ := cells3 HX
  obtain ⟨⟨c0, c1, c2⟩, c3, c4, c5, c6⟩ := cells7 HC
  obtain ⟨q0, q1, q2⟩ := HQ.out _ HB5.out
  rw [← Nat.add_assoc] at q1 q2
  have fg := frozenOf HG.out
  have g0 : V.drew.cell? ⟨g, k * 3, none⟩ = some (.int .i64 x'W) := (cellOf HG.out _).trans (by rw [List.getElem?_toArray]; exact HGET.out.1)
  have g1 : V.drew.cell? ⟨g, k * 3 + 1, none⟩ = some (.int .u64 x'H) := (cellOf HG.out _).trans (by rw [List.getElem?_toArray]; exact HGET.out.2.1)
  have g2 : V.drew.cell? ⟨g, k * 3 + 2, none⟩ = some (.int .u64 (IntKind.u64.wrap (x'L + 1))) := (cellOf HG.out _).trans (by rw [List.getElem?_toArray]; exact HGET.out.2.2)
  have g0' : V.cell? ⟨g, k * 3, none⟩ = some (.int .i64 x'W) := g0
  have g1' : V.cell? ⟨g, k * 3 + 1, none⟩ = some (.int .u64 x'H) := g1
  have g2' : V.cell? ⟨g, k * 3 + 2, none⟩ = some (.int .u64 (IntKind.u64.wrap (x'L + 1))) := g2
  have fg' : ∀ i, V.frozen? ⟨g, i, none⟩ = false := fg
  go_wp2_with fail
  go_region
  have n1 : g ≠ w.heap.size := by omega
  have n3 : g ≠ w3.heap.size := by omega
  have hG2 := setCell_heap (setCell_heap (setCell_heap (w := V) HG.out (k * 3) (.int .i64 x'W)) (k * 3 + 1) (.int .u64 x'H)) (k * 3 + 2) (.int .u64 x'L)
  rw [List.setIfInBounds_toArray, List.setIfInBounds_toArray, List.setIfInBounds_toArray, HSET.out] at hG2
  have hA2 := setOther (setOther (setOther (w := V) HA.out (p := ⟨g, k * 3, none⟩) (v := .int .i64 x'W) n1) (p := ⟨g, k * 3 + 1, none⟩) (v := .int .u64 x'H) n1) (p := ⟨g, k * 3 + 2, none⟩) (v := .int .u64 x'L) n1
  have hC2 := setOther (setOther (setOther (w := V) HC.out (p := ⟨g, k * 3, none⟩) (v := .int .i64 x'W) n3) (p := ⟨g, k * 3 + 1, none⟩) (v := .int .u64 x'H) n3) (p := ⟨g, k * 3 + 2, none⟩) (v := .int .u64 x'L) n3
  have hR2 : Reads (((V.setCell ⟨g, k * 3, none⟩ (.int .i64 x'W)).setCell ⟨g, k * 3 + 1, none⟩ (.int .u64 x'H)).setCell ⟨g, k * 3 + 2, none⟩ (.int .u64 x'L)) .i64 B' m ls := by
    refine Reads.foot (w := V) (F := fun i => i = g) HR1.out ((((Foot.refl (fun i => i = g) V).setCell (p := ⟨g, k * 3, none⟩) (.inl rfl) _).setCell (p := ⟨g, k * 3 + 1, none⟩) (.inl rfl) _).setCell (p := ⟨g, k * 3 + 2, none⟩) (.inl rfl) _) fun ad e h0 => ?_
    rcases hB1 with h | ⟨b, h, h5⟩
    · rw [h] at e; cases e
    · rw [h] at e; cases e; show ¬ b = g; omega
  have HB6 : Aside (Below w.heap.size w (((V.setCell ⟨g, k * 3, none⟩ (.int .i64 x'W)).setCell ⟨g, k * 3 + 1, none⟩ (.int .u64 x'H)).setCell ⟨g, k * 3 + 2, none⟩ (.int .u64 x'L)).drew) :=
    (((Below.setCell (w := V) (undrew HB5.out) (p := ⟨g, k * 3, none⟩) hws _).setCell (p := ⟨g, k * 3 + 1, none⟩) hws _).setCell (p := ⟨g, k * 3 + 2, none⟩) hws _).drew
  clear HA HC HG HR1
  have HA := aside hA2
  have HC := aside hC2
  have HG := aside hG2
  have HR1 := aside hR2
  have hdd := (Below.refl (((V.setCell ⟨g, k * 3, none⟩ (.int .i64 x'W)).setCell ⟨g, k * 3 + 1, none⟩ (.int .u64 x'H)).setCell ⟨g, k * 3 + 2, none⟩ (.int .u64 x'L)).heap.size (((V.setCell ⟨g, k * 3, none⟩ (.int .i64 x'W)).setCell ⟨g, k * 3 + 1, none⟩ (.int .u64 x'H)).setCell ⟨g, k * 3 + 2, none⟩ (.int .u64 x'L))).drew
  replace HA := carryA HA hdd
  replace HC := carryA HC hdd
  replace HG := carryA HG hdd
  replace HR1 := aside (HR1.out.below hdd)
  clear hdd hA2 hC2 hG2 hR2 a0 a1 a2 a3 a4 a5 a6 x0 x1 x2 c0 c1 c2 c3 c4 c5 c6 g0 g1 g2 g0' g1' g2' fg fg' q0 q1 q2 HX HB5
  generalize (((V.setCell ⟨g, k * 3, none⟩ (.int .i64 x'W)).setCell ⟨g, k * 3 + 1, none⟩ (.int .u64 x'H)).setCell ⟨g, k * 3 + 2, none⟩ (.int .u64 x'L)).drew = U at *
  obtain ⟨⟨a0, a1, a2⟩, a3, a4, a5, a6⟩ := cells7 HA
  obtain ⟨⟨c0, c1, c2⟩, c3, c4, c5, c6⟩ := cells7 HC
  obtain ⟨s1, s2⟩ := HRD.out _ HB6.out
  go_wp2_with fail
  refine Calls.mono (HSA.out _ g B' s1 s2 (HCV.out _ g HG.out) HR1.out) ?_
  rintro e w5 ⟨rfl, hb⟩
  have HB7 := aside (HB6.out.trans (hb.mono HB6.out.size))
  go_wp2_with fail
  refine Calls.mono (lives_any _) ?_
  rintro e w6 ⟨rfl, hb6⟩
  go_wp2
  go_ret
  exact ⟨rfl, HB7.out.trans (hb6.mono HB7.out.size)⟩
end Go.Proofs.Ytanimonhnngfkaa.K

/- The law CellsKeep, where a register is written. -/
set_option linter.unusedVariables false
set_option linter.unusedSimpArgs false
namespace Go.Proofs.Ytanimonhnngfkaa.K
open Go.RowKit Go.Proofs.Ytanimonhnngfkaa.Own

theorem row_one (a : Arr) (ho : a.ok) (V : World) (q : Nat) (A : Option Addr) (n c : Nat) (B : Option Addr) (m d : Nat) (hq : V.heap[q]? = some (.cells (a.vals A n c B m d) 38 (0, 0))) (hR : ReadsNums V A n a.cs) (hS : Reads V .i64 B m a.ls) (hBd : B = none → d = 0) : RowAt V (some ⟨q, 0, none⟩) 1 [a] := by
  refine ⟨rfl, by omega, fun _ => ⟨q, 0, rfl, (Array.getElem?_eq_some_iff.1 hq).1, fun j hj => ?_⟩⟩
  obtain rfl : j = 0 := by omega
  refine ⟨A, n, c, B, m, d, fun i v hv => ?_, hR, hS, hBd⟩
  rw [cellOf hq, Nat.zero_mul, Nat.zero_add]
  exact hv
theorem ok_one (a : Arr) (ho : a.ok) : ∀ j, j < 1 → ([a].getD j zeroArr).ok := by
  intro j hj
  obtain rfl : j = 0 := by omega
  exact ho
set_option maxRecDepth 100000 in
set_option maxHeartbeats 3200000 in
theorem Keep_wr (a : Arr) (hw : a.wf) (ho : a.ok) (hkd : a.kd = 3) (A : Option Addr) (n c : Nat) (B : Option Addr) (m d : Nat) (hnc : n ≤ c) (hmd : m ≤ d) (hBd : B = none → d = 0) (x v : Num) (hxw : x.wf) (hvw : v.wf) (w : World) (hR : ReadsNums w A n a.cs) (hS : Reads w .i64 B m a.ls) (r : Int) (hsz : ∀ (A : Option Addr) (c : Nat) (B : Option Addr) (d : Nat) (V : World), ReadsNums V A n a.cs → Reads V .i64 B m a.ls → n ≤ c → m ≤ d → Calls Try.prog 13 #[.agg (a.vals A n c B m d)] V fun e w' => e = .returned (.int .i64 r) ∧ Below V.heap.size V w') (hbig : ¬ 50000 < r) (k : Nat) (x'W x'H x'L : Int) (hxx : a.cs.getD k zeroNum = ⟨x'W, x'H, x'L⟩) (hxo : x.ok) (hx0 : x.Hi = 0) (hxk : x.Lo = (k : Int)) (hk : k < n) (hvo : v.ok) (hvW : v.W = a.W) :
    Calls Try.prog 6 #[.agg (a.vals A n c B m d), x.v, v.v] w fun e w' => e = .returned (.bool true) ∧ Below w.heap.size w w' := by
  have HSZ := aside (fun V (h : Below w.heap.size w V) => hsz A c B d V (hR.below h) (hS.below h) hnc hmd)
  obtain ⟨HA, HX, HV, hB0⟩ := box_three w (a.vals A n c B m d) #[.int .i64 x.W, .int .u64 x.Hi, .int .u64 x.Lo] #[.int .i64 v.W, .int .u64 v.Hi, .int .u64 v.Lo] 38 45 45
  have HB0 := aside hB0
  have e1 : decide (50000 < r) = false := decide_eq_false hbig
  have hkl : k < a.cs.length := by rw [hR.1]; exact hk
  have hnl := hR.1
  have hnn := hR.2.1
  have hbo := ok_set a ho k v hkd hvw hvo hvW
  have hcx := ho.cells k hkl
  rw [hxx] at hcx
  have hcv := get_set a.cs k v hkl
  have hbk := set_back a.cs k v ⟨x'W, x'H, x'L⟩ hkl hxx
  have hlen : (a.cs.set k v).length = n := by simpa using hnl
  have HW1 := aside (fun V (h : Below w.heap.size w V) => Write_in a ho hkd A n c B m d k hBd x v hxw hxo hx0 hxk hk hvw hvo hvW V (hR.below h) (hS.below h))
  have HRA := aside (fun V (h : Below w.heap.size w V) => Read_in a ho hkd A n c B m d k hBd x'W x'H x'L hxx x hxw hxo hx0 hxk hk V (hR.below h) (hS.below h))
  have HCE := aside (fun V (h : Below w.heap.size w V) => Count_err a hw A n c B m d hBd x hxw 1 (cellE_4 a hkd x) (by decide) V (hR.below h) (hS.below h))
  have HRD := aside (fun V (h : Below w.heap.size w V) => (⟨hR.below h, hS.below h⟩ : ReadsNums V A n a.cs ∧ Reads V .i64 B m a.ls))
  have HRB := aside (fun (V : World) (g : Nat) (B' : Option Addr) (hg : ReadsNums V (some ⟨g, 0, none⟩) n (a.cs.set k v)) (hs : Reads V .i64 B' m a.ls) => Read_in { a with cs := a.cs.set k v } hbo hkd (some ⟨g, 0, none⟩) n n B' m m k (nil_zero hs) v.W v.Hi v.Lo hcv x hxw hxo hx0 hxk hk V hg hs)
  have HWB := aside (fun (V : World) (g : Nat) (B' : Option Addr) (hg : ReadsNums V (some ⟨g, 0, none⟩) n (a.cs.set k v)) (hs : Reads V .i64 B' m a.ls) => Write_in { a with cs := a.cs.set k v } hbo hkd (some ⟨g, 0, none⟩) n n B' m m k (nil_zero hs) x ⟨x'W, x'H, x'L⟩ hxw hxo hx0 hxk hk hcx.1 hcx.2.1 hcx.2.2.1 V hg hs)
  have HCB := aside (fun (V : World) (q g : Nat) (B' : Option Addr) (hq : V.heap[q]? = some (.cells (({ a with cs := a.cs.set k v } : Arr).vals (some ⟨g, 0, none⟩) n n B' m m) 38 (0, 0))) (hg : ReadsNums V (some ⟨g, 0, none⟩) n (a.cs.set k v)) (hs : Reads V .i64 B' m a.ls) => Check_ok [{ a with cs := a.cs.set k v }] (ok_one _ hbo) (some ⟨q, 0, none⟩) 1 1 V (row_one _ hbo V q (some ⟨g, 0, none⟩) n n B' m m hq hg hs (nil_zero hs)))
  have HSA := aside (fun (V : World) (g : Nat) (B' : Option Addr) hR hS hg hS' => same_calls a A n c B m d (some ⟨g, 0, none⟩) n B' m V hR hS hg hS' hnc hmd (Nat.le_refl _) (Nat.le_refl _))
  have HCW := aside (fun (V : World) (g : Nat) (hg : V.heap[g]? = some (.cells (numsV (a.cs.set k v)).toArray 45 (0, 0))) => (show ReadsNums V (some ⟨g, 0, none⟩) n (a.cs.set k v) by have := readsNums_at hg (by rw [hlen]; exact hnn); rwa [hlen] at this))
  have HCV := aside (fun (V : World) (g : Nat) (hg : V.heap[g]? = some (.cells (numsV a.cs).toArray 45 (0, 0))) => (show ReadsNums V (some ⟨g, 0, none⟩) n a.cs by have := readsNums_at hg (by rw [hnl]; exact hnn); rwa [hnl] at this))
  have HBK := aside hbk
  clear hR hS hsz hxw hvw hbig hB0 hw ho hxo hxx hkl hnl hbo hcx hcv hbk hlen hvo
  generalize hcs' : a.cs.set k v = cs' at *
  clear hcs'
  obtain ⟨vW, vh, vl⟩ := v
  obtain ⟨xW, xh, xl⟩ := x
  obtain ⟨nm, kd, aW, aR, aB, cs, ls⟩ := a
  simp only [Num.v, Arr.vals, zeroVals] at *
  subst hx0 hxk hkd hvW
  go_enter Try.func6, Try.ntmps6
  obtain ⟨⟨a0, a1, a2⟩, a3, a4, a5, a6⟩ := cells7 HA
  go_wp2_with fail
  refine Calls.mono (HSZ.out _ HB0.out) ?_
  rintro e w1 ⟨rfl, hb⟩
  replace HA := carryA HA hb
  replace HX := carryA HX hb
  replace HV := carryA HV hb
  clear a0 a1 a2 a3 a4 a5 a6
  obtain ⟨⟨a0, a1, a2⟩, a3, a4, a5, a6⟩ := cells7 HA
  obtain ⟨x0, x1, x2⟩ := cells3 HX
  obtain ⟨v0, v1, v2⟩ := cells3 HV
  have HB := aside (HB0.out.trans (hb.mono HB0.out.size))
  clear hb
  go_wp2_with fail
  refine Calls.mono (HW1.out _ HB.out) ?_
  rintro e w2 ⟨g, B', rfl, hg0, hg1, hR1, hB1, hb⟩
  replace HA := carryA HA hb
  replace HX := carryA HX hb
  replace HV := carryA HV hb
  replace HA := oldA HA (.cells #[.string nm, .int .u8 3, .int .i64 vW, .int .i64 aR, .int .i64 aB, .slice (some ⟨g, 0, none⟩) n n, .slice B' m m] 38)
  replace HX := oldA HX (.cells #[.string nm, .int .u8 3, .int .i64 vW, .int .i64 aR, .int .i64 aB, .slice (some ⟨g, 0, none⟩) n n, .slice B' m m] 38)
  replace HV := oldA HV (.cells #[.string nm, .int .u8 3, .int .i64 vW, .int .i64 aR, .int .i64 aB, .slice (some ⟨g, 0, none⟩) n n, .slice B' m m] 38)
  have HQ := aside (heap_alloc_new w2 (.cells #[.string nm, .int .u8 3, .int .i64 vW, .int .i64 aR, .int .i64 aB, .slice (some ⟨g, 0, none⟩) n n, .slice B' m m] 38))
  have HG := oldA (aside hg1) (.cells #[.string nm, .int .u8 3, .int .i64 vW, .int .i64 aR, .int .i64 aB, .slice (some ⟨g, 0, none⟩) n n, .slice B' m m] 38)
  have HR1 := aside (hR1.below ((Below.refl w2.heap.size w2).alloc (Nat.le_refl _) (.cells #[.string nm, .int .u8 3, .int .i64 vW, .int .i64 aR, .int .i64 aB, .slice (some ⟨g, 0, none⟩) n n, .slice B' m m] 38)))
  replace HB := aside (HB.out.trans (hb.mono HB.out.size))
  replace HB := aside (HB.out.alloc HB.out.size (.cells #[.string nm, .int .u8 3, .int .i64 vW, .int .i64 aR, .int .i64 aB, .slice (some ⟨g, 0, none⟩) n n, .slice B' m m] 38))
  clear hb hg1 hR1 hB1 HW1
  clear a0 a1 a2 a3 a4 a5 a6
  obtain ⟨⟨a0, a1, a2⟩, a3, a4, a5, a6⟩ := cells7 HA
  clear x0 x1 x2
  obtain ⟨x0, x1, x2⟩ := cells3 HX
  clear v0 v1 v2
  obtain ⟨v0, v1, v2⟩ := cells3 HV
  obtain ⟨⟨q0, q1, q2⟩, q3, q4, q5, q6⟩ := cells7 HQ
  go_wp2_with fail
  refine Calls.mono (HRB.out _ g B' (HCW.out _ g HG.out) HR1.out) ?_
  rintro e w3 ⟨rfl, hb⟩
  replace HA := carryA HA hb
  replace HX := carryA HX hb
  replace HV := carryA HV hb
  replace HQ := carryA HQ hb
  replace HG := carryA HG hb
  replace HR1 := aside (HR1.out.below hb)
  replace HB := aside (HB.out.trans (hb.mono HB.out.size))
  replace HA := oldA HA (.cells #[.int .i64 vW, .int .u64 vh, .int .u64 vl] 45)
  replace HX := oldA HX (.cells #[.int .i64 vW, .int .u64 vh, .int .u64 vl] 45)
  replace HV := oldA HV (.cells #[.int .i64 vW, .int .u64 vh, .int .u64 vl] 45)
  replace HQ := oldA HQ (.cells #[.int .i64 vW, .int .u64 vh, .int .u64 vl] 45)
  replace HG := oldA HG (.cells #[.int .i64 vW, .int .u64 vh, .int .u64 vl] 45)
  replace HR1 := aside (HR1.out.below ((Below.refl w3.heap.size w3).alloc (Nat.le_refl _) (.cells #[.int .i64 vW, .int .u64 vh, .int .u64 vl] 45)))
  replace HB := aside (HB.out.alloc HB.out.size (.cells #[.int .i64 vW, .int .u64 vh, .int .u64 vl] 45))
  have HC := aside (heap_alloc_new w3 (.cells #[.int .i64 vW, .int .u64 vh, .int .u64 vl] 45))
  clear hb
  clear a0 a1 a2 a3 a4 a5 a6
  obtain ⟨⟨a0, a1, a2⟩, a3, a4, a5, a6⟩ := cells7 HA
  clear x0 x1 x2
  obtain ⟨x0, x1, x2⟩ := cells3 HX
  clear v0 v1 v2
  obtain ⟨v0, v1, v2⟩ := cells3 HV
  clear q0 q1 q2 q3 q4 q5 q6
  obtain ⟨⟨q0, q1, q2⟩, q3, q4, q5, q6⟩ := cells7 HQ
  obtain ⟨c0, c1, c2⟩ := cells3 HC
  have hbn := (Below.refl (w3.alloc (.cells #[.int .i64 vW, .int .u64 vh, .int .u64 vl] 45)).heap.size (w3.alloc (.cells #[.int .i64 vW, .int .u64 vh, .int .u64 vl] 45))).alloc (Nat.le_refl _) (.cells #[.string nm, .int .u8 3, .int .i64 vW, .int .i64 aR, .int .i64 aB, .slice (some ⟨g, 0, none⟩) n n, .slice B' m m] 38)
  have HRX := aside (HR1.out.below hbn)
  have HGX := oldA HG (.cells #[.string nm, .int .u8 3, .int .i64 vW, .int .i64 aR, .int .i64 aB, .slice (some ⟨g, 0, none⟩) n n, .slice B' m m] 38)
  go_wp2_with fail
  refine Calls.mono (HCB.out _ _ g B' (heapLit _ _ _ _ (by rw [sizeLit])) (HCW.out _ g HGX.out) HRX.out) ?_
  rintro e w4 ⟨rfl, hb⟩
  replace HA := oldA HA (.cells #[.string nm, .int .u8 3, .int .i64 vW, .int .i64 aR, .int .i64 aB, .slice (some ⟨g, 0, none⟩) n n, .slice B' m m] 38)
  replace HX := oldA HX (.cells #[.string nm, .int .u8 3, .int .i64 vW, .int .i64 aR, .int .i64 aB, .slice (some ⟨g, 0, none⟩) n n, .slice B' m m] 38)
  replace HQ := oldA HQ (.cells #[.string nm, .int .u8 3, .int .i64 vW, .int .i64 aR, .int .i64 aB, .slice (some ⟨g, 0, none⟩) n n, .slice B' m m] 38)
  replace HG := oldA HG (.cells #[.string nm, .int .u8 3, .int .i64 vW, .int .i64 aR, .int .i64 aB, .slice (some ⟨g, 0, none⟩) n n, .slice B' m m] 38)
  replace HR1 := HRX
  replace HB := aside (HB.out.alloc HB.out.size (.cells #[.string nm, .int .u8 3, .int .i64 vW, .int .i64 aR, .int .i64 aB, .slice (some ⟨g, 0, none⟩) n n, .slice B' m m] 38))
  replace HA := carryA HA hb
  replace HX := carryA HX hb
  replace HQ := carryA HQ hb
  replace HG := carryA HG hb
  replace HR1 := aside (HR1.out.below hb)
  replace HB := aside (HB.out.trans (hb.mono HB.out.size))
  clear hb hbn HRX HGX HV v0 v1 v2 HC c0 c1 c2
  clear a0 a1 a2 a3 a4 a5 a6
  obtain ⟨⟨a0, a1, a2⟩, a3, a4, a5, a6⟩ := cells7 HA
  clear x0 x1 x2
  obtain ⟨x0, x1, x2⟩ := cells3 HX
  clear q0 q1 q2 q3 q4 q5 q6
  obtain ⟨⟨q0, q1, q2⟩, q3, q4, q5, q6⟩ := cells7 HQ
  go_wp2_with fail
  refine Calls.mono (HRA.out _ HB.out) ?_
  rintro e w5 ⟨rfl, hb⟩
  replace HA := carryA HA hb
  replace HX := carryA HX hb
  replace HQ := carryA HQ hb
  replace HG := carryA HG hb
  replace HR1 := aside (HR1.out.below hb)
  replace HB := aside (HB.out.trans (hb.mono HB.out.size))
  replace HA := oldA HA (.cells #[.int .i64 x'W, .int .u64 x'H, .int .u64 x'L] 45)
  replace HX := oldA HX (.cells #[.int .i64 x'W, .int .u64 x'H, .int .u64 x'L] 45)
  replace HQ := oldA HQ (.cells #[.int .i64 x'W, .int .u64 x'H, .int .u64 x'L] 45)
  replace HG := oldA HG (.cells #[.int .i64 x'W, .int .u64 x'H, .int .u64 x'L] 45)
  replace HR1 := aside (HR1.out.below ((Below.refl w5.heap.size w5).alloc (Nat.le_refl _) (.cells #[.int .i64 x'W, .int .u64 x'H, .int .u64 x'L] 45)))
  replace HB := aside (HB.out.alloc HB.out.size (.cells #[.int .i64 x'W, .int .u64 x'H, .int .u64 x'L] 45))
  have HD := aside (heap_alloc_new w5 (.cells #[.int .i64 x'W, .int .u64 x'H, .int .u64 x'L] 45))
  clear hb
  clear a0 a1 a2 a3 a4 a5 a6
  obtain ⟨⟨a0, a1, a2⟩, a3, a4, a5, a6⟩ := cells7 HA
  clear x0 x1 x2
  obtain ⟨x0, x1, x2⟩ := cells3 HX
  clear q0 q1 q2 q3 q4 q5 q6
  obtain ⟨⟨q0, q1, q2⟩, q3, q4, q5, q6⟩ := cells7 HQ
  obtain ⟨d0, d1, d2⟩ := cells3 HD
  go_wp2_with fail
  refine Calls.mono (HWB.out _ g B' (HCW.out _ g HG.out) HR1.out) ?_
  rintro e w6 ⟨g2, B2, rfl, hg20, hg21, hR2, hB2, hb⟩
  rw [HBK.out] at hg21
  replace HA := carryA HA hb
  replace HX := carryA HX hb
  replace HA := oldA HA (.cells #[.string nm, .int .u8 3, .int .i64 vW, .int .i64 aR, .int .i64 aB, .slice (some ⟨g2, 0, none⟩) n n, .slice B2 m m] 38)
  replace HX := oldA HX (.cells #[.string nm, .int .u8 3, .int .i64 vW, .int .i64 aR, .int .i64 aB, .slice (some ⟨g2, 0, none⟩) n n, .slice B2 m m] 38)
  replace HB := aside (HB.out.trans (hb.mono HB.out.size))
  replace HB := aside (HB.out.alloc HB.out.size (.cells #[.string nm, .int .u8 3, .int .i64 vW, .int .i64 aR, .int .i64 aB, .slice (some ⟨g2, 0, none⟩) n n, .slice B2 m m] 38))
  have HG2 := oldA (aside hg21) (.cells #[.string nm, .int .u8 3, .int .i64 vW, .int .i64 aR, .int .i64 aB, .slice (some ⟨g2, 0, none⟩) n n, .slice B2 m m] 38)
  have HR2 := aside (hR2.below ((Below.refl w6.heap.size w6).alloc (Nat.le_refl _) (.cells #[.string nm, .int .u8 3, .int .i64 vW, .int .i64 aR, .int .i64 aB, .slice (some ⟨g2, 0, none⟩) n n, .slice B2 m m] 38)))
  have HE := aside (heap_alloc_new w6 (.cells #[.string nm, .int .u8 3, .int .i64 vW, .int .i64 aR, .int .i64 aB, .slice (some ⟨g2, 0, none⟩) n n, .slice B2 m m] 38))
  clear hb hg21 hR2 HG HR1 HQ q0 q1 q2 q3 q4 q5 q6 HD d0 d1 d2
  clear a0 a1 a2 a3 a4 a5 a6
  obtain ⟨⟨a0, a1, a2⟩, a3, a4, a5, a6⟩ := cells7 HA
  clear x0 x1 x2
  obtain ⟨x0, x1, x2⟩ := cells3 HX
  obtain ⟨⟨y0, y1, y2⟩, y3, y4, y5, y6⟩ := cells7 HE
  obtain ⟨s1, s2⟩ := HRD.out _ HB.out
  go_wp2_with fail
  refine Calls.mono (HSA.out _ g2 B2 s1 s2 (HCV.out _ g2 HG2.out) HR2.out) ?_
  rintro e w7 ⟨rfl, hb⟩
  replace HA := carryA HA hb
  replace HX := carryA HX hb
  replace HB := aside (HB.out.trans (hb.mono HB.out.size))
  clear hb HG2 HR2 HE  s1 s2
  clear a0 a1 a2 a3 a4 a5 a6
  obtain ⟨⟨a0, a1, a2⟩, a3, a4, a5, a6⟩ := cells7 HA
  clear x0 x1 x2
  obtain ⟨x0, x1, x2⟩ := cells3 HX
  go_wp2_with fail
  refine Calls.mono (HCE.out _ HB.out) ?_
  rintro e w8 ⟨rfl, hb⟩
  replace HB := aside (HB.out.trans (hb.mono HB.out.size))
  replace HB := aside (HB.out.alloc HB.out.size (.cells #[.string ⟨#[]⟩, .int .u8 0, .int .i64 0, .int .i64 0, .int .i64 0, .slice none 0 0, .slice none 0 0] 38))
  clear hb
  go_wp2_with fail
  refine Calls.mono (lives_any _) ?_
  rintro e w9 ⟨rfl, hb⟩
  go_wp2
  go_ret
  exact ⟨rfl, HB.out.trans (hb.mono HB.out.size)⟩
end Go.Proofs.Ytanimonhnngfkaa.K

/- The law CellsKeep, put together; an array, as it comes in. -/
set_option linter.unusedVariables false
set_option linter.unusedSimpArgs false
namespace Go.Proofs.Ytanimonhnngfkaa.Own
open Go.RowKit
section
variable {H : Type} {enc : TypeId × Value → H} {w : World} {cs : List Value}
set_option maxRecDepth 100000 in
theorem Came.arr (h : Came enc Try.prog w 38 cs) : ∃ (a : Arr) (A : Option Addr) (n c : Nat) (B : Option Addr) (m d : Nat), cs = (a.vals A n c B m d).toList ∧ n ≤ c ∧ m ≤ d ∧ (B = none → d = 0) ∧ ReadsNums w A n a.cs ∧ Reads w .i64 B m a.ls ∧ a.wf := by
  obtain ⟨hl, hf⟩ := h.struct Try.underlying38
  have h7 : Try.prog.cellsOf 38 = 7 := by kernel_rfl
  have k9 : Try.prog.cellsOf 9 = 1 := by kernel_rfl
  have k25 : Try.prog.cellsOf 25 = 1 := by kernel_rfl
  have k3 : Try.prog.cellsOf 3 = 1 := by kernel_rfl
  have k30 : Try.prog.cellsOf 30 = 1 := by kernel_rfl
  have k36 : Try.prog.cellsOf 36 = 1 := by kernel_rfl
  rw [h7] at hl
  have f0 : Came enc Try.prog w 9 ((cs.drop 0).take (Try.prog.cellsOf 9)) := hf 0 _ rfl
  have f1 : Came enc Try.prog w 25 ((cs.drop 1).take (Try.prog.cellsOf 25)) := hf 1 _ rfl
  have f2 : Came enc Try.prog w 3 ((cs.drop 2).take (Try.prog.cellsOf 3)) := hf 2 _ rfl
  have f3 : Came enc Try.prog w 3 ((cs.drop 3).take (Try.prog.cellsOf 3)) := hf 3 _ rfl
  have f4 : Came enc Try.prog w 3 ((cs.drop 4).take (Try.prog.cellsOf 3)) := hf 4 _ rfl
  have f5 : Came enc Try.prog w 30 ((cs.drop 5).take (Try.prog.cellsOf 30)) := hf 5 _ rfl
  have f6 : Came enc Try.prog w 36 ((cs.drop 6).take (Try.prog.cellsOf 36)) := hf 6 _ rfl
  clear hf
  match cs, hl with
  | [v0, v1, v2, v3, v4, v5, v6], _ =>
    rw [k9] at f0
    rw [k25] at f1
    rw [k3] at f2 f3 f4
    rw [k30] at f5
    rw [k36] at f6
    obtain ⟨s0, e0, _⟩ := f0.string Try.underlying9
    obtain ⟨s1, e1, _⟩ := f1.int Try.underlying25
    obtain ⟨s2, e2, _⟩ := f2.int Try.underlying3
    obtain ⟨s3, e3, _⟩ := f3.int Try.underlying3
    obtain ⟨s4, e4, _⟩ := f4.int Try.underlying3
    obtain ⟨A, n, c, xs, e5, hnc, _, _, hR, hwf⟩ := f5.nums Try.underlying30
    obtain ⟨B, m, d, ls, e6, hmd, _, _, hS, _⟩ := f6.ints Try.underlying36 Try.underlying3 (by kernel_rfl)
    obtain ⟨B', m', d', e6', _, _, _, _, hB, _⟩ := f6.slice Try.underlying36
    rw [e6] at e6'
    simp at e6'
    obtain ⟨rfl, rfl, rfl⟩ := e6'
    simp at e0 e1 e2 e3 e4 e5 e6
    refine ⟨⟨s0, s1, s2, s3, s4, xs, ls⟩, A, n, c, B, m, d, ?_, hnc, hmd, fun h => (hB h).2, hR, hS, fun j hj => hwf j (by rw [← hR.1]; exact hj)⟩
    rw [e0, e1, e2, e3, e4, e5, e6]
    rfl
end
end Go.Proofs.Ytanimonhnngfkaa.Own
namespace Go.Proofs.Ytanimonhnngfkaa.K
open Go.RowKit Go.Proofs.Ytanimonhnngfkaa.Own
theorem Keep_any (a : Arr) (hw : a.wf) (A : Option Addr) (n c : Nat) (B : Option Addr) (m d : Nat) (hnc : n ≤ c) (hmd : m ≤ d) (hBd : B = none → d = 0) (x v : Num) (hxw : x.wf) (hvw : v.wf) (w : World) (hR : ReadsNums w A n a.cs) (hS : Reads w .i64 B m a.ls) :
    Calls Try.prog 6 #[.agg (a.vals A n c B m d), x.v, v.v] w fun e w' => e = .returned (.bool true) ∧ Below w.heap.size w w' := by
  obtain ⟨r, hsz⟩ := size_calls a n m hR.1 hS.1
  by_cases hbig : 50000 < r
  · exact Keep_big a A n c B m d hnc hmd hBd x v hxw hvw w hR hS r hsz hbig
  · obtain ⟨k, hk⟩ := Int.eq_ofNat_of_zero_le hxw.2.2.1
    obtain ⟨er, he⟩ : ∃ er, a.writeE x v = er := ⟨_, rfl⟩
    obtain ⟨ec, hc⟩ : ∃ ec, a.cellE 4 x = ec := ⟨_, rfl⟩
    have hin : ∀ kk, a.cellE kk x = 0 → a.okB = true ∧ a.kd = kk ∧ x.okB = true ∧ x.Hi = 0 ∧ k < n := by
      intro kk h
      unfold Arr.cellE at h
      by_cases h1 : a.okB = true ∧ a.kd = kk ∧ x.okB = true
      · rw [if_pos h1] at h
        by_cases h2 : x.Hi = 0 ∧ x.Lo < a.cs.length
        · exact ⟨h1.1, h1.2.1, h1.2.2, h2.1, by rw [← hR.1]; omega⟩
        · rw [if_neg h2] at h; exact absurd h (by decide)
      · rw [if_neg h1] at h; exact absurd h (by decide)
    by_cases he0 : er = 0
    · subst he0
      have he' := he
      unfold Arr.writeE at he'
      by_cases h1 : a.cellE 3 x = 1 ∨ v.okB = false ∨ ¬ v.W = a.W
      · rw [if_pos h1] at he'; exact absurd he' (by decide)
      · rw [if_neg h1] at he'
        obtain ⟨h2, h3, h4, h5, h6⟩ := hin 3 he'
        have hvo : v.okB = true := by cases hq : v.okB; exact absurd (.inr (.inl hq)) h1; rfl
        have hvW : v.W = a.W := by
          by_cases hq : v.W = a.W
          · exact hq
          · exact absurd (.inr (.inr hq)) h1
        exact Keep_wr a hw (a.ok_of hw h2) h3 A n c B m d hnc hmd hBd x v hxw hvw w hR hS r hsz hbig k _ _ _ rfl (x.okB_iff.1 h4) h5 hk h6 (v.okB_iff.1 hvo) hvW
    · by_cases hc0 : ec = 0
      · subst hc0
        obtain ⟨h2, h3, h4, h5, h6⟩ := hin 4 hc
        exact Keep_cnt a hw (a.ok_of hw h2) h3 A n c B m d hnc hmd hBd x v hxw hvw w hR hS r hsz hbig er he he0 k _ _ _ rfl (x.okB_iff.1 h4) h5 hk h6
      · exact Keep_no a hw A n c B m d hnc hmd hBd x v hxw hvw w hR hS r hsz hbig er he he0 ec hc hc0
end Go.Proofs.Ytanimonhnngfkaa.K
