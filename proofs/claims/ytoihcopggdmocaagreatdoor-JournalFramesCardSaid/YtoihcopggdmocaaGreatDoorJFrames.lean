/-
  The walk of the law JournalFrames.
-/
import Derived.Test.YtoihcopggdmocaaGreatDoorBookA
import Derived.Test.YtoihcopggdmocaaGreatDoorR3
import Derived.Test.YtoihcopggdmocaaGreatDoorSame
import Derived.Test.YtoihcopggdmocaaGreatDoorTwin
set_option linter.unusedVariables false
set_option linter.unusedSimpArgs false
namespace Go.Proofs.YtoihcopggdmocaaGreatDoor
open Go.RowKit SumsMath

theorem bytes_of {n : Nat} {zs : List Int} (hl : zs.length = n) (h : ∀ j, j < n → (0 ≤ zs.getD j 0 ∧ zs.getD j 0 ≤ 255)) : Bytes zs := by
  intro j
  by_cases hj : j < n
  · exact h j hj
  · rw [List.getD_eq_getElem?_getD, List.getElem?_eq_none (by omega)]; exact ⟨by decide, by decide⟩
theorem bytes_keep (base b : Nat) (row : Value) (ps : List (Value × Value)) (F : Nat → Nat → Prop) (A : Option Addr) (n c : Nat) (Fv : Nat → Prop) (W : World) (h : Bk W base b row ps F) (hN : ps.length ≤ 1000000000)
    (h1 : ∀ k, Fv k → base ≤ k ∧ k < W.heap.size ∧ k ≠ b ∧ row.ownBlock ≠ some k) (h2 : ∀ i k, F i k → ¬ Fv k) :
    Calls Tryz.prog 10 #[.pointer (some ⟨b, 0, none⟩), .slice A n c] W (Kept base b row (.slice A n c) ps F Fv W) := by
  have HK := aside' (keep_any base b row ps F A n c Fv W h hN h1 h2)
  clear h h1 h2
  go_enter Tryz.func10, Tryz.ntmps10
  go_wp2_with fail
  refine Calls.mono HK.out ?_
  rintro e w' ⟨⟨u, rfl⟩, hk⟩
  go_wp2
  go_end0
  exact ⟨⟨_, rfl⟩, hk⟩
theorem own_base' {W : World} {base base' n : Nat} {e : TypeId} {size : Nat} {v : Value} {xs : List Value} (ho : W.ownsRow base e size v n xs) (hb : base' ≤ base) : W.ownsRow base' e size v n xs := by
  refine ⟨ho.1, ho.2.elim .inl ?_⟩
  rintro ⟨g, cap, cur, h1, h2, r⟩
  exact .inr ⟨g, cap, cur, h1, Nat.le_trans hb h2, r⟩
/-- A block that is a row of its own. -/
theorem own_block (W : World) (base g : Nat) (xs : List Int) (n : Nat) (hn : xs.length = n) (hm : n ≤ 9223372036854775807) (hb : base ≤ g) (h : W.heap[g]? = some (.cells (nums .u8 xs).toArray 5 (0, 0))) : W.ownsRow base 5 1 (.slice (some ⟨g, 0, none⟩) n n) n (nums .u8 xs) :=
  ⟨by simp [nums, hn], .inr ⟨g, n, _, rfl, hb, h, Nat.le_refl _, by simpa [maxLen] using hm, by simp [nums, hn], by rw [List.toList_toArray, List.take_of_length_le (by simp [nums, hn])]⟩⟩
/-- The book's block, when it was written down whole. -/
theorem Bk.fresh (W : World) (base : Nat) (hb : base ≤ W.heap.size) : Bk ((W.alloc (.cells (bookCells 0 (.slice none 0 0)) 60)).setRow W.heap.size (bookCells 0 (.slice none 0 0))) base W.heap.size (.slice none 0 0) [] (fun _ _ => False) ∧
    Foot (fun _ => False) W ((W.alloc (.cells (bookCells 0 (.slice none 0 0)) 60)).setRow W.heap.size (bookCells 0 (.slice none 0 0))) :=
  ⟨⟨setRow_heap _ _ _ _ _ _ (heap_alloc_new W _), World.ownsRow_nil _ _ _ _, by simp [Value.ownBlock], hb, fun _ _ h => h.elim, fun _ _ _ h => h.elim⟩,
   ⟨rfl, rfl, rfl, by simp, fun k hk _ => (setRow_other _ _ k _ (by omega)).trans (Below.heap_alloc W _ k hk)⟩⟩
theorem Bk.zero (w : World) (base : Nat) (hb : base ≤ w.heap.size) : Bk (w.alloc (.cells (bookCells 0 (.slice none 0 0)) 60)) base w.heap.size (.slice none 0 0) [] (fun _ _ => False) :=
  ⟨heap_alloc_new w _, World.ownsRow_nil _ _ _ _, by simp [Value.ownBlock], hb, fun _ _ h => h.elim, fun _ _ _ h => h.elim⟩
theorem wpList_seen {P : Program} {ops : Array Oper} {rest : List Oper} {a : Act} {Q : Exit → Act → World → Prop} {W : World} (h : ∀ V, V = W → wpList P ops Q rest a V) : wpList P ops Q rest a W := h W rfl
/-- What is framed of any bytes. -/
def resF (n : Nat) (xs : List Int) : List Int := if 1 ≤ n ∧ n ≤ 65537 then frm xs else []
theorem Frame_any (A : Option Addr) (n c : Nat) (xs : List Int) (w : World) (hx : Bytes xs) (hR : Reads w .u8 A n xs) :
    Calls Tryz.prog 6 #[.slice A n c] w fun e w' => ∃ B m k, e = .returned (.tuple #[.slice B m k, .int .i64 (if 1 ≤ n ∧ n ≤ 65537 then 0 else 1)]) ∧ w'.ownsRow w.heap.size 5 1 (.slice B m k) m (nums .u8 (resF n xs)) ∧ m ≤ 65600 ∧ Below w.heap.size w w' := by
  by_cases h : 1 ≤ n ∧ n ≤ 65537
  · rw [resF, if_pos h, if_pos h]
    refine (Frame_ok A n c xs w hx hR h.1 h.2).mono ?_
    rintro e w' ⟨g, rfl, h1, h2, h3⟩
    exact ⟨_, _, _, rfl, own_block w' w.heap.size g _ _ (by rw [frm, JMath.frame_length, hR.1]) (by omega) h1 h2, by omega, h3⟩
  · rw [resF, if_neg h, if_neg h]
    refine (Frame_no A n c hR.2.1 (by omega) w).mono ?_
    rintro e w' ⟨rfl, rfl⟩
    exact ⟨_, _, _, rfl, World.ownsRow_nil _ _ _ _, by omega, Below.refl _ _⟩
theorem RFrame_any (A : Option Addr) (n c : Nat) (xs : List Int) (w : World) (hx : Bytes xs) (hR : Reads w .u8 A n xs) :
    Calls Tryz.prog 7 #[.slice A n c] w fun e w' => ∃ B m k, e = .returned (.tuple #[.slice B m k, .int .i64 (if 1 ≤ n ∧ n ≤ 65537 then 0 else 1)]) ∧ Reads w' .u8 B m (resF n xs) ∧ Below w.heap.size w w' := by
  by_cases h : 1 ≤ n ∧ n ≤ 65537
  · rw [resF, if_pos h, if_pos h]
    refine (RFrame_ok A n c xs w hx hR h.1 h.2).mono ?_
    rintro e w' ⟨g, c', rfl, h1, h2, h3⟩
    exact ⟨_, _, _, rfl, h2, h3⟩
  · rw [resF, if_neg h, if_neg h]
    refine (RFrame_no A n c hR.2.1 (by omega) w).mono ?_
    rintro e w' ⟨rfl, rfl⟩
    exact ⟨_, _, _, rfl, Reads.nil _ _, Below.refl _ _⟩
/-- The book's block, when it was written down whole; F: the blocks that are kept apart from it. -/
theorem Bk.freshF (W : World) (base : Nat) (F : Nat → Nat → Prop) (hb : base ≤ W.heap.size) (h1 : ∀ i k, F i k → base ≤ k ∧ k < W.heap.size) (h2 : ∀ i j k, F i k → F j k → i = j) : Bk ((W.alloc (.cells (bookCells 0 (.slice none 0 0)) 60)).setRow W.heap.size (bookCells 0 (.slice none 0 0))) base W.heap.size (.slice none 0 0) [] F :=
  ⟨setRow_heap _ _ _ _ _ _ (heap_alloc_new W _), World.ownsRow_nil _ _ _ _, by simp [Value.ownBlock], hb, fun i k h => ⟨(h1 i k h).1, by have := (h1 i k h).2; simp; omega, by have := (h1 i k h).2; omega, by simp [Value.ownBlock]⟩, h2⟩
/-- One more list is kept, whose blocks were told before. -/
theorem bytes_keep0 (base b : Nat) (row : Value) (ps : List (Value × Value)) (F : Nat → Nat → Prop) (A : Option Addr) (n c : Nat) (W : World) (h : Bk W base b row ps F) (hN : ps.length ≤ 1000000000) :
    Calls Tryz.prog 10 #[.pointer (some ⟨b, 0, none⟩), .slice A n c] W fun e w' => (∃ u, e = .returned u) ∧ ∃ row', Bk w' base b row' (ps ++ [(.slice A n c, .slice none 0 0)]) F ∧ Foot (fun k => k = b ∨ row.ownBlock = some k) W w' := by
  refine (bytes_keep base b row ps F A n c (fun _ => False) W h hN (fun _ h => h.elim) (fun _ _ _ h => h)).mono ?_
  rintro e w' ⟨hu, row', hk, hf⟩
  exact ⟨hu, row', ⟨hk.hb, hk.hr, hk.rb, hk.bb, fun i k h => hk.fl i k (.inl h), fun i j k hi hj => hk.fd i j k (.inl hi) (.inl hj)⟩, hf⟩
theorem own_lt {w : World} {base n : Nat} {e : TypeId} {size : Nat} {v : Value} {xs : List Value} (h : w.ownsRow base e size v n xs) : ∀ k, v.ownBlock = some k → base ≤ k ∧ k < w.heap.size := by
  intro k hk
  rcases h.2 with ⟨rfl, _⟩ | ⟨g, cap, cur, rfl, h1, h2, _⟩
  · simp [Value.ownBlock] at hk
  · simp only [Value.ownBlock, Option.some.injEq] at hk
    subst hk
    exact ⟨h1, (Array.getElem?_eq_some_iff.1 h2).1⟩
theorem own_Bk {W W' : World} {base b : Nat} {row : Value} {ps : List (Value × Value)} {F : Nat → Nat → Prop} (hk : Bk W base b row ps F) (hf : Foot (fun k => k = b ∨ row.ownBlock = some k) W W') {v : Value} {n : Nat} {xs : List Value} {e : TypeId} {z base2 : Nat} (h : W.ownsRow base2 e z v n xs) (i : Nat) (hF : ∀ k, v.ownBlock = some k → F i k) : W'.ownsRow base2 e z v n xs :=
  own_foot h hf (fun k hv hn => by have := hk.fl i k (hF k hv); exact hn.elim this.2.2.1 this.2.2.2)
set_option maxRecDepth 100000 in
set_option maxHeartbeats 6400000 in
theorem frames_law (A : Option Addr) (n c : Nat) (xs : List Int) (w : World) (hR : Reads w .u8 A n xs) (hx : Bytes xs) (hn : n ≤ 140737488351232) :
    Calls Tryz.prog 3 #[.slice A n c] w fun e w' => e = .returned (.bool true) ∧ Below w.heap.size w w' := by
  have hl0 : Below w.heap.size w (w.alloc (.cells #[.int .i64 (n : Int)] 3)) := (Below.refl _ _).alloc (Nat.le_refl _) _
  have HBE := aside' (beyond_any (n : Int) (by omega) (by omega) ⟨w.heap.size, 0, none⟩ 1 (w.alloc (.cells #[.int .i64 (n : Int)] 3)) (cellOf (heap_alloc_new w (.cells #[.int .i64 (n : Int)] 3)) 0))
  have HR := aside' (And.intro hR (And.intro hx hl0))
  clear hR hx hl0
  by_cases hbig : 1048576 < n
  · rw [decide_eq_true (show (1048576 : Int) < (n : Int) by omega)] at HBE
    go_enter Tryz.func3, Tryz.ntmps3
    go_wp2_with fail
    refine Calls.mono HBE.out ?_
    rintro e w1 ⟨rfl, hw⟩
    have hw := hw.symm
    subst hw
    go_wp2
    go_ret
    exact ⟨rfl, HR.out.2.2⟩
  · rw [decide_eq_false (show ¬ (1048576 : Int) < (n : Int) by omega)] at HBE
    go_enter Tryz.func3, Tryz.ntmps3
    go_wp2_with fail
    refine Calls.mono HBE.out ?_
    rintro e w1 ⟨rfl, hw⟩
    have hw := hw.symm
    subst hw
    have HTW := aside' (twin_any A n c xs _ (HR.out.1.below HR.out.2.2) (by omega))
    clear HBE
    go_wp2_with fail
    refine Calls.mono HTW.out ?_
    rintro e w2 ⟨g, k, rfl, hg1, hg2, ht, hb2, how⟩
    simp only [World.size_alloc] at hg1 hb2 how
    have hB2 : Below w.heap.size w w2 := HR.out.2.2.trans (hb2.mono (by omega))
    have HT := aside' (And.intro hg1 (And.intro hg2 (And.intro ht (And.intro hB2 how))))
    have HF1 := aside' (Frame_any (some ⟨g, 0, none⟩) n k xs w2 HR.out.2.1 ht.2.1)
    obtain ⟨er, her⟩ : ∃ er : Int, er = (if 1 ≤ n ∧ n ≤ 65537 then 0 else 1) := ⟨_, rfl⟩
    rw [← her] at HF1
    clear hg1 hg2 ht hb2 how hB2 HTW
    have HER := aside' her
    clear her
    go_wp2_with fail
    refine Calls.mono HF1.out ?_
    rintro e w3 ⟨X, mx, kx, rfl, hx1, hxm, hb3⟩
    have HX := aside' (And.intro hx1 hb3)
    have HF2 := aside' (Frame_any (some ⟨g, 0, none⟩) n k xs w3 HR.out.2.1 (HT.out.2.2.1.2.1.below hb3))
    rw [← HER.out] at HF2
    clear hx1 hb3 HF1
    go_wp2_with fail
    refine Calls.mono HF2.out ?_
    rintro e w4 ⟨Y, my, ky, rfl, hy1, hym, hb4⟩
    have hB4 : Below w.heap.size w w4 := HT.out.2.2.2.1.trans ((HX.out.2.trans (hb4.mono HX.out.2.size)).mono HT.out.2.2.2.1.size)
    have HY := aside' (And.intro hy1 (And.intro hb4 hB4))
    have HF3 := aside' (RFrame_any A n c xs w4 HR.out.2.1 (HR.out.1.below hB4))
    rw [← HER.out] at HF3
    clear hy1 hb4 hB4 HF2
    go_wp2_with fail
    refine Calls.mono HF3.out ?_
    rintro e w5 ⟨Z, mz, kz, rfl, hz2, hb5⟩
    have hX5 := own_keep (own_keep HX.out.1 HY.out.2.1) hb5
    have hY5 := own_keep HY.out.1 hb5
    have HS1 := aside' (same_bytes X Z mx kx mz kz _ _ w5 (own_rd' hX5) hz2)
    have HS2 := aside' (fun q => same_bytes Y Z my ky mz kz _ _ (w5.drewN q) (own_rd' (w := w5) hY5) hz2)
    rw [decide_eq_true rfl] at HS1 HS2
    have hB5 : Below w2.heap.size w2 w5 := (HX.out.2.trans (HY.out.2.1.mono HX.out.2.size)).trans (hb5.mono (HX.out.2.trans (HY.out.2.1.mono HX.out.2.size)).size)
    have HT5 := aside' (And.intro (HT.out.2.2.1.below HT.out.2.1 hB5) (And.intro (own_keep HT.out.2.2.2.2 hB5) (And.intro (HT.out.2.2.2.1.trans (hB5.mono HT.out.2.2.2.1.size)) hB5)))
    have H5 := aside' (And.intro hX5 (And.intro hY5 hb5))
    clear hz2 hb5 hX5 hY5 hB5 HF3
    go_wp2_with fail
    refine Calls.mono HS1.out ?_
    rintro e w6 ⟨rfl, q6, rfl⟩
    go_wp2_with fail
    refine Calls.mono (HS2.out q6) ?_
    rintro e w7 ⟨rfl, q7, rfl⟩
    go_wp2_with fail
    have HLF := aside' (left_any g k n c A xs (w5.drewN (q6 + q7)) HT5.out.1 (HR.out.1.below (below_drewN HT5.out.2.2.1 _)))
    refine Calls.mono HLF.out ?_
    rintro e w8 ⟨rfl, q8, rfl⟩
    have HBO := aside' (heap_alloc_new (w5.drewN (q6 + q7 + q8)) (.cells (bookCells 0 (.slice none 0 0)) 60))
    go_wp2_with ((with_reducible show wpList _ _ _ _ _ _); refine wpList_store_row rfl 60 (.tmp 10) (.tmp 53) rfl w5.heap.size (bookCells 0 (.slice none 0 0)) rfl rfl 60 (bookCells 0 (.slice none 0 0)) HBO.out (by kernel_rfl) rfl (by kernel_rfl) ?_; refine wpList_seen ?_; intro V hV; have HV := aside' hV; clear hV)
    have hs23 := HX.out.2.size
    have hs34 := HY.out.2.1.size
    have hs45 := H5.out.2.2.size
    have hbx := own_lt HX.out.1
    have hby := own_lt HY.out.1
    have hg1 := HT.out.1
    have hg2 := HT.out.2.1
    have hb5 := HT5.out.2.2.1.size
    obtain ⟨F, hF⟩ : ∃ F : Nat → Nat → Prop, F = fun i k => (i = 0 ∧ k = g) ∨ (i = 1 ∧ (Value.slice X mx kx).ownBlock = some k) ∨ (i = 2 ∧ (Value.slice Y my ky).ownBlock = some k) := ⟨_, rfl⟩
    have hF0 : ∀ j, (Value.slice (some ⟨g, 0, none⟩) n k).ownBlock = some j → F 0 j := fun j hj => by rw [hF]; simp only [Value.ownBlock, Option.some.injEq] at hj; exact .inl ⟨rfl, hj.symm⟩
    have hF1 : ∀ k, (Value.slice X mx kx).ownBlock = some k → F 1 k := fun k hk => by rw [hF]; exact .inr (.inl ⟨rfl, hk⟩)
    have hF2 : ∀ k, (Value.slice Y my ky).ownBlock = some k → F 2 k := fun k hk => by rw [hF]; exact .inr (.inr ⟨rfl, hk⟩)
    have HB0 := aside' (Bk.freshF (w5.drewN (q6 + q7 + q8)) w.heap.size F (by simpa using hb5)
      (by rw [hF]; rintro i k (⟨_, rfl⟩ | ⟨_, hk⟩ | ⟨_, hk⟩)
          · exact ⟨by omega, by show k < w5.heap.size; omega⟩
          · have := hbx k hk; exact ⟨by omega, by show k < w5.heap.size; omega⟩
          · have := hby k hk; exact ⟨by omega, by show k < w5.heap.size; omega⟩)
      (by rw [hF]; rintro i j k (⟨rfl, rfl⟩ | ⟨rfl, hk⟩ | ⟨rfl, hk⟩) (⟨rfl, h2⟩ | ⟨rfl, hk2⟩ | ⟨rfl, hk2⟩)
          · rfl
          · have := hbx _ hk2; omega
          · have := hby _ hk2; omega
          · have := hbx _ hk; omega
          · rfl
          · have := hbx _ hk; have := hby _ hk2; omega
          · have := hby _ hk; omega
          · have := hby _ hk; have := hbx _ hk2; omega
          · rfl))
    have hf0 := (Bk.fresh (w5.drewN (q6 + q7 + q8)) w.heap.size (by simpa using hb5)).2
    have HO := aside' (And.intro (own_foot (W := w5.drewN (q6 + q7 + q8)) HT5.out.2.1 hf0 (fun _ _ h => h)) (And.intro (own_foot (W := w5.drewN (q6 + q7 + q8)) H5.out.1 hf0 (fun _ _ h => h)) (And.intro (own_foot (W := w5.drewN (q6 + q7 + q8)) H5.out.2.1 hf0 (fun _ _ h => h)) (Below.trans (below_drewN HT5.out.2.2.1 (q6 + q7 + q8)) (hf0.below (B := w.heap.size) (fun _ h => h.elim) (by simpa using hb5))))))
    clear hs23 hs34 hs45 hbx hby hg2 hb5 hf0 hF HBO HS1 HS2 HLF H5
    have HB0 : Aside (Bk V w.heap.size w5.heap.size (.slice none 0 0) [] F) := aside' (by rw [HV.out]; exact HB0.out)
    have HO : Aside (V.ownsRow (w.heap.size + 1) 5 1 (.slice (some ⟨g, 0, none⟩) n k) n (nums .u8 xs) ∧ V.ownsRow w2.heap.size 5 1 (.slice X mx kx) mx (nums .u8 (resF n xs)) ∧ V.ownsRow w3.heap.size 5 1 (.slice Y my ky) my (nums .u8 (resF n xs)) ∧ Below w.heap.size w V) := aside' (by rw [HV.out]; exact HO.out)
    clear HV
    generalize w5.heap.size = b at *
    have HK1 := aside' (bytes_keep0 w.heap.size b _ [] F (some ⟨g, 0, none⟩) n k V HB0.out (by simp))
    go_wp2_with fail
    refine Calls.mono HK1.out ?_
    rintro e v1 ⟨⟨u1, rfl⟩, row1, hk1, hf1⟩
    have HB1 := aside' (And.intro hk1 (And.intro (own_Bk HB0.out hf1 HO.out.1 0 hF0) (And.intro (own_Bk HB0.out hf1 HO.out.2.1 1 hF1) (And.intro (own_Bk HB0.out hf1 HO.out.2.2.1 2 hF2) (HO.out.2.2.2.trans (hf1.below (B := w.heap.size) (fun k hk => hk.elim (fun h => h ▸ HB0.out.bb) (fun h => (own_lt HB0.out.hr k h).1)) HO.out.2.2.2.size))))))
    have HK2 := aside' (bytes_keep0 w.heap.size b _ _ F X mx kx v1 hk1 (by simp))
    clear hk1 hf1 HK1
    go_wp2_with fail
    refine Calls.mono HK2.out ?_
    rintro e v2 ⟨⟨u2, rfl⟩, row2, hk2, hf2⟩
    have HB2 := aside' (And.intro hk2 (And.intro (own_Bk HB1.out.1 hf2 HB1.out.2.1 0 hF0) (And.intro (own_Bk HB1.out.1 hf2 HB1.out.2.2.1 1 hF1) (And.intro (own_Bk HB1.out.1 hf2 HB1.out.2.2.2.1 2 hF2) (HB1.out.2.2.2.2.trans (hf2.below (B := w.heap.size) (fun k hk => hk.elim (fun h => h ▸ HB1.out.1.bb) (fun h => (own_lt HB1.out.1.hr k h).1)) HB1.out.2.2.2.2.size))))))
    have HK3 := aside' (bytes_keep0 w.heap.size b _ _ F Y my ky v2 hk2 (by simp))
    clear hk2 hf2 HK2
    go_wp2_with fail
    refine Calls.mono HK3.out ?_
    rintro e v3 ⟨⟨u3, rfl⟩, row3, hk3, hf3⟩
    have HB3 := aside' (And.intro hk3 (And.intro (own_Bk HB2.out.1 hf3 HB2.out.2.1 0 hF0) (And.intro (own_Bk HB2.out.1 hf3 HB2.out.2.2.1 1 hF1) (And.intro (own_Bk HB2.out.1 hf3 HB2.out.2.2.2.1 2 hF2) (HB2.out.2.2.2.2.trans (hf3.below (B := w.heap.size) (fun k hk => hk.elim (fun h => h ▸ HB2.out.1.bb) (fun h => (own_lt HB2.out.1.hr k h).1)) HB2.out.2.2.2.2.size))))))
    clear hf3 HK3
    have HA := aside' (apart_any w.heap.size b row3 _ (fun j => if j = 0 then n else if j = 1 then mx else if j = 2 then my else 0) F v3 hk3 (by simp) (by intro j; split; omega; split; omega; split <;> omega)
      (by
        intro j p hp
        simp only [List.nil_append, List.cons_append] at hp
        match j, hp with
        | 0, hp => simp at hp; subst hp; exact ⟨rfl, fun h => by omega, fun _ => ⟨xs, own_base' HB3.out.2.1 (by omega), hF0⟩⟩
        | 1, hp => simp at hp; subst hp; exact ⟨rfl, fun h => by omega, fun _ => ⟨_, own_base' HB3.out.2.2.1 HT.out.2.2.2.1.size, hF1⟩⟩
        | 2, hp => simp at hp; subst hp; exact ⟨rfl, fun h => by omega, fun _ => ⟨_, own_base' HB3.out.2.2.2.1 (Nat.le_trans HT.out.2.2.2.1.size HX.out.2.size), hF2⟩⟩
        | j + 3, hp => simp at hp))
    clear hk3
    go_wp2_with fail
    refine Calls.mono HA.out ?_
    rintro e v4 ⟨rfl, hf4⟩
    go_wp2
    go_ret
    exact ⟨rfl, HB3.out.2.2.2.2.trans (hf4.below (fun _ h => h) HB3.out.2.2.2.2.size)⟩
end Go.Proofs.YtoihcopggdmocaaGreatDoor
