/-
  The contracts of package disk over what a disk keeps: 'DiskAt'.
-/
import Derived.Test.YtmoakgkoahjijaaGreatDoorDisk2
set_option linter.unusedVariables false
set_option linter.unusedSimpArgs false
set_option maxRecDepth 100000
namespace Go.Proofs.YtmoakgkoahjijaaGreatDoor
open Go.RowKit

/-- A step of the disk: only its own blocks and new ones have changed. -/
def DiskTo (F : Nat → Prop) (w w' : World) (g : Nat) (room : Int) (bs : List Int) (off : Bool) (fl : Option Int) : Prop :=
  Foot F w w' ∧ ∃ F' : Nat → Prop, (∀ k, F' k → F k ∨ w.heap.size ≤ k) ∧ DiskAt F' w' g room bs off fl

theorem DiskAt.drewN {F : Nat → Prop} {w : World} {g : Nat} {room : Int} {bs : List Int} {off : Bool} {fl : Option Int} (h : DiskAt F w g room bs off fl) (n : Nat) : DiskAt F (w.drewN n) g room bs off fl := h
theorem DiskAt.foot {F G : Nat → Prop} {w w' : World} {g : Nat} {room : Int} {bs : List Int} {off : Bool} {fl : Option Int} (h : DiskAt F w g room bs off fl) (hf : Foot G w w') (hG : ∀ k, F k → ¬ G k) : DiskAt F w' g room bs off fl := by
  obtain ⟨hg, hF, v, fv, hb, hown, hv, hfl⟩ := h
  refine ⟨hg, fun k hk => Nat.lt_of_lt_of_le (hF k hk) hf.size, v, fv, hf.blk hb (hG g hg), hf.own hown (fun k hk => hG k (hv k hk).1), hv, ?_⟩
  rcases hfl with h | ⟨n, c, e1, e2, e3, hc, hcg, hcv, hcb⟩
  · exact .inl h
  · exact .inr ⟨n, c, e1, e2, e3, hc, hcg, hcv, hf.blk hcb (hG c hc)⟩

theorem own_set {w : World} {base : Nat} {e : TypeId} {size n : Nat} {v : Value} {xs : List Value} (h : w.ownsRow base e size v n xs) {p : Addr} (hne : v.ownBlock ≠ some p.block) (u : Value) : (w.setCell p u).ownsRow base e size v n xs := by
  obtain ⟨h1, h2⟩ := h
  refine ⟨h1, ?_⟩
  rcases h2 with h2 | ⟨g, cap, cur, hv, hg, hh, r⟩
  · exact .inl h2
  · exact .inr ⟨g, cap, cur, hv, hg, by rw [Below.heap_setCell _ _ _ _ (by rintro rfl; exact hne (by rw [hv]; rfl))]; exact hh, r⟩
theorem blk_set {w : World} {g : Nat} {t : TypeId} {cs : Array Value} (h : w.heap[g]? = some (.cells cs t (0, 0))) (i : Nat) (u : Value) : (w.setCell ⟨g, i, none⟩ u).heap[g]? = some (.cells (cs.setIfInBounds i u) t (0, 0)) := by
  simp [World.setCell, Array.getElem?_modify, h]
theorem blk_far {w : World} {g : Nat} {o : Obj} (h : w.heap[g]? = some o) {p : Addr} (hp : g ≠ p.block) (u : Value) : (w.setCell p u).heap[g]? = some o := (Below.heap_setCell w p u g hp).trans h

/-- What an Append leaves. -/
theorem put_disk {F : Nat → Prop} {w w1 : World} {g : Nat} {room : Int} {bs' : List Int} {v v1 fv : Value} {off : Bool} (hg : F g) (hF : ∀ k, F k → k < w.heap.size) (hb : w.heap[g]? = some (.cells #[.int .i64 room, v, .bool off, fv] 94 (0, 0)))
    (hv : ∀ k, v.ownBlock = some k → F k ∧ k ≠ g) (hown : w1.ownsRow 0 5 1 v1 bs'.length (nums .u8 bs')) (hgr : w.grownBy w1 v.ownBlock) (hat : v1.ownBlock = v.ownBlock ∨ v1.ownBlock = some w.heap.size) :
    Foot F w (w1.setCell ⟨g, 1, none⟩ v1) ∧ (w1.setCell ⟨g, 1, none⟩ v1).heap[g]? = some (.cells #[.int .i64 room, v1, .bool off, fv] 94 (0, 0)) ∧ (w1.setCell ⟨g, 1, none⟩ v1).ownsRow 0 5 1 v1 bs'.length (nums .u8 bs') ∧
      (∀ k, v1.ownBlock = some k → (F k ∨ (w.heap.size ≤ k ∧ k < (w1.setCell ⟨g, 1, none⟩ v1).heap.size)) ∧ k ≠ g) := by
  have hlt := hF g hg
  have hv1 : ∀ k, v1.ownBlock = some k → (F k ∨ (w.heap.size ≤ k ∧ k < w1.heap.size)) ∧ k ≠ g := by
    intro k hk
    rcases hat with h | h
    · rw [h] at hk
      exact ⟨.inl (hv k hk).1, (hv k hk).2⟩
    · have hl := (hown.lt k hk).2
      rw [h] at hk
      injection hk with hk
      subst hk
      exact ⟨.inr ⟨Nat.le_refl _, hl⟩, by omega⟩
  have hb1 : w1.heap[g]? = some (.cells #[.int .i64 room, v, .bool off, fv] 94 (0, 0)) := (hgr.block g hlt (fun e => (hv g e.symm).2 rfl)).trans hb
  refine ⟨((Foot.refl F w).grown hgr (fun k hk => .inl (hv k hk).1)).setCell (.inl hg) _, ?_, own_set hown (fun e => (hv1 g e).2 rfl) _, ?_⟩
  · rw [blk_set hb1 1 v1]; rfl
  · intro k hk
    have := hv1 k hk
    simpa [World.setCell] using this

theorem Append_ok {F : Nat → Prop} {w : World} {g : Nat} {room : Int} {bs ys : List Int} {A : Option Addr} {m c : Nat} (h : DiskAt F w g room bs false none) (HR : Reads w .u8 A m ys) (hr1 : 1 ≤ room) (hr2 : room ≤ 16777216)
    (hroom : (m : Int) ≤ room - (bs.length : Int)) :
    Calls Tryz.prog 34 #[.pointer (some ⟨g, 0, none⟩), .slice A m c] w fun e w' => e = .returned (.int .i64 0) ∧ DiskTo F w w' g room (bs ++ ys) false none := by
  obtain ⟨hg, hF, v, fv, hb, hown, hv, hfl⟩ := h
  obtain ⟨_, rfl⟩ : (none : Option Int) = none ∧ fv = .nilFunc := hfl.resolve_right (by rintro ⟨n, c, h, _⟩; cases h)
  refine (append_ok g room v bs ys A m c w hb (by simp; omega) hown HR (fun k hk => (hv k hk).2) (by omega) hr2 hroom).mono ?_
  rintro e w' ⟨rfl, v1, w1, hown1, hgr, hat, rfl⟩
  obtain ⟨h1, h2, h3, h4⟩ := put_disk hg hF hb hv hown1 hgr hat
  refine ⟨rfl, h1, fun k => F k ∨ (w.heap.size ≤ k ∧ k < (w1.setCell ⟨g, 1, none⟩ v1).heap.size), ?_, .inl hg, ?_, v1, _, h2, h3, h4, .inl ⟨rfl, rfl⟩⟩
  · rintro k (hk | hk)
    · exact .inl hk
    · exact .inr hk.1
  · rintro k (hk | hk)
    · exact Nat.lt_of_lt_of_le (hF k hk) h1.size
    · exact hk.2

theorem Append_fail {F : Nat → Prop} {w : World} {g : Nat} {room : Int} {bs ys : List Int} {n : Int} {A : Option Addr} {m c : Nat} (h : DiskAt F w g room bs false (some n)) (HR : Reads w .u8 A m ys) (hmc : m ≤ c) (hr1 : 1 ≤ room) (hr2 : room ≤ 16777216)
    (hroom : (m : Int) ≤ room - (bs.length : Int)) :
    Calls Tryz.prog 34 #[.pointer (some ⟨g, 0, none⟩), .slice A m c] w fun e w' => e = .returned (.int .i64 13) ∧ DiskTo F w w' g room (bs ++ ys.take n.toNat) true none := by
  obtain ⟨hg, hF, v, fv, hb, hown, hv, hfl⟩ := h
  obtain ⟨n', cb, e1, hn, rfl, hc, hcg, hcv, hcb⟩ := hfl.resolve_left (by rintro ⟨h, _⟩; cases h)
  injection e1 with e1
  subst e1
  refine (append_fail g room v bs ys n cb A m c w hb (by simp; omega) hcb hn hown HR hmc (fun k hk => (hv k hk).2) (fun k hk e => hcv (by rw [hk, e])) (by omega) hr2 hroom).mono ?_
  rintro e w' ⟨rfl, v1, w1, hown1, hgr, hat, rfl⟩
  obtain ⟨h1, h2, h3, h4⟩ := put_disk hg hF hb hv hown1 hgr hat
  have hsz : (((w1.setCell ⟨g, 1, none⟩ v1).setCell ⟨g, 2, none⟩ (.bool true)).setCell ⟨g, 3, none⟩ .nilFunc).heap.size = (w1.setCell ⟨g, 1, none⟩ v1).heap.size := by simp [World.setCell]
  refine ⟨rfl, (h1.setCell (.inl hg) _).setCell (.inl hg) _, fun k => F k ∨ (w.heap.size ≤ k ∧ k < (w1.setCell ⟨g, 1, none⟩ v1).heap.size), ?_, .inl hg, ?_, v1, _, by rw [blk_set (blk_set h2 2 _) 3 _]; rfl, own_set (own_set h3 (fun e => (h4 g e).2 rfl) _) (fun e => (h4 g e).2 rfl) _, h4, .inl ⟨rfl, rfl⟩⟩
  · rintro k (hk | hk)
    · exact .inl hk
    · exact .inr hk.1
  · rw [hsz]
    rintro k (hk | hk)
    · exact Nat.lt_of_lt_of_le (hF k hk) h1.size
    · exact hk.2

theorem Append_full {F : Nat → Prop} {w : World} {g : Nat} {room : Int} {bs : List Int} {fl : Option Int} {A : Option Addr} {m c : Nat} (h : DiskAt F w g room bs false fl) (hr1 : 1 ≤ room) (hr2 : room ≤ 16777216) (hbl : (bs.length : Int) ≤ room) (hm : m ≤ 9223372036854775807)
    (hroom : room - (bs.length : Int) < (m : Int)) :
    Calls Tryz.prog 34 #[.pointer (some ⟨g, 0, none⟩), .slice A m c] w fun e w' => e = .returned (.int .i64 10) ∧ ∃ q, w' = w.drewN q := by
  obtain ⟨hg, hF, v, fv, hb, hown, hv, hfl⟩ := h
  obtain ⟨D, d, rfl, hnd, HD⟩ := own_reads hown
  exact append_full g room D bs.length d A m c w (cellOf hb 0) (cellOf hb 1) (cellOf hb 2) (by simp; omega) (by omega) hr2 (by omega) hm hroom
theorem Append_off {F : Nat → Prop} {w : World} {g : Nat} {room : Int} {bs : List Int} {fl : Option Int} {A : Option Addr} {m c : Nat} (h : DiskAt F w g room bs true fl) (hr1 : 1 ≤ room) :
    Calls Tryz.prog 34 #[.pointer (some ⟨g, 0, none⟩), .slice A m c] w fun e w' => e = .returned (.int .i64 13) ∧ w = w' := by
  obtain ⟨hg, hF, v, fv, hb, hown, hv, hfl⟩ := h
  exact append_off g room A m c w (cellOf hb 0) (cellOf hb 2) (by simp; omega)

theorem New_ok (room : Int) (w : World) (h1 : 1 ≤ room) (h2 : room ≤ 16777216) :
    Calls Tryz.prog 26 #[.int .i64 room] w fun e w' => e = .returned (.tuple #[.pointer (some ⟨w.heap.size, 0, none⟩), .int .i64 0]) ∧ DiskAt (fun k => k = w.heap.size) w' w.heap.size room [] false none ∧ Below w.heap.size w w' := by
  refine (new_any room w h1 h2).mono ?_
  rintro e w' ⟨rfl, rfl⟩
  refine ⟨rfl, ⟨rfl, by rintro k rfl; simp, .slice none 0 0, .nilFunc, heap_alloc_new w _, World.ownsRow_nil _ _ _ _, by intro k hk; simp [Value.ownBlock] at hk, .inl ⟨rfl, rfl⟩⟩, (Below.refl _ _).alloc (Nat.le_refl _) _⟩

theorem Fail_ok {F : Nat → Prop} {w : World} {g : Nat} {room : Int} {bs : List Int} {fl : Option Int} {n : Int} (h : DiskAt F w g room bs false fl) (hr1 : 1 ≤ room) (hn : 0 ≤ n) :
    Calls Tryz.prog 30 #[.pointer (some ⟨g, 0, none⟩), .int .i64 n] w fun e w' => e = .returned (.int .i64 0) ∧ DiskTo F w w' g room bs false (some n) := by
  obtain ⟨hg, hF, v, fv, hb, hown, hv, hfl⟩ := h
  refine (fail_any g room v fv n w hb (by simp; omega) hn).mono ?_
  rintro e w' ⟨rfl, rfl⟩
  have hlt := hF g hg
  have hsz : ((w.alloc (.cells #[.int .i64 n] 3)).setCell ⟨g, 3, none⟩ (.func (.func 141) #[] #[.pointer (some ⟨w.heap.size, 0, none⟩)])).heap.size = w.heap.size + 1 := by simp [World.setCell]
  have hb1 : (w.alloc (.cells #[.int .i64 n] 3)).heap[g]? = _ := (Below.heap_alloc _ _ _ hlt).trans hb
  refine ⟨rfl, ((Foot.refl F w).alloc _).setCell (.inl hg) _, fun k => F k ∨ k = w.heap.size, ?_, .inl hg, ?_, v, _, by rw [blk_set hb1 3 _]; rfl, own_set (hown.alloc _) (fun e => (hv g e).2 rfl) _, fun k hk => ⟨.inl (hv k hk).1, (hv k hk).2⟩, .inr ⟨n, w.heap.size, rfl, hn, rfl, .inr rfl, by omega, ?_, ?_⟩⟩
  · rintro k (hk | rfl)
    · exact .inl hk
    · exact .inr (Nat.le_refl _)
  · rw [hsz]
    rintro k (hk | rfl)
    · have := hF k hk; omega
    · omega
  · intro e
    have := hF _ (hv _ e).1
    omega
  · exact blk_far (heap_alloc_new w _) (by simp; omega) _

theorem Up_ok {F : Nat → Prop} {w : World} {g : Nat} {room : Int} {bs : List Int} {off : Bool} {fl : Option Int} (h : DiskAt F w g room bs off fl) (hr1 : 1 ≤ room) :
    Calls Tryz.prog 32 #[.pointer (some ⟨g, 0, none⟩)] w fun e w' => e = .returned (.int .i64 0) ∧ DiskTo F w w' g room bs false none := by
  obtain ⟨hg, hF, v, fv, hb, hown, hv, hfl⟩ := h
  refine (up_any g room v fv off w hb (by simp; omega)).mono ?_
  rintro e w' ⟨rfl, rfl⟩
  have hsz : ((w.setCell ⟨g, 2, none⟩ (.bool false)).setCell ⟨g, 3, none⟩ .nilFunc).heap.size = w.heap.size := by simp [World.setCell]
  refine ⟨rfl, ((Foot.refl F w).setCell (.inl hg) _).setCell (.inl hg) _, F, fun k hk => .inl hk, hg, by rw [hsz]; exact hF, v, _, by rw [blk_set (blk_set hb 2 _) 3 _]; rfl, own_set (own_set hown (fun e => (hv g e).2 rfl) _) (fun e => (hv g e).2 rfl) _, hv, .inl ⟨rfl, rfl⟩⟩

theorem Down_ok {F : Nat → Prop} {w : World} {g : Nat} {room : Int} {bs : List Int} {off : Bool} {fl : Option Int} (h : DiskAt F w g room bs off fl) :
    Calls Tryz.prog 36 #[.pointer (some ⟨g, 0, none⟩)] w fun e w' => e = .returned (.bool off) ∧ w = w' := by
  obtain ⟨hg, hF, v, fv, hb, hown, hv, hfl⟩ := h
  exact down_any g off w (cellOf hb 2)

theorem Trim_off {F : Nat → Prop} {w : World} {g : Nat} {room : Int} {bs : List Int} {fl : Option Int} {n : Int} (h : DiskAt F w g room bs true fl) (hr1 : 1 ≤ room) :
    Calls Tryz.prog 28 #[.pointer (some ⟨g, 0, none⟩), .int .i64 n] w fun e w' => e = .returned (.int .i64 13) ∧ w = w' := by
  obtain ⟨hg, hF, v, fv, hb, hown, hv, hfl⟩ := h
  exact trim_off g room n w (cellOf hb 0) (cellOf hb 2) (by simp; omega)
theorem Trim_no {F : Nat → Prop} {w : World} {g : Nat} {room : Int} {bs : List Int} {fl : Option Int} {n : Int} (h : DiskAt F w g room bs false fl) (hr1 : 1 ≤ room) (hn : 0 ≤ n) (hm : (bs.length : Int) < n) :
    Calls Tryz.prog 28 #[.pointer (some ⟨g, 0, none⟩), .int .i64 n] w fun e w' => e = .returned (.int .i64 1) ∧ w = w' := by
  obtain ⟨hg, hF, v, fv, hb, hown, hv, hfl⟩ := h
  obtain ⟨D, d, rfl, hnd, HD⟩ := own_reads hown
  exact trim_no g room D bs.length d n w (cellOf hb 0) (cellOf hb 1) (cellOf hb 2) (by simp; omega) hn hm
theorem Trim_yes {F : Nat → Prop} {w : World} {g : Nat} {room : Int} {bs : List Int} {fl : Option Int} {n : Nat} (h : DiskAt F w g room bs false fl) (hr1 : 1 ≤ room) (hm : n ≤ bs.length) :
    Calls Tryz.prog 28 #[.pointer (some ⟨g, 0, none⟩), .int .i64 n] w fun e w' => e = .returned (.int .i64 0) ∧ DiskTo F w w' g room (bs.take n) false fl := by
  obtain ⟨hg, hF, v, fv, hb, hown, hv, hfl⟩ := h
  obtain ⟨D, d, rfl, hnd, HD⟩ := own_reads hown
  refine (trim_yes g room D bs.length d n fv w hb (by simp; omega) hm hnd HD.2.1).mono ?_
  rintro e w' ⟨rfl, rfl⟩
  have hsz : (w.setCell ⟨g, 1, none⟩ (.slice D n d)).heap.size = w.heap.size := by simp [World.setCell]
  have hl : (bs.take n).length = n := by simp; omega
  have hob : (Value.slice D n d).ownBlock = (Value.slice D bs.length d).ownBlock := by cases D <;> rfl
  refine ⟨rfl, (Foot.refl F w).setCell (.inl hg) _, F, fun k hk => .inl hk, hg, by rw [hsz]; exact hF, .slice D n d, fv, by rw [blk_set hb 1 _]; rfl, ?_, fun k hk => hv k (hob ▸ hk), ?_⟩
  · rw [hl]
    exact own_set (own_cut hown hm) (fun e => (hv g (hob ▸ e)).2 rfl) _
  · rcases hfl with h | ⟨n', c, e1, e2, e3, hc, hcg, hcv, hcb⟩
    · exact .inl h
    · exact .inr ⟨n', c, e1, e2, e3, hc, hcg, by rw [hob]; exact hcv, blk_far hcb hcg _⟩

theorem Bytes_ok {F : Nat → Prop} {w : World} {g : Nat} {room : Int} {bs : List Int} {off : Bool} {fl : Option Int} (h : DiskAt F w g room bs off fl) (hm : bs.length ≤ 16777216) :
    Calls Tryz.prog 38 #[.pointer (some ⟨g, 0, none⟩)] w fun e w' => ∃ v, e = .returned v ∧ w'.ownsRow w.heap.size 5 1 v bs.length (nums .u8 bs) ∧ Below w.heap.size w w' := by
  obtain ⟨hg, hF, v, fv, hb, hown, hv, hfl⟩ := h
  obtain ⟨D, d, rfl, hnd, HD⟩ := own_reads hown
  exact bytes_any g D bs.length d bs w (cellOf hb 1) HD hm
end Go.Proofs.YtmoakgkoahjijaaGreatDoor
