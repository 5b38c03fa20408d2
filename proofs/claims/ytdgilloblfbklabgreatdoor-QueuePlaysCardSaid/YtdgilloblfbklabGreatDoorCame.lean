/-
  What came in as an argument, opened: a value that can be read as data and lies within the form's reach.
-/
import Derived.Test.YtdgilloblfbklabGreatDoorLib
import Derived.SizedLaws
import Derived.Deep.Slices
import Derived.OpenShut
import Derived.ChangeArms
set_option linter.unusedVariables false
set_option linter.unusedSimpArgs false
namespace Go.Proofs.YtdgilloblfbklabGreatDoor.Own
open Go.RowKit Go.Deep Go.ChangeShapes Go.WideShapes

/-- The cells cs read as data of type t, and no list or text in it is beyond the reach. -/
def Came {H : Type} (enc : TypeId × Value → H) (P : Program) (w : World) (t : TypeId) (cs : List Value) : Prop :=
  ∃ (fuel : Nat) (d : DataW H) (pl : List MemPlace), DataW.trod enc P w 0 (fun _ => true) true fuel t cs = some (d, pl) ∧ ∀ n ∈ d.weights P t, n ≤ reachBytes

section
variable {H : Type} {enc : TypeId × Value → H} {P : Program} {w : World} {t e : TypeId} {cs : List Value}

theorem Came.int {k : IntKind} (ht : P.underlying t = some (.int k)) (h : Came enc P w t cs) : ∃ n, cs = [.int k n] ∧ (Lit.int k n).wf = true := by
  obtain ⟨fuel, d, pl, h, _⟩ := h
  obtain ⟨n, h1, _, h3⟩ := DataW.trod_int ht h
  exact ⟨n, h1, h3⟩
theorem Came.bool (ht : P.underlying t = some .bool) (h : Came enc P w t cs) : ∃ b, cs = [.bool b] := by
  obtain ⟨fuel, d, pl, h, _⟩ := h
  obtain ⟨b, h1, _⟩ := DataW.trod_bool ht h
  exact ⟨b, h1⟩
theorem Came.string (ht : P.underlying t = some .string) (h : Came enc P w t cs) : ∃ s : ByteArray, cs = [.string s] ∧ s.size ≤ 140737488351232 := by
  obtain ⟨fuel, d, pl, h, hw⟩ := h
  obtain ⟨s, h1, h2, _⟩ := DataW.trod_string ht h
  refine ⟨s, h1, ?_⟩
  injection h2 with h2 _
  subst h2
  have := hw s.data.toList.length (by simp [DataW.weights])
  rw [Array.length_toList] at this
  exact this
theorem Came.slice (ht : P.underlying t = some (.slice e)) (h : Came enc P w t cs) :
    ∃ A n c, cs = [.slice A n c] ∧ n ≤ c ∧ c ≤ maxLen ∧ n * P.bytesOf e ≤ 140737488351232 ∧ c * P.bytesOf e ≤ 140737488351232 ∧ (A = none → n = 0 ∧ c = 0) ∧
      (∀ ad, A = some ad → ∀ i, i < n → ∃ cs', w.cells? 0 (ad.add (i * P.cellsOf e)) (P.cellsOf e) = some cs' ∧ Came enc P w e cs') := by
  obtain ⟨fuel, d, pl, h, hw⟩ := h
  rcases open_slice ht h with ⟨rfl, hx⟩ | ⟨a, len, cap, m, n, D, Pl, rfl, _, hl, hm, hmm, hx, hel⟩
  · exact ⟨none, 0, 0, rfl, Nat.le_refl _, Nat.zero_le _, by simp, by simp, fun _ => ⟨rfl, rfl⟩, fun ad h => by cases h⟩
  · simp only [if_true] at hmm
    subst hmm
    injection hx with hx _
    subst hx
    have hall : ∀ (l : List (DataW H)) (x : DataW H), x ∈ l → ∀ n ∈ x.weights P e, n ∈ DataW.weightsAll P e l := by
      intro l
      induction l with
      | nil => intro x hx; cases hx
      | cons y l ih =>
        intro x hx n hn
        simp only [DataW.weightsAll, List.mem_append]
        cases hx with
        | head => exact .inl hn
        | tail _ hx => exact .inr (ih x hx n hn)
    have hcap : m * P.bytesOf e ≤ 140737488351232 := by
      have := hw (m * P.bytesOf e) (by simp only [DataW.weights, ht, List.length_map, List.length_range]; rw [show len + (m - len) = m by omega]; exact List.mem_cons_self)
      exact this
    refine ⟨some a, len, m, rfl, hl, hm, Nat.le_trans (Nat.mul_le_mul_right _ hl) hcap, hcap, (fun h => by cases h), ?_⟩
    rintro ad h i hi
    injection h with h
    subst h
    obtain ⟨cs', h1, h2⟩ := hel i (by omega)
    refine ⟨cs', h1, n, D i, Pl i, h2, fun q hq => ?_⟩
    refine hw q ?_
    simp only [DataW.weights, ht, List.mem_cons, List.mem_append]
    exact .inr (.inl (hall _ (D i) (List.mem_map.2 ⟨i, List.mem_range.2 hi, rfl⟩) q hq))
theorem Came.slice1 (ht : P.underlying t = some (.slice e)) (hc : P.cellsOf e = 1) (h : Came enc P w t cs) :
    ∃ A n c, cs = [.slice A n c] ∧ n ≤ c ∧ c ≤ maxLen ∧ n * P.bytesOf e ≤ 140737488351232 ∧ c * P.bytesOf e ≤ 140737488351232 ∧ (A = none → n = 0 ∧ c = 0) ∧
      (∀ ad, A = some ad → ∀ i, i < n → ∃ v, w.cell? (ad.add i) = some v ∧ Came enc P w e [v]) := by
  obtain ⟨A, n, c, h1, h2, h3, h4, h5, h6, h7⟩ := h.slice ht
  refine ⟨A, n, c, h1, h2, h3, h4, h5, h6, fun ad ha i hi => ?_⟩
  obtain ⟨cs', h8, h9⟩ := h7 ad ha i hi
  rw [hc, Nat.mul_one] at h8
  obtain ⟨_, hlen, _⟩ := World.cells?_some h8
  match cs', hlen with
  | [v], _ => exact ⟨v, cell_of_cells?_one h8, h9⟩
theorem Came.struct {fs : Array Field} (ht : P.underlying t = some (.struct fs)) (h : Came enc P w t cs) : cs.length = P.cellsOf t ∧ ∀ (i : Nat) (f : Field), fs[i]? = some f → Came enc P w f.type ((cs.drop f.offset).take (P.cellsOf f.type)) := by
  obtain ⟨fuel, d, pl, h, hw⟩ := h
  obtain ⟨xs, n, _, hx, hl, hlen, hf⟩ := DataW.trod_struct ht h
  injection hx with hx _
  subst hx
  refine ⟨hl, fun i f hi => ?_⟩
  have hlt : i < fs.size := (Array.getElem?_eq_some_iff.1 hi).1
  have hix : i < xs.length := by omega
  have h1 := hf i f hi
  rw [List.getElem?_eq_getElem hix] at h1
  refine ⟨n, xs[i].1, xs[i].2, h1, fun q hq => hw q ?_⟩
  simp only [DataW.weights, ht]
  have hty : (fs.toList.map (·.type))[i]? = some f.type := by simp [hi]
  exact DataW.weights_mem_each hty (by simp [List.getElem?_eq_getElem hix]) q hq
theorem Came.array {n : Nat} (ht : P.underlying t = some (.array n e)) (h : Came enc P w t cs) : cs.length = P.cellsOf t ∧ ∀ i, i < n → Came enc P w e ((cs.drop (i * P.cellsOf e)).take (P.cellsOf e)) := by
  obtain ⟨fuel, d, pl, h, hw⟩ := h
  obtain ⟨xs, m, _, hx, hl, hlen, hf⟩ := DataW.trod_array ht h
  injection hx with hx _
  subst hx
  refine ⟨hl, fun i hi => ?_⟩
  have hix : i < xs.length := by omega
  have h1 := hf i hi
  rw [List.getElem?_eq_getElem hix] at h1
  refine ⟨m, xs[i].1, xs[i].2, h1, fun q hq => hw q ?_⟩
  have hall : ∀ (l : List (DataW H)) (x : DataW H), x ∈ l → ∀ n ∈ x.weights P e, n ∈ DataW.weightsAll P e l := by
    intro l
    induction l with
    | nil => intro x hx; cases hx
    | cons y l ih =>
      intro x hx n hn
      simp only [DataW.weightsAll, List.mem_append]
      cases hx with
      | head => exact .inl hn
      | tail _ hx => exact .inr (ih x hx n hn)
  simp only [DataW.weights, ht]
  exact hall _ _ (List.mem_map.2 ⟨xs[i], List.getElem_mem hix, rfl⟩) q hq

theorem bd_u8 {n : Int} (h : (Lit.int .u8 n).wf = true) : 0 ≤ n ∧ n ≤ 255 := by simp only [Lit.wf, Bool.and_eq_true, decide_eq_true_eq] at h; exact h
theorem bd_u16 {n : Int} (h : (Lit.int .u16 n).wf = true) : 0 ≤ n ∧ n ≤ 65535 := by simp only [Lit.wf, Bool.and_eq_true, decide_eq_true_eq] at h; exact h
theorem bd_u32 {n : Int} (h : (Lit.int .u32 n).wf = true) : 0 ≤ n ∧ n ≤ 4294967295 := by simp only [Lit.wf, Bool.and_eq_true, decide_eq_true_eq] at h; exact h
theorem bd_u64 {n : Int} (h : (Lit.int .u64 n).wf = true) : 0 ≤ n ∧ n ≤ 18446744073709551615 := by simp only [Lit.wf, Bool.and_eq_true, decide_eq_true_eq] at h; exact h
theorem bd_i64 {n : Int} (h : (Lit.int .i64 n).wf = true) : -9223372036854775808 ≤ n ∧ n ≤ 9223372036854775807 := by simp only [Lit.wf, Bool.and_eq_true, decide_eq_true_eq] at h; exact h

/-- From 'for every i < n there is an x' to a list. -/
theorem list_of {α : Type} [Inhabited α] (z : α) (n : Nat) {p : Nat → α → Prop} (h : ∀ i, i < n → ∃ x, p i x) : ∃ xs : List α, xs.length = n ∧ ∀ i, i < n → p i (xs.getD i z) := by
  obtain ⟨f, hf⟩ := choose_lt h
  refine ⟨(List.range n).map f, by simp, fun i hi => ?_⟩
  simpa [List.getD_eq_getElem?_getD, hi] using hf i hi

/-- A slice of whole numbers. -/
theorem Came.ints {k : IntKind} (ht : P.underlying t = some (.slice e)) (he : P.underlying e = some (.int k)) (hc : P.cellsOf e = 1) (h : Came enc P w t cs) :
    ∃ A n c xs, cs = [.slice A n c] ∧ n ≤ c ∧ n * P.bytesOf e ≤ 140737488351232 ∧ c * P.bytesOf e ≤ 140737488351232 ∧ Reads w k A n xs ∧ ∀ j, j < n → (Lit.int k (xs.getD j 0)).wf = true := by
  obtain ⟨A, n, c, h1, h2, h3, h4, h5, h6, h7⟩ := h.slice1 ht hc
  cases A with
  | none =>
    obtain ⟨rfl, rfl⟩ := h6 rfl
    exact ⟨none, 0, 0, [], h1, h2, h4, h5, Reads.nil _ _, fun j hj => by omega⟩
  | some ad =>
    obtain ⟨xs, hl, hx⟩ := list_of (0 : Int) n (p := fun i x => w.cell? (ad.add i) = some (.int k x) ∧ (Lit.int k x).wf = true) (fun i hi => by
      obtain ⟨v, h8, h9⟩ := h7 ad rfl i hi
      obtain ⟨x, h10, h11⟩ := h9.int he
      injection h10 with h10 _
      exact ⟨x, by rw [h8, h10], h11⟩)
    unfold maxLen at h3
    exact ⟨some ad, n, c, xs, h1, h2, h4, h5, ⟨hl, by omega, fun _ => ⟨ad, rfl, fun j hj => (hx j hj).1⟩⟩, fun j hj => (hx j hj).2⟩

theorem Came.of_args {ts : List TypeId} {ds : List (DataW H)} {j : Nat} {d : DataW H} {v : Value} {pl : List MemPlace} (hsz : (DataW.weightsEach P ts ds).all (· ≤ reachBytes) = true) (ht : ts[j]? = some t) (hd : ds[j]? = some d)
    (h : DataW.Trod enc P w 0 (fun _ => true) true t v d pl) : Came enc P w t v.cells.toList := by
  obtain ⟨fuel, hf⟩ := h
  refine ⟨fuel, d, pl, hf, fun n hn => ?_⟩
  have := List.all_eq_true.1 hsz n (DataW.weights_mem_each ht hd n hn)
  simpa using this
end
end Go.Proofs.YtdgilloblfbklabGreatDoor.Own
