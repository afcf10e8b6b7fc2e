import Derived.Test.YtnmooepmpebepaaU
import Derived.Test.YtnmooepmpebepaaP
namespace Go.Proofs.Ytnmooepmpebepaa
open Go.ChangeShapes Go.WideShapes Go.ChangeAt Go.RowKit Go.Joins Go.Deep

/-! ### What a reading's bulk bounds -/
theorem bulk_one {H : Type} (d : DataW H) : 1 ≤ Rows.uptoBulk d := by
  cases d with
  | lit l => cases l <;> simp [Rows.uptoBulk]
  | nil => simp [Rows.uptoBulk]
  | ptr d => simp [Rows.uptoBulk]
  | slice elems spare => simp [Rows.uptoBulk]
  | agg parts => simp [Rows.uptoBulk]
  | iface t d => simp [Rows.uptoBulk]
  | map entries => simp [Rows.uptoBulk]
  | held h => simp [Rows.uptoBulk]
theorem bulk_length {H : Type} (l : List (DataW H)) : l.length ≤ Rows.uptoBulkAll l := by
  induction l with
  | nil => simp [Rows.uptoBulkAll]
  | cons x r ih => have := bulk_one x; simp only [Rows.uptoBulkAll, List.length_cons]; omega
theorem bulk_slice {H : Type} (elems spare : List (DataW H)) : Rows.uptoBulkAll elems + 1 ≤ Rows.uptoBulk (.slice elems spare) := by
  simp only [Rows.uptoBulk]; omega
theorem bulk_app {H : Type} (l r : List (DataW H)) : Rows.uptoBulkAll (l ++ r) = Rows.uptoBulkAll l + Rows.uptoBulkAll r := by
  induction l with
  | nil => simp [Rows.uptoBulkAll]
  | cons x l ih => simp only [List.cons_append, Rows.uptoBulkAll, ih]; omega
theorem bulk_sum {H : Type} (D : Nat → DataW H) (B : Nat → List Int) : ∀ n, (∀ k, k < n → (B k).length + 1 ≤ Rows.uptoBulk (D k)) → ((List.range n).map B).flatten.length + n ≤ Rows.uptoBulkAll ((List.range n).map D)
  | 0, _ => by simp [Rows.uptoBulkAll]
  | n + 1, h => by
    have ih := bulk_sum D B n (fun k hk => h k (by omega))
    have hn := h n (by omega)
    rw [List.range_succ, List.map_append, List.map_append, bulk_app, List.flatten_append, List.length_append]
    simp only [List.map_cons, List.map_nil, List.flatten_cons, List.flatten_nil, List.append_nil, Rows.uptoBulkAll]
    omega

section
variable {H : Type} {enc : TypeId × Value → H} {w : World} {spare : Nat → Bool} {held : Bool}

theorem add0 (x : Addr) : x.add 0 = x := by simp [Addr.add]

/-- A slice of bytes that came in. -/
theorem open_bytesB {fuel : Nat} {v : Value} {x : DataW H × List MemPlace} (h : DataW.trod enc Try.prog w 0 spare held fuel 26 [v] = some x) :
    ∃ b : List Int, (∀ a n c, v = .slice a n c → a = none → v = .slice none 0 0) ∧ ReadsB w.heap.size w v b ∧ b.length + 1 ≤ Rows.uptoBulk x.1 ∧ (b = [] ∨ ∃ es sp, x.1 = .slice es sp ∧ es.length = b.length) ∧ ∀ j, j < b.length → 0 ≤ st b j ∧ st b j < 256 := by
  rcases open_slice Try.underlying26 h with ⟨hcs, hx⟩ | ⟨a, len, cap, m, n, D, Pl, hcs, _, hl, hm, hmm, hxx, hi⟩
  · obtain rfl : v = .slice none 0 0 := by simpa using hcs
    exact ⟨[], fun _ _ _ _ _ => rfl, ⟨none, 0, rfl, Nat.le_refl _, fun h => by simp at h⟩, by rw [hx]; simp [Rows.uptoBulk], .inl rfl, fun j hj => by simp at hj⟩
  obtain rfl : v = .slice (some a) len cap := by simpa using hcs
  have hlm : len ≤ m := by rw [hmm]; split <;> omega
  rw [Try.cells5] at hi
  have key : ∀ i, ∃ z : Int, i < len → w.cell? (a.add i) = some (.int .u8 z) ∧ 0 ≤ z ∧ z < 256 := by
    intro i
    by_cases hil : i < len
    · obtain ⟨cs', hc, ht⟩ := hi i (by omega)
      obtain ⟨_, hcl, hat⟩ := World.cells?_some hc
      obtain ⟨c0, rfl⟩ : ∃ c0, cs' = [c0] := by
        match cs', hcl with
        | [c0], _ => exact ⟨c0, rfl⟩
      obtain ⟨z, e0, _, hwf⟩ := DataW.trod_int Try.underlying5 ht
      simp only [List.cons.injEq, and_true] at e0
      subst e0
      have h0 := hat 0 (by omega)
      rw [Nat.mul_one, add0 (a.add i)] at h0
      exact ⟨z, fun _ => ⟨h0, u8_of hwf⟩⟩
    · exact ⟨0, fun h => absurd h hil⟩
  obtain ⟨K, hK⟩ := Classical.axiomOfChoice key
  have hbl : ((List.range len).map K).length = len := by simp
  have hst : ∀ j, j < len → st ((List.range len).map K) j = K j := fun j hj => by simp [st, List.getD, List.getElem?_range hj]
  refine ⟨(List.range len).map K, fun _ _ _ h1 h2 => ?_, ⟨some a, cap, by rw [hbl], by rw [hbl]; exact hl, fun h0 => ?_⟩, ?_, .inr ⟨_, _, by rw [hxx], by simp⟩, fun j hj => ?_⟩
  · simp only [Value.slice.injEq] at h1
    rw [← h1.1] at h2; cases h2
  · rw [hbl] at h0
    have hc0 := (hK 0 h0).1
    have hspot := World.cell?_spot hc0
    obtain ⟨q, off, spot⟩ := a
    obtain rfl : spot = none := by simpa [Addr.add] using hspot
    refine ⟨q, off, rfl, ?_, ?_, fun j hj => ?_⟩
    · have := World.block_lt_of_cell? _ _ hc0
      simp only [Addr.add_lit] at this
      exact Nat.ne_of_lt this
    · have := World.block_lt_of_cell? _ _ hc0
      simpa only [Addr.add_lit] using this
    · rw [hbl] at hj
      rw [hst j hj]
      have := (hK j hj).1
      simpa only [Addr.add_lit] using this
  · rw [hxx, hbl]
    have h1 := bulk_slice ((List.range len).map D) ((List.range (m - len)).map fun j => D (len + j))
    have h2 := bulk_length ((List.range len).map D)
    simp only [List.length_map, List.length_range] at h2
    exact Nat.le_trans (by omega) h1
  · rw [hbl] at hj
    rw [hst j hj]
    exact (hK j hj).2

/-- Slices of bytes that came in, in a slice. -/
theorem open_partsB {fuel : Nat} {v : Value} {x : DataW H × List MemPlace} (h : DataW.trod enc Try.prog w 0 spare held fuel 22 [v] = some x) :
    ∃ ps : List (List Int), PartsX w v ps ∧ ps.flatten.length + ps.length ≤ Rows.uptoBulk x.1 := by
  rcases open_slice Try.underlying22 h with ⟨hcs, hx⟩ | ⟨a, len, cap, m, n, D, Pl, hcs, _, hl, hm, hmm, hxx, hi⟩
  · obtain rfl : v = .slice none 0 0 := by simpa using hcs
    exact ⟨[], ⟨none, 0, rfl, fun h => by simp at h⟩, by simp⟩
  obtain rfl : v = .slice (some a) len cap := by simpa using hcs
  have hlm : len ≤ m := by rw [hmm]; split <;> omega
  have hc26 : Try.prog.cellsOf 26 = 1 := by kernel_rfl
  rw [hc26] at hi
  have key : ∀ i, ∃ b : List Int, i < len → ∃ u, w.cell? (a.add i) = some u ∧ (∀ a n c, u = .slice a n c → a = none → u = .slice none 0 0) ∧ ReadsB w.heap.size w u b ∧ b.length + 1 ≤ Rows.uptoBulk (D i) := by
    intro i
    by_cases hil : i < len
    · obtain ⟨cs', hc, ht⟩ := hi i (by omega)
      obtain ⟨_, hcl, hat⟩ := World.cells?_some hc
      obtain ⟨c0, rfl⟩ : ∃ c0, cs' = [c0] := by
        match cs', hcl with
        | [c0], _ => exact ⟨c0, rfl⟩
      obtain ⟨b, h1, h2, h3, _⟩ := open_bytesB ht
      have h0 := hat 0 (by omega)
      rw [Nat.mul_one, add0 (a.add i)] at h0
      exact ⟨b, fun _ => ⟨c0, h0, h1, h2, h3⟩⟩
    · exact ⟨[], fun h => absurd h hil⟩
  obtain ⟨B, hB⟩ := Classical.axiomOfChoice key
  have hbl : ((List.range len).map B).length = len := by simp
  refine ⟨(List.range len).map B, ⟨some a, cap, by rw [hbl], fun h0 => ?_⟩, ?_⟩
  · rw [hbl] at h0
    obtain ⟨u0, hc0, _⟩ := hB 0 h0
    have hspot := World.cell?_spot hc0
    obtain ⟨q, off, spot⟩ := a
    obtain rfl : spot = none := by simpa [Addr.add] using hspot
    refine ⟨q, off, rfl, ?_, fun k hk => ?_⟩
    · have := World.block_lt_of_cell? _ _ hc0
      simpa only [Addr.add_lit] using this
    · rw [hbl] at hk
      obtain ⟨u, hc, h1, h2, _⟩ := hB k hk
      refine ⟨u, by simpa only [Addr.add_lit] using hc, h1, ?_⟩
      simpa [List.getD, List.getElem?_range hk] using h2
  · rw [hxx, hbl]
    have h1 := bulk_slice ((List.range len).map D) ((List.range (m - len)).map fun j => D (len + j))
    have h2 := bulk_sum D B len (fun k hk => by obtain ⟨u, _, _, _, h⟩ := hB k hk; exact h)
    exact Nat.le_trans (by omega) h1
end

end Go.Proofs.Ytnmooepmpebepaa
