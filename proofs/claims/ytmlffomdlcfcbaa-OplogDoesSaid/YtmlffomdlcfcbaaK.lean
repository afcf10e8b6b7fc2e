import Derived.Test.YtmlffomdlcfcbaaJ
import Derived.ProofKit
import Derived.SizedLaws
import Derived.SliceStrings
import Derived.Deep.Slices
import Derived.Deep.Fields
import Derived.ChangeSame
namespace Go.Proofs.Ytmlffomdlcfcbaa
open Go.ChangeShapes Go.WideShapes Go.ChangeAt Go.RowKit Go.Deep

set_option maxRecDepth 100000 in
set_option maxHeartbeats 4000000 in
theorem keeps_empty (w : World) (v0 : Value) (xs : List ByteArray) (hr : Reads w v0 (xs.map Value.string)) (a1 : Option Addr) (cap : Nat) :
    Calls Try.prog 5 #[v0, .slice a1 0 cap] w (Holds w) := by
  have HR := Lib.hid hr
  obtain ⟨a0, c0, rfl⟩ := hr.slice
  simp only [List.length_map] at *
  clear hr
  by_cases hl : 1000 < xs.length
  · have e1 : decide ((1000 : Int) < (xs.length : Int)) = true := by simp; omega
    go_enter Try.func5, Try.ntmps5
    go_wp2_with (first | (go_at_call 8; ((refine (lives_any _).mono ?_); rintro e w1 ⟨rfl, hb1⟩)))
    go_ret
    exact ⟨rfl, hb1⟩
  have e1 : decide ((1000 : Int) < (xs.length : Int)) = false := by simp; omega
  have HN := Lib.hid (new_ok w _ xs HR.out 0 (by omega) (by omega) (by omega))
  go_enter Try.func5, Try.ntmps5
  go_wp2_with fail
  refine HN.out.mono ?_
  rintro e w1 ⟨b, v, rfl, hl1, hb1⟩
  clear HN HR
  go_wp2_with fail
  refine (lives_any _).mono ?_
  rintro e w2 ⟨rfl, hb2⟩
  have hl2 : LogAt w2 w.heap.size b 0 xs v := hl1.ch (F := fun _ => False) (Ch.of_below_size hb2) (by simp) (by simp)
  have hb3 : Below w.heap.size w w2 := hb1.trans (hb2.mono hb1.size)
  clear hl1 hb1 hb2
  go_wp2
  go_loopw [7] (fun i wr => i = .int .i64 0 ∧ Below w.heap.size w wr) (fun _ _ => 0)
  case atStart => exact ⟨rfl, hb3⟩
  case round =>
    obtain ⟨rfl, hbel⟩ := hrel
    clear hl2 hb3
    go_wp2
    go_ret
    exact ⟨rfl, hbel⟩

section
variable {H : Type} {enc : TypeId × Value → H} {w : World} {base : Nat} {spare : Nat → Bool} {held : Bool}

theorem Try.cells3 : Try.prog.cellsOf 3 = 1 := by kernel_rfl
theorem Try.cells9 : Try.prog.cellsOf 9 = 1 := by kernel_rfl
theorem Try.cells33 : Try.prog.cellsOf 33 = 3 := by kernel_rfl

/-- An argument that is a list of texts. -/
theorem open_texts {fuel : Nat} {v : Value} {x : DataW H × List MemPlace} (h : DataW.trod enc Try.prog w base spare held fuel 22 [v] = some x) : ∃ xs : List ByteArray, Reads w v (xs.map Value.string) := by
  rcases open_strings Try.underlying22 Try.underlying9 Try.cells9 h with ⟨hcs, _⟩ | ⟨a, len, cap, ss, hcs, _, hl, _, hss, _, hc, _⟩
  · exact ⟨[], .inl ⟨by simpa using hcs, rfl⟩⟩
  · have hle : len ≤ ss.length := by rw [hss]; split <;> omega
    refine ⟨ss.take len, .inr ⟨a, cap, ?_, ?_⟩⟩
    · have : (ss.take len).length = len := by simp; omega
      simp only [List.length_map, this]
      simpa using hcs
    · intro j u hu
      have hj : j < len := by have := (List.getElem?_eq_some_iff.1 hu).1; simp at this; omega
      rw [hc j (by omega), ← hu]
      simp [List.getElem?_take, hj, List.getD, List.getElem?_eq_getElem (show j < ss.length by omega)]

/-- An argument that is a list of calls. -/
theorem open_ops {fuel : Nat} {v : Value} {x : DataW H × List MemPlace} (h : DataW.trod enc Try.prog w base spare held fuel 23 [v] = some x) :
    (∃ a cap, v = .slice a 0 cap) ∨ ∃ (b off len cap : Nat) (K N : Nat → Int) (X : Nat → ByteArray), v = .slice (some ⟨b, off, none⟩) len cap ∧ len ≤ maxLen ∧ (0 < len → b < w.heap.size) ∧
      (∀ i, i < len → w.cell? ⟨b, off + i * 3, none⟩ = some (.int .i64 (K i))) ∧ (∀ i, i < len → w.cell? ⟨b, off + i * 3 + 1, none⟩ = some (.int .i64 (N i))) ∧ (∀ i, i < len → w.cell? ⟨b, off + i * 3 + 2, none⟩ = some (.string (X i))) := by
  rcases open_slice Try.underlying23 h with ⟨hcs, _⟩ | ⟨a, len, cap, m, n, D, Pl, hcs, _, hl, hm, hmm, _, hi⟩
  · exact .inl ⟨none, 0, by simpa using hcs⟩
  obtain rfl : v = .slice (some a) len cap := by simpa using hcs
  have hlm : len ≤ m := by rw [hmm]; split <;> omega
  rw [Try.cells33] at hi
  have key : ∀ i, ∃ (k q : Int) (t : ByteArray), i < len → w.cell? (a.add (i * 3)) = some (.int .i64 k) ∧ w.cell? (a.add (i * 3 + 1)) = some (.int .i64 q) ∧ w.cell? (a.add (i * 3 + 2)) = some (.string t) := by
    intro i
    by_cases hil : i < len
    · obtain ⟨cs', hc, ht⟩ := hi i (by omega)
      obtain ⟨ys, n', _, _, _, hyl, hf⟩ := DataW.trod_struct Try.underlying33 ht
      obtain ⟨_, hcl, hat⟩ := World.cells?_some hc
      obtain ⟨c0, c1, c2, rfl⟩ : ∃ c0 c1 c2, cs' = [c0, c1, c2] := by
        match cs', hcl with
        | [c0, c1, c2], _ => exact ⟨c0, c1, c2, rfl⟩
      obtain ⟨y0, y1, y2, rfl⟩ : ∃ y0 y1 y2, ys = [y0, y1, y2] := by
        match ys, hyl with
        | [y0, y1, y2], _ => exact ⟨y0, y1, y2, rfl⟩
      have t0 : DataW.trod enc Try.prog w base spare held n' 3 (([c0, c1, c2].drop 0).take (Try.prog.cellsOf 3)) = some y0 := hf 0 _ rfl
      have t1 : DataW.trod enc Try.prog w base spare held n' 3 (([c0, c1, c2].drop 1).take (Try.prog.cellsOf 3)) = some y1 := hf 1 _ rfl
      have t2 : DataW.trod enc Try.prog w base spare held n' 9 (([c0, c1, c2].drop 2).take (Try.prog.cellsOf 9)) = some y2 := hf 2 _ rfl
      rw [Try.cells3] at t0 t1
      rw [Try.cells9] at t2
      obtain ⟨k, e0, _⟩ := DataW.trod_int Try.underlying3 t0
      obtain ⟨q, e1, _⟩ := DataW.trod_int Try.underlying3 t1
      obtain ⟨u, e2, _⟩ := DataW.trod_string Try.underlying9 t2
      simp at e0 e1 e2
      subst e0 e1 e2
      exact ⟨k, q, u, fun _ => ⟨hat 0 (by omega), by rw [← add_add]; exact hat 1 (by omega), by rw [← add_add]; exact hat 2 (by omega)⟩⟩
    · exact ⟨0, 0, ⟨#[]⟩, fun h => absurd h hil⟩
  by_cases h0 : len = 0
  · subst h0
    exact .inl ⟨_, _, rfl⟩
  obtain ⟨k0, q0, u0, hc0⟩ := key 0
  have hspot := World.cell?_spot (hc0 (by omega)).1
  obtain ⟨b, off, spot⟩ := a
  obtain rfl : spot = none := by simpa [Addr.add] using hspot
  obtain ⟨K, hK⟩ := Classical.axiomOfChoice key
  obtain ⟨N, hN⟩ := Classical.axiomOfChoice hK
  obtain ⟨X, hX⟩ := Classical.axiomOfChoice hN
  simp only [Addr.add_lit, ← Nat.add_assoc] at hX hc0
  refine .inr ⟨b, off, len, cap, K, N, X, rfl, by omega, fun _ => ?_, fun i hi => (hX i hi).1, fun i hi => (hX i hi).2.1, fun i hi => (hX i hi).2.2⟩
  exact World.block_lt_of_cell? _ _ (hc0 (by omega)).1
end

end Go.Proofs.Ytmlffomdlcfcbaa
