import Derived.Test.YtjnomnaeegcafaaP
import Derived.ProofKit
import Derived.Lib.SmallJoins
import Derived.SizedLaws
import Derived.SliceStrings
import Derived.Deep.Slices
import Derived.Deep.Fields
import Derived.ChangeSame
namespace Go.Proofs.Ytjnomnaeegcafaa
open Go.ChangeShapes Go.WideShapes Go.ChangeAt Go.RowKit Go.Joins Go.Deep

theorem moves_any (w : World) (v : Value) (xs : List Mv) (spare : Int) (hr : ReadsM w v xs) (hl : xs.length * 16 ≤ 140737488355328) :
    Calls Try.prog 4 #[v, .int .i64 spare] w (Holds w) := by
  cases hm : mayB xs spare
  · exact moves_bad w v xs spare hr hl hm
  · exact moves_good w v xs spare hr hl hm

theorem Try.cells28 : Try.prog.cellsOf 28 = 2 := by kernel_rfl
theorem Try.cells3 : Try.prog.cellsOf 3 = 1 := by kernel_rfl
theorem Try.bytes28 : Try.prog.bytesOf 28 = 16 := by kernel_rfl

section
variable {H : Type} {enc : TypeId × Value → H} {w : World} {base : Nat} {spare : Nat → Bool} {held : Bool}

/-- Moves that came in. -/
theorem open_moves {fuel : Nat} {v : Value} {x : DataW H × List MemPlace} (h : DataW.trod enc Try.prog w base spare held fuel 22 [v] = some x) :
    ∃ xs, ReadsM w v xs ∧ (xs = [] ∨ ∃ es sp, x.1 = .slice es sp ∧ es.length = xs.length) := by
  rcases open_slice Try.underlying22 h with ⟨hcs, _⟩ | ⟨a, len, cap, m, n, D, Pl, hcs, _, hl, hm, hmm, hxx, hi⟩
  · exact ⟨[], ⟨none, 0, by simpa using hcs, fun _ => ⟨rfl, rfl⟩, fun h => by simp at h⟩, .inl rfl⟩
  obtain rfl : v = .slice (some a) len cap := by simpa using hcs
  have hlm : len ≤ m := by rw [hmm]; split <;> omega
  rw [Try.cells28] at hi
  have key : ∀ i, ∃ (k q : Int), i < len → w.cell? (a.add (i * 2)) = some (.int .i64 k) ∧ w.cell? (a.add (i * 2 + 1)) = some (.int .i64 q) := by
    intro i
    by_cases hil : i < len
    · obtain ⟨cs', hc, ht⟩ := hi i (by omega)
      obtain ⟨ys, n', _, _, _, hyl, hf⟩ := DataW.trod_struct Try.underlying28 ht
      obtain ⟨_, hcl, hat⟩ := World.cells?_some hc
      obtain ⟨c0, c1, rfl⟩ : ∃ c0 c1, cs' = [c0, c1] := by
        match cs', hcl with
        | [c0, c1], _ => exact ⟨c0, c1, rfl⟩
      obtain ⟨y0, y1, rfl⟩ : ∃ y0 y1, ys = [y0, y1] := by
        match ys, hyl with
        | [y0, y1], _ => exact ⟨y0, y1, rfl⟩
      have t0 : DataW.trod enc Try.prog w base spare held n' 3 (([c0, c1].drop 0).take (Try.prog.cellsOf 3)) = some y0 := hf 0 _ rfl
      have t1 : DataW.trod enc Try.prog w base spare held n' 3 (([c0, c1].drop 1).take (Try.prog.cellsOf 3)) = some y1 := hf 1 _ rfl
      rw [Try.cells3] at t0 t1
      obtain ⟨k, e0, _⟩ := DataW.trod_int Try.underlying3 t0
      obtain ⟨q, e1, _⟩ := DataW.trod_int Try.underlying3 t1
      simp at e0 e1
      subst e0 e1
      exact ⟨k, q, fun _ => ⟨hat 0 (by omega), by rw [← add_add]; exact hat 1 (by omega)⟩⟩
    · exact ⟨0, 0, fun h => absurd h hil⟩
  obtain ⟨K, hK⟩ := Classical.axiomOfChoice key
  obtain ⟨N, hN⟩ := Classical.axiomOfChoice hK
  have hxl : ((List.range len).map fun i => (K i, N i)).length = len := by simp
  refine ⟨(List.range len).map fun i => (K i, N i), ⟨some a, cap, by rw [hxl], (fun h => nomatch h), fun h0 => ?_⟩, .inr ⟨_, _, by rw [hxx], by simp⟩⟩
  rw [hxl] at h0
  have hc0 := (hN 0 h0).1
  have hspot := World.cell?_spot hc0
  obtain ⟨b, off, spot⟩ := a
  obtain rfl : spot = none := by simpa [Addr.add] using hspot
  simp only [Addr.add_lit, ← Nat.add_assoc] at hN hc0
  refine ⟨b, off, rfl, World.block_lt_of_cell? _ _ hc0, fun i hi => ?_⟩
  rw [hxl] at hi
  have hg : ((List.range len).map fun i => (K i, N i)).getD i (0, 0) = (K i, N i) := by simp [List.getD, List.getElem?_range hi]
  rw [hg]
  exact hN i hi
end

end Go.Proofs.Ytjnomnaeegcafaa
