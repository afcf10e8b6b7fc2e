import Derived.Test.YtmlffomdlcfcbaaT
import Derived.Test.YtmlffomdlcfcbaaK
namespace Go.Proofs.Ytmlffomdlcfcbaa
open Go.ChangeShapes Go.WideShapes Go.ChangeAt Go.RowKit Go.Deep

set_option maxRecDepth 100000 in
set_option maxHeartbeats 4000000 in
theorem does_empty (w : World) (v0 : Value) (first : List ByteArray) (base : Int) (hr : Reads w v0 (first.map Value.string)) (a1 : Option Addr) (cap : Nat)
    (h0 : 0 ≤ base) (h1 : base ≤ 1099511627776) (hl : first.length ≤ 4096) :
    Calls Try.prog 3 #[.int .i64 base, v0, .slice a1 0 cap] w (Holds w) := by
  have HR := Lib.hid hr
  obtain ⟨a0, c0, rfl⟩ := hr.slice
  simp only [List.length_map] at *
  clear hr
  go_enter Try.func3, Try.ntmps3
  go_wp2_with fail
  refine (new_ok w _ first HR.out base h0 h1 hl).mono ?_
  rintro e w1 ⟨b, v, rfl, hl1, hb1⟩
  go_wp2_with fail
  refine (rnew_ok w1 _ first (HR.out.below hb1) base h0 h1 hl).mono ?_
  rintro e w2 ⟨b2, v2, rfl, hr2, hb2⟩
  have hb := hb1.trans (hb2.mono hb1.size)
  clear HR hl1 hr2 hb1 hb2
  go_wp2_with fail
  refine (lives_any _).mono ?_
  rintro e w3 ⟨rfl, hb3⟩
  have hbb := hb.trans (hb3.mono hb.size)
  clear hb hb3
  go_wp2
  go_loopw [11] (fun i wr => i = .int .i64 0 ∧ Below w.heap.size w wr) (fun _ _ => 0)
  case atStart => exact ⟨rfl, hbb⟩
  case round =>
    obtain ⟨rfl, hbel⟩ := hrel
    clear hbb
    go_wp2
    go_ret
    exact ⟨rfl, hbel⟩

section
variable {H : Type} {enc : TypeId × Value → H} {w : World} {base : Nat} {spare : Nat → Bool} {held : Bool}

/-- A list of calls that came in: its parts, the numbers within their word, and how many data it is. -/
theorem open_ops2 {fuel : Nat} {v : Value} {x : DataW H × List MemPlace} (h : DataW.trod enc Try.prog w base spare held fuel 23 [v] = some x) :
    (∃ a cap, v = .slice a 0 cap) ∨ ∃ (b off len cap : Nat) (K N : Nat → Int) (X : Nat → ByteArray), v = .slice (some ⟨b, off, none⟩) len cap ∧ (∃ es sp, x.1 = .slice es sp ∧ es.length = len) ∧ (0 < len → b < w.heap.size) ∧
      (∀ i, i < len → N i ≤ 9223372036854775807) ∧
      (∀ i, i < len → w.cell? ⟨b, off + i * 3, none⟩ = some (.int .i64 (K i))) ∧ (∀ i, i < len → w.cell? ⟨b, off + i * 3 + 1, none⟩ = some (.int .i64 (N i))) ∧ (∀ i, i < len → w.cell? ⟨b, off + i * 3 + 2, none⟩ = some (.string (X i))) := by
  rcases open_slice Try.underlying23 h with ⟨hcs, _⟩ | ⟨a, len, cap, m, n, D, Pl, hcs, _, hl, hm, hmm, hxx, hi⟩
  · exact .inl ⟨none, 0, by simpa using hcs⟩
  obtain rfl : v = .slice (some a) len cap := by simpa using hcs
  have hlm : len ≤ m := by rw [hmm]; split <;> omega
  rw [Try.cells33] at hi
  have key : ∀ i, ∃ (k q : Int) (t : ByteArray), i < len → w.cell? (a.add (i * 3)) = some (.int .i64 k) ∧ w.cell? (a.add (i * 3 + 1)) = some (.int .i64 q) ∧ w.cell? (a.add (i * 3 + 2)) = some (.string t) ∧ q ≤ 9223372036854775807 := by
    intro i
    by_cases hil : i < len
    · obtain ⟨cs', hc, ht⟩ := hi i (by omega)
      obtain ⟨ys, n', _, _, _, hyl, hf⟩ := DataW.trod_struct Try.underlying33 ht
      obtain ⟨_, hcl, hat⟩ := World.cells?_some hc
      obtain ⟨c0, c1, c2, rfl⟩ : ∃ c0 c1 c2, cs' = [c0, c1, c2] := by
        match cs', hcl with
        | [c0, c1, c2], _ => exact ⟨c0, c1, c2, rfl⟩
      obtain ⟨y0, y1, y2, rfl⟩ : ∃ y0 y1 y2, ys = [y0, y1, y2] := by
        match ys, hyl with
        | [y0, y1, y2], _ => exact ⟨y0, y1, y2, rfl⟩
      have t0 : DataW.trod enc Try.prog w base spare held n' 3 (([c0, c1, c2].drop 0).take (Try.prog.cellsOf 3)) = some y0 := hf 0 _ rfl
      have t1 : DataW.trod enc Try.prog w base spare held n' 3 (([c0, c1, c2].drop 1).take (Try.prog.cellsOf 3)) = some y1 := hf 1 _ rfl
      have t2 : DataW.trod enc Try.prog w base spare held n' 9 (([c0, c1, c2].drop 2).take (Try.prog.cellsOf 9)) = some y2 := hf 2 _ rfl
      rw [Try.cells3] at t0 t1
      rw [Try.cells9] at t2
      obtain ⟨k, e0, _⟩ := DataW.trod_int Try.underlying3 t0
      obtain ⟨q, e1, _, hwf⟩ := DataW.trod_int Try.underlying3 t1
      obtain ⟨u, e2, _⟩ := DataW.trod_string Try.underlying9 t2
      simp at e0 e1 e2
      subst e0 e1 e2
      have hq : q ≤ 9223372036854775807 := by
        have h2 : q ≤ IntKind.i64.max := of_decide_eq_true (by simp only [Lit.wf, Bool.and_eq_true] at hwf; exact hwf.2)
        exact h2
      exact ⟨k, q, u, fun _ => ⟨hat 0 (by omega), by rw [← add_add]; exact hat 1 (by omega), by rw [← add_add]; exact hat 2 (by omega), hq⟩⟩
    · exact ⟨0, 0, ⟨#[]⟩, fun h => absurd h hil⟩
  by_cases h0 : len = 0
  · subst h0
    exact .inl ⟨_, _, rfl⟩
  obtain ⟨k0, q0, u0, hc0⟩ := key 0
  have hspot := World.cell?_spot (hc0 (by omega)).1
  obtain ⟨b, off, spot⟩ := a
  obtain rfl : spot = none := by simpa [Addr.add] using hspot
  obtain ⟨K, hK⟩ := Classical.axiomOfChoice key
  obtain ⟨N, hN⟩ := Classical.axiomOfChoice hK
  obtain ⟨X, hX⟩ := Classical.axiomOfChoice hN
  simp only [Addr.add_lit, ← Nat.add_assoc] at hX hc0
  refine .inr ⟨b, off, len, cap, K, N, X, rfl, ⟨_, _, by rw [hxx], by simp⟩, fun _ => ?_, fun i hi => (hX i hi).2.2.2, fun i hi => (hX i hi).1, fun i hi => (hX i hi).2.1, fun i hi => (hX i hi).2.2.1⟩
  exact World.block_lt_of_cell? _ _ (hc0 (by omega)).1
end

end Go.Proofs.Ytmlffomdlcfcbaa
