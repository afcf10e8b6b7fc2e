/-
  OplogDoes: whatever calls are made of a log, in whatever order, it answers as the log of the document does.
  No condition.
-/
import Derived.Test.YtmlffomdlcfcbaaU
namespace Go.Proofs.Ytmlffomdlcfcbaa
open Go.ChangeShapes Go.WideShapes Go.ChangeAt Go.RowKit

theorem Try.own : ownKnob Try.prog.godebug = none := by kernel_rfl
theorem Try.laidOut : laidOutB Try.prog = true := by kernel_rfl
theorem Try.bytes33' : Try.prog.bytesOf 33 = 32 := by kernel_rfl

set_option maxHeartbeats 1600000 in
set_option maxRecDepth 100000 in
theorem does_lifted (os : Os) (started : os.Started) (H : Type) (enc : TypeId × Value → H) :
    ReturnsInHanded {} Try.checked os 3 .any (Rows.oplogDoesSpec.pre6 enc Try.prog Try.f3 Rows.oplogDoesRow.domain false) (Rows.oplogDoesSpec.post enc Try.prog Try.f3 false true false false) := by
  refine returnsInHanded_of_change_sized (C := Try.checked) Try.own started (by kernel_rfl) Try.func3
    (ChangeSpec.witness6 (enc := enc) (C := Try.checked) false ⟨#[], #[.int .i64 0, .slice none 0 0, .slice none 0 0], []⟩ 8 (by kernel_rfl) (by kernel_rfl) (by kernel_rfl) (by kernel_rfl)) ?_
  intro W base args ds gs before hval0 hW _ hsz0 _
  have hW' := hW
  obtain ⟨p, q, hA0, hV, rfl, _, _⟩ := hW
  have hA : DataW.TrodAll enc Try.prog W 0 (fun _ => true) true Try.f3.params.toList args.toList ds p := hA0
  have hsz : (DataW.weightsEach Try.prog (Try.f3.params.toList ++ Rows.oplogDoesSpec.plain.varTypes Try.prog) (ds ++ gs)).all (· ≤ reachBytes) = true := hsz0
  rw [Try.params3] at hA hsz
  obtain ⟨v0, v1, v2, d0, d1, d2, p0, p1, p2, rfl, rfl, rfl, h0, h1, h2⟩ := trodAll_three hA
  obtain ⟨rfl, rfl⟩ := trodVars_none hV
  have k0 := h0
  have k1 := h1
  have k2 := h2
  obtain ⟨bs, rfl, rfl, rfl, hwf⟩ := open_int Try.underlying3 (hval0 0 3 v0 rfl rfl) h0
  obtain ⟨z1, f1⟩ := h1
  obtain ⟨z2, f2⟩ := h2
  obtain ⟨a1, n1, c1, rfl⟩ := okWide_slice Try.underlying22 (hval0 1 22 v1 rfl rfl)
  obtain ⟨a2, n2, c2, rfl⟩ := okWide_slice Try.underlying23 (hval0 2 23 v2 rfl rfl)
  clear hA0 hval0 hsz0
  simp only [List.append_nil, List.nil_append] at hW'
  have hlt1 : ∀ x ∈ p1, x.block < W.heap.size := fun x hx => by simpa using hW'.lt x (by simp [hx])
  have hlt2 : ∀ x ∈ p2, x.block < W.heap.size := fun x hx => by simpa using hW'.lt x (by simp [hx])
  obtain ⟨xs, hr⟩ := open_texts f1
  have fin : ∀ (e : Ending) (W' : World), Holds W e W' → ∃ r, e = .returned r ∧ Rows.oplogDoesSpec.post enc Try.checked.prog Try.f3 false true false false W #[.int .i64 bs, .slice a1 n1 c1, .slice a2 n2 c2] r W' := by
    rintro e W' ⟨rfl, hb⟩
    exact ⟨_, rfl, _, _, _, [], _, [], hW', trodAll_mk1 (shut_bool Try.underlying4 true), trodAll_mk3 (shut_int Try.underlying3 hwf) (Below.trod Try.laidOut (by kernel_rfl) (of_decide_eq_true (by kernel_rfl)) k1 hb hlt1) (Below.trod Try.laidOut (by kernel_rfl) (of_decide_eq_true (by kernel_rfl)) k2 hb hlt2), rfl, hb.frame _, fun h => by cases h⟩
  have hn1 : n1 = xs.length := by
    obtain ⟨a, c, he⟩ := hr.slice
    simp at he
    exact he.2.1
  by_cases ha : bs < 0 ∨ 1099511627776 < bs
  · exact (does_bad W _ bs 1 a2 n2 c2 (new_arg W _ bs ha) (rnew_arg W _ bs ha)).mono fin
  by_cases hl : 4096 < n1
  · exact (does_bad W _ bs 3 a2 n2 c2 (new_long W a1 n1 c1 bs (by omega) (by omega) hl) (rnew_long W a1 n1 c1 bs (by omega) (by omega) hl)).mono fin
  rcases open_ops2 f2 with ⟨a, cap, hv⟩ | ⟨b, off, len, cap, K, N, X, hv, ⟨es, sp, hd, hel⟩, hob, hN, hk, hn, hx⟩
  · have := does_empty W _ xs bs hr a cap (by omega) (by omega) (by omega)
    rw [← hv] at this
    exact this.mono fin
  · have hreach := sized_slice hsz (j := 2) (t := 23) (e := 33) rfl (by simp; exact hd) Try.underlying23
    rw [Try.bytes33', hel] at hreach
    have := does_ok W _ xs bs hr b off len cap K N X (by omega) (by omega) (by omega) (by have := reachBytes_lt; omega) hob hN hk hn hx
    rw [← hv] at this
    exact this.mono fin

theorem does_holds : Rows.OplogDoesSaid :=
  OpenClaim.holds_of_wide 3 Try.f3 rfl rfl rfl rfl rfl rfl rfl ⟨rfl, rfl, rfl, rfl, rfl⟩ rfl rfl rfl rfl rfl (by kernel_rfl) Try.func3 (by kernel_rfl)
    (of_decide_eq_true (by kernel_rfl)) (by unfold Func.isWrapper; rw [if_neg (of_decide_eq_false (by kernel_rfl))]; exact ⟨rfl, rfl⟩)
    (fun os started H enc _ => does_lifted os started H enc)

#print axioms does_holds
end Go.Proofs.Ytmlffomdlcfcbaa
