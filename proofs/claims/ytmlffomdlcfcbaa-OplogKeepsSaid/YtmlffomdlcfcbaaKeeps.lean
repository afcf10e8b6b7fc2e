/-
  OplogKeeps: whatever calls are made of a log, in whatever order, what stays in it has the number that it had, the base never falls, and the last number is never below the base.
  No condition.
-/
import Derived.Test.YtmlffomdlcfcbaaK
namespace Go.Proofs.Ytmlffomdlcfcbaa
open Go.ChangeShapes Go.WideShapes Go.ChangeAt Go.RowKit

theorem Try.own : ownKnob Try.prog.godebug = none := by kernel_rfl
theorem Try.laidOut : laidOutB Try.prog = true := by kernel_rfl

set_option maxHeartbeats 1600000 in
set_option maxRecDepth 100000 in
theorem keeps_lifted (os : Os) (started : os.Started) (H : Type) (enc : TypeId × Value → H) :
    ReturnsInHanded {} Try.checked os 5 .any (Rows.oplogKeepsSpec.pre6 enc Try.prog Try.f5 Rows.oplogKeepsRow.domain false) (Rows.oplogKeepsSpec.post enc Try.prog Try.f5 false true false false) := by
  refine returnsInHanded_of_change (C := Try.checked) Try.own started (by kernel_rfl) Try.func5
    (ChangeSpec.witness6 (enc := enc) (C := Try.checked) false ⟨#[], #[.slice none 0 0, .slice none 0 0], []⟩ 8 (by kernel_rfl) (by kernel_rfl) (by kernel_rfl) (by kernel_rfl)) ?_
  intro W base args ds gs before hval0 hW _ _
  have hW' := hW
  obtain ⟨p, q, hA0, hV, rfl, _, _⟩ := hW
  have hA : DataW.TrodAll enc Try.prog W 0 (fun _ => true) true Try.f5.params.toList args.toList ds p := hA0
  rw [Try.params5] at hA
  obtain ⟨v0, v1, d0, d1, p0, p1, rfl, rfl, rfl, h0, h1⟩ := trodAll_two hA
  obtain ⟨rfl, rfl⟩ := trodVars_none hV
  have k0 := h0
  have k1 := h1
  obtain ⟨z0, f0⟩ := h0
  obtain ⟨z1, f1⟩ := h1
  obtain ⟨a0, n0, c0, rfl⟩ := okWide_slice Try.underlying22 (hval0 0 22 v0 rfl rfl)
  obtain ⟨a1, n1, c1, rfl⟩ := okWide_slice Try.underlying23 (hval0 1 23 v1 rfl rfl)
  clear hA0 hval0
  simp only [List.append_nil] at hW'
  have hlt0 : ∀ x ∈ p0, x.block < W.heap.size := fun x hx => by simpa using hW'.lt x (by simp [hx])
  have hlt1 : ∀ x ∈ p1, x.block < W.heap.size := fun x hx => by simpa using hW'.lt x (by simp [hx])
  obtain ⟨xs, hr⟩ := open_texts f0
  have fin : ∀ (e : Ending) (W' : World), Holds W e W' → ∃ r, e = .returned r ∧ Rows.oplogKeepsSpec.post enc Try.checked.prog Try.f5 false true false false W #[.slice a0 n0 c0, .slice a1 n1 c1] r W' := by
    rintro e W' ⟨rfl, hb⟩
    exact ⟨_, rfl, _, _, _, [], _, [], hW', trodAll_mk1 (shut_bool Try.underlying4 true), trodAll_mk2 (Below.trod Try.laidOut (by kernel_rfl) (of_decide_eq_true (by kernel_rfl)) k0 hb hlt0) (Below.trod Try.laidOut (by kernel_rfl) (of_decide_eq_true (by kernel_rfl)) k1 hb hlt1), rfl, hb.frame _, fun h => by cases h⟩
  rcases open_ops f1 with ⟨a, cap, hv⟩ | ⟨b, off, len, cap, K, N, X, hv, hlen, hob, hk, hn, hx⟩
  · have := keeps_empty W _ xs hr a cap
    rw [← hv] at this
    exact this.mono fin
  · have := keeps_any W _ xs hr b off len cap K N X (by unfold maxLen at hlen; omega) hob hk hn hx
    rw [← hv] at this
    exact this.mono fin

theorem keeps_holds : Rows.OplogKeepsSaid :=
  OpenClaim.holds_of_wide 5 Try.f5 rfl rfl rfl rfl rfl rfl rfl ⟨rfl, rfl, rfl, rfl, rfl⟩ rfl rfl rfl rfl rfl (by kernel_rfl) Try.func5 (by kernel_rfl)
    (of_decide_eq_true (by kernel_rfl)) (by unfold Func.isWrapper; rw [if_neg (of_decide_eq_false (by kernel_rfl))]; exact ⟨rfl, rfl⟩)
    (fun os started H enc _ => keeps_lifted os started H enc)

#print axioms keeps_holds
end Go.Proofs.Ytmlffomdlcfcbaa
