import Derived.Test.YtjnomnaeegcafaaI
namespace Go.Proofs.Ytjnomnaeegcafaa
open Go.RowKit Go.Shelf

theorem lives_order : orderAll [(1, 2), (2, 1)] 9 = [(2, 9), (1, 2), (9, 1)] := by decide
theorem lives_good : mayB [(1, 2), (2, 1)] 9 = true := by decide
theorem lives_bad : mayB [(1, 2)] 1 = false := by decide

theorem row_new (w : World) (zs : List Mv) : Row (w.alloc (.cells (cellsM zs).toArray 28)) w.heap.size zs.length zs [] :=
  ⟨by rw [heap_alloc_new]; simp, by simp⟩

set_option maxRecDepth 100000 in
set_option maxHeartbeats 4000000 in
theorem lives_true (w : World) : Calls Try.prog 7 #[] w fun e w' => e = .returned (.bool true) ∧ Below w.heap.size w w' := by
  have hb1 : Below w.heap.size w (w.alloc (.cells #[.int .i64 1, .int .i64 2, .int .i64 2, .int .i64 1] 28)) := (Below.refl _ w).alloc (Nat.le_refl _) _
  have L := order_good (w.alloc (.cells #[.int .i64 1, .int .i64 2, .int .i64 2, .int .i64 1] 28)) (.slice (some ⟨w.heap.size, 0, none⟩) 2 2) [(1, 2), (2, 1)] 9 ((row_new w [(1, 2), (2, 1)]).reads 2 (by decide)) (by decide) lives_good
  rw [lives_order] at L
  have HL := Lib.hid L
  have HB := Lib.hid hb1
  have L2 := Lib.hid (fun (w' : World) => order_bad (w'.alloc (.cells #[.int .i64 1, .int .i64 2] 28)) (.slice (some ⟨w'.heap.size, 0, none⟩) 1 1) [(1, 2)] 1 ((row_new w' [(1, 2)]).reads 1 (by decide)) (by decide) lives_bad)
  have S6 := Lib.hid (fun (w' : World) => slot_any 6 w')
  have S7 := Lib.hid (fun (w' : World) => slot_any 7 w')
  have FR := Lib.hid (fun (w' : World) => frame_any 2 2 w')
  clear L hb1
  go_enter Try.func7, Try.ntmps7
  go_wp2_with fail
  refine HL.out.mono ?_
  rintro e w1 ⟨vo, rfl, hown, hbb1⟩
  rcases row_of_own hown with ⟨_, hx, _⟩ | ⟨g, cap, rest, rfl, hg, hcap, hlen, hR⟩
  · exact absurd hx (by decide)
  have hbt := HB.out.trans (hbb1.mono HB.out.size)
  have HR := Lib.hid (And.intro hR hbt)
  have c0 := (hR.cells 0 (by decide)).1
  have c1 := (hR.cells 0 (by decide)).2
  clear hown hR hbt hbb1
  simp only [List.length_cons, List.length_nil, Nat.zero_add, Nat.reduceAdd]
  go_wp2_with fail
  refine (L2.out _).mono ?_
  rintro e w2 ⟨rfl, hb2⟩
  have hb2' : Below w1.heap.size w1 w2 := ((Below.refl _ w1).alloc (Nat.le_refl _) _).trans (hb2.mono (by simp))
  have hR2 := HR.out.1.ch (F := fun _ => False) (Ch.of_below hb2') (by simp)
  have d0 := (hR2.cells 0 (by decide)).1
  have d1 := (hR2.cells 0 (by decide)).2
  have HB2 := Lib.hid (HR.out.2.trans (hb2'.mono HR.out.2.size))
  clear c0 c1 hb2 hb2' hR2
  go_wp2_with fail
  refine (S6.out _).mono ?_
  rintro e w3 ⟨rfl, rfl⟩
  go_wp2_with fail
  refine (S7.out _).mono ?_
  rintro e w3 ⟨rfl, rfl⟩
  simp only [List.getD_cons_zero, Nat.zero_mul, Nat.zero_add] at d0 d1
  go_wp2_with fail
  refine (FR.out _).mono ?_
  rintro e w3 ⟨rfl, rfl⟩
  go_wp2
  go_ret
  exact ⟨rfl, HB2.out⟩

end Go.Proofs.Ytjnomnaeegcafaa
