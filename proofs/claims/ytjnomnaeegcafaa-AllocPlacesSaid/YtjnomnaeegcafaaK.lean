import Derived.Test.YtjnomnaeegcafaaJ
namespace Go.Proofs.Ytjnomnaeegcafaa
open Go.RowKit Go.Shelf

theorem frameN_bounds (l h : Int) : 0 ≤ frameN l h ∧ frameN l h ≤ 408 := by unfold frameN; split <;> omega
theorem frameN_in {l h : Int} (hz : (frameN l h == 0) = false) : 0 ≤ l ∧ l ≤ 16 ∧ 0 ≤ h ∧ h ≤ 32 ∧ 8 * (1 + l + h) ≤ frameN l h := by
  unfold frameN at *
  split at hz
  · simp at hz
  · rename_i hx; rw [if_neg hx]; omega

set_option maxRecDepth 100000 in
set_option maxHeartbeats 4000000 in
theorem places_neg_zero (i l h : Int) (w : World) (hi0 : -9223372036854775808 ≤ i) (hi1 : i ≤ 9223372036854775807) (h0 : i < 0) (hz : (frameN l h == 0) = true) :
    Calls Try.prog 5 #[.int .i64 i, .int .i64 l, .int .i64 h] w fun e w' => e = .returned (.bool true) ∧ Below w.heap.size w w' := by
  obtain ⟨n, hn⟩ : ∃ n, frameN l h = n := ⟨_, rfl⟩
  rw [hn] at hz
  have hb := frameN_bounds l h
  rw [hn] at hb
  have S := Lib.hid (fun (w' : World) => slot_out i w' (.inl h0))
  have T := Lib.hid (fun (w' : World) => local_out i w' (.inl h0))
  have V := Lib.hid (fun (w' : World) => lives_true w')
  have F1 := Lib.hid (fun (w' : World) => frame_any l h w')
  have F2 := Lib.hid (fun (w' : World) => rframe_any l h w')
  rw [hn] at F1 F2
  have e1 : decide (0 ≤ i) = false := by simp; omega
  have e2 : decide (i < 0) = true := by simp; omega
  clear hn
  go_enter Try.func5, Try.ntmps5
  go_wp2_with fail
  refine (S.out _).mono ?_
  rintro e w1 ⟨rfl, rfl⟩
  go_wp2_with fail
  refine (T.out _).mono ?_
  rintro e w1 ⟨rfl, rfl⟩
  go_wp2_with fail
  refine (V.out _).mono ?_
  rintro e w2 ⟨rfl, hb2⟩
  have HB := Lib.hid hb2
  clear hb2
  go_wp2_with fail
  refine (F2.out _).mono ?_
  rintro e w3 ⟨rfl, rfl⟩
  go_wp2_with fail
  refine (F1.out _).mono ?_
  rintro e w3 ⟨rfl, rfl⟩
  go_wp2
  go_ret
  exact ⟨rfl, HB.out⟩

set_option maxRecDepth 100000 in
set_option maxHeartbeats 4000000 in
theorem places_neg_some (i l h : Int) (w : World) (hi0 : -9223372036854775808 ≤ i) (hi1 : i ≤ 9223372036854775807) (h0 : i < 0) (hz : (frameN l h == 0) = false) :
    Calls Try.prog 5 #[.int .i64 i, .int .i64 l, .int .i64 h] w fun e w' => e = .returned (.bool true) ∧ Below w.heap.size w w' := by
  obtain ⟨n, hn⟩ : ∃ n, frameN l h = n := ⟨_, rfl⟩
  obtain ⟨hl0, hl1, hh0, hh1, hnn⟩ := frameN_in hz
  rw [hn] at hz
  rw [hn] at hnn
  have hb := frameN_bounds l h
  rw [hn] at hb
  have S := Lib.hid (fun (w' : World) => slot_out i w' (.inl h0))
  have T := Lib.hid (fun (w' : World) => local_out i w' (.inl h0))
  have V := Lib.hid (fun (w' : World) => lives_true w')
  have F1 := Lib.hid (fun (w' : World) => frame_any l h w')
  have F2 := Lib.hid (fun (w' : World) => rframe_any l h w')
  rw [hn] at F1 F2
  have e1 : decide (0 ≤ i) = false := by simp; omega
  have e2 : decide (i < 0) = true := by simp; omega
  clear hn
  go_enter Try.func5, Try.ntmps5
  go_wp2_with fail
  refine (S.out _).mono ?_
  rintro e w1 ⟨rfl, rfl⟩
  go_wp2_with fail
  refine (T.out _).mono ?_
  rintro e w1 ⟨rfl, rfl⟩
  go_wp2_with fail
  refine (V.out _).mono ?_
  rintro e w2 ⟨rfl, hb2⟩
  have HB := Lib.hid hb2
  clear hb2
  go_wp2_with fail
  refine (F2.out _).mono ?_
  rintro e w3 ⟨rfl, rfl⟩
  go_wp2_with fail
  refine (F1.out _).mono ?_
  rintro e w3 ⟨rfl, rfl⟩
  go_wp2
  go_ret
  exact ⟨rfl, HB.out⟩

set_option maxRecDepth 100000 in
set_option maxHeartbeats 4000000 in
theorem places_big_zero (i l h : Int) (w : World) (hi0 : -9223372036854775808 ≤ i) (hi1 : i ≤ 9223372036854775807) (h0 : 32 ≤ i) (hz : (frameN l h == 0) = true) :
    Calls Try.prog 5 #[.int .i64 i, .int .i64 l, .int .i64 h] w fun e w' => e = .returned (.bool true) ∧ Below w.heap.size w w' := by
  obtain ⟨n, hn⟩ : ∃ n, frameN l h = n := ⟨_, rfl⟩
  rw [hn] at hz
  have hb := frameN_bounds l h
  rw [hn] at hb
  have S := Lib.hid (fun (w' : World) => slot_out i w' (.inr (by omega)))
  have T := Lib.hid (fun (w' : World) => local_out i w' (.inr (by omega)))
  have V := Lib.hid (fun (w' : World) => lives_true w')
  have F1 := Lib.hid (fun (w' : World) => frame_any l h w')
  have F2 := Lib.hid (fun (w' : World) => rframe_any l h w')
  rw [hn] at F1 F2
  have e1 : decide (0 ≤ i) = true := by simp; omega
  have e2 : decide (i < 0) = false := by simp; omega
  have e3 : decide (i < 7) = false := by simp; omega
  have e4 : decide (i < 8) = false := by simp; omega
  have e5 : decide (32 ≤ i) = true := by simp; omega
  clear hn
  go_enter Try.func5, Try.ntmps5
  go_wp2_with fail
  refine (S.out _).mono ?_
  rintro e w1 ⟨rfl, rfl⟩
  go_wp2_with fail
  refine (T.out _).mono ?_
  rintro e w1 ⟨rfl, rfl⟩
  go_wp2_with fail
  refine (V.out _).mono ?_
  rintro e w2 ⟨rfl, hb2⟩
  have HB := Lib.hid hb2
  clear hb2
  go_wp2_with fail
  refine (F2.out _).mono ?_
  rintro e w3 ⟨rfl, rfl⟩
  go_wp2_with fail
  refine (F1.out _).mono ?_
  rintro e w3 ⟨rfl, rfl⟩
  go_wp2
  go_ret
  exact ⟨rfl, HB.out⟩

set_option maxRecDepth 100000 in
set_option maxHeartbeats 4000000 in
theorem places_big_some (i l h : Int) (w : World) (hi0 : -9223372036854775808 ≤ i) (hi1 : i ≤ 9223372036854775807) (h0 : 32 ≤ i) (hz : (frameN l h == 0) = false) :
    Calls Try.prog 5 #[.int .i64 i, .int .i64 l, .int .i64 h] w fun e w' => e = .returned (.bool true) ∧ Below w.heap.size w w' := by
  obtain ⟨n, hn⟩ : ∃ n, frameN l h = n := ⟨_, rfl⟩
  obtain ⟨hl0, hl1, hh0, hh1, hnn⟩ := frameN_in hz
  rw [hn] at hz
  rw [hn] at hnn
  have hb := frameN_bounds l h
  rw [hn] at hb
  have S := Lib.hid (fun (w' : World) => slot_out i w' (.inr (by omega)))
  have T := Lib.hid (fun (w' : World) => local_out i w' (.inr (by omega)))
  have V := Lib.hid (fun (w' : World) => lives_true w')
  have F1 := Lib.hid (fun (w' : World) => frame_any l h w')
  have F2 := Lib.hid (fun (w' : World) => rframe_any l h w')
  rw [hn] at F1 F2
  have e1 : decide (0 ≤ i) = true := by simp; omega
  have e2 : decide (i < 0) = false := by simp; omega
  have e3 : decide (i < 7) = false := by simp; omega
  have e4 : decide (i < 8) = false := by simp; omega
  have e5 : decide (32 ≤ i) = true := by simp; omega
  clear hn
  go_enter Try.func5, Try.ntmps5
  go_wp2_with fail
  refine (S.out _).mono ?_
  rintro e w1 ⟨rfl, rfl⟩
  go_wp2_with fail
  refine (T.out _).mono ?_
  rintro e w1 ⟨rfl, rfl⟩
  go_wp2_with fail
  refine (V.out _).mono ?_
  rintro e w2 ⟨rfl, hb2⟩
  have HB := Lib.hid hb2
  clear hb2
  go_wp2_with fail
  refine (F2.out _).mono ?_
  rintro e w3 ⟨rfl, rfl⟩
  go_wp2_with fail
  refine (F1.out _).mono ?_
  rintro e w3 ⟨rfl, rfl⟩
  go_wp2
  go_ret
  exact ⟨rfl, HB.out⟩

set_option maxRecDepth 100000 in
set_option maxHeartbeats 4000000 in
theorem places_low_zero (i l h : Int) (w : World) (hi0 : -9223372036854775808 ≤ i) (hi1 : i ≤ 9223372036854775807) (h0 : 0 ≤ i) (h1 : i < 7) (hz : (frameN l h == 0) = true) :
    Calls Try.prog 5 #[.int .i64 i, .int .i64 l, .int .i64 h] w fun e w' => e = .returned (.bool true) ∧ Below w.heap.size w w' := by
  obtain ⟨n, hn⟩ : ∃ n, frameN l h = n := ⟨_, rfl⟩
  rw [hn] at hz
  have hb := frameN_bounds l h
  rw [hn] at hb
  have S := Lib.hid (fun (w' : World) => slot_in i w' h0 h1)
  have T := Lib.hid (fun (w' : World) => local_in i w' h0 (by omega))
  have V := Lib.hid (fun (w' : World) => lives_true w')
  have F1 := Lib.hid (fun (w' : World) => frame_any l h w')
  have F2 := Lib.hid (fun (w' : World) => rframe_any l h w')
  rw [hn] at F1 F2
  have e1 : decide (0 ≤ i) = true := by simp; omega
  have e2 : decide (i < 0) = false := by simp; omega
  have e3 : decide (i < 7) = true := by simp; omega
  have e4 : decide (i < 8) = true := by simp; omega
  have e5 : decide (32 ≤ i) = false := by simp; omega
  clear hn
  go_enter Try.func5, Try.ntmps5
  go_wp2_with fail
  refine (S.out _).mono ?_
  rintro e w1 ⟨rfl, rfl⟩
  go_wp2_with fail
  refine (T.out _).mono ?_
  rintro e w1 ⟨rfl, rfl⟩
  go_wp2_with fail
  refine (V.out _).mono ?_
  rintro e w2 ⟨rfl, hb2⟩
  have HB := Lib.hid hb2
  clear hb2
  go_wp2_with fail
  refine (F2.out _).mono ?_
  rintro e w3 ⟨rfl, rfl⟩
  go_wp2_with fail
  refine (F1.out _).mono ?_
  rintro e w3 ⟨rfl, rfl⟩
  go_wp2
  go_ret
  exact ⟨rfl, HB.out⟩

set_option maxRecDepth 100000 in
set_option maxHeartbeats 4000000 in
theorem places_low_ge (i l h : Int) (w : World) (hi0 : -9223372036854775808 ≤ i) (hi1 : i ≤ 9223372036854775807) (h0 : 0 ≤ i) (h1 : i < 7) (hz : (frameN l h == 0) = false) (hg : h ≤ i) :
    Calls Try.prog 5 #[.int .i64 i, .int .i64 l, .int .i64 h] w fun e w' => e = .returned (.bool true) ∧ Below w.heap.size w w' := by
  obtain ⟨n, hn⟩ : ∃ n, frameN l h = n := ⟨_, rfl⟩
  obtain ⟨hl0, hl1, hh0, hh1, hnn⟩ := frameN_in hz
  rw [hn] at hz
  rw [hn] at hnn
  have hb := frameN_bounds l h
  rw [hn] at hb
  have S := Lib.hid (fun (w' : World) => slot_in i w' h0 h1)
  have T := Lib.hid (fun (w' : World) => local_in i w' h0 (by omega))
  have V := Lib.hid (fun (w' : World) => lives_true w')
  have F1 := Lib.hid (fun (w' : World) => frame_any l h w')
  have F2 := Lib.hid (fun (w' : World) => rframe_any l h w')
  rw [hn] at F1 F2
  have e1 : decide (0 ≤ i) = true := by simp; omega
  have e2 : decide (i < 0) = false := by simp; omega
  have e3 : decide (i < 7) = true := by simp; omega
  have e4 : decide (i < 8) = true := by simp; omega
  have e5 : decide (32 ≤ i) = false := by simp; omega
  have W1 := Lib.hid (fun (w' : World) => localWord_at i w' (by omega) (by omega))
  have W2 := Lib.hid (fun (w' : World) => slotWord_at l i w' (by omega) (by omega) (by omega) (by omega))
  have hN := Lib.hid hn
  clear hn
  have m1 : decide (h ≤ i) = true := by simp; omega
  go_enter Try.func5, Try.ntmps5
  go_wp2_with fail
  refine (S.out _).mono ?_
  rintro e w1 ⟨rfl, rfl⟩
  go_wp2_with fail
  refine (T.out _).mono ?_
  rintro e w1 ⟨rfl, rfl⟩
  go_wp2_with fail
  refine (V.out _).mono ?_
  rintro e w2 ⟨rfl, hb2⟩
  have HB := Lib.hid hb2
  clear hb2
  go_wp2_with fail
  refine (F2.out _).mono ?_
  rintro e w3 ⟨rfl, rfl⟩
  go_wp2_with fail
  refine (F1.out _).mono ?_
  rintro e w3 ⟨rfl, rfl⟩
  go_wp2_with fail
  refine (W1.out _).mono ?_
  rintro e w3 ⟨rfl, rfl⟩
  go_wp2_with fail
  refine (W2.out _).mono ?_
  rintro e w3 ⟨rfl, rfl⟩
  go_wp2
  go_ret
  exact ⟨rfl, HB.out⟩

set_option maxRecDepth 100000 in
set_option maxHeartbeats 4000000 in
theorem places_low_lt (i l h : Int) (w : World) (hi0 : -9223372036854775808 ≤ i) (hi1 : i ≤ 9223372036854775807) (h0 : 0 ≤ i) (h1 : i < 7) (hz : (frameN l h == 0) = false) (hg : i < h) :
    Calls Try.prog 5 #[.int .i64 i, .int .i64 l, .int .i64 h] w fun e w' => e = .returned (.bool true) ∧ Below w.heap.size w w' := by
  obtain ⟨n, hn⟩ : ∃ n, frameN l h = n := ⟨_, rfl⟩
  obtain ⟨hl0, hl1, hh0, hh1, hnn⟩ := frameN_in hz
  rw [hn] at hz
  rw [hn] at hnn
  have hb := frameN_bounds l h
  rw [hn] at hb
  have S := Lib.hid (fun (w' : World) => slot_in i w' h0 h1)
  have T := Lib.hid (fun (w' : World) => local_in i w' h0 (by omega))
  have V := Lib.hid (fun (w' : World) => lives_true w')
  have F1 := Lib.hid (fun (w' : World) => frame_any l h w')
  have F2 := Lib.hid (fun (w' : World) => rframe_any l h w')
  rw [hn] at F1 F2
  have e1 : decide (0 ≤ i) = true := by simp; omega
  have e2 : decide (i < 0) = false := by simp; omega
  have e3 : decide (i < 7) = true := by simp; omega
  have e4 : decide (i < 8) = true := by simp; omega
  have e5 : decide (32 ≤ i) = false := by simp; omega
  have W1 := Lib.hid (fun (w' : World) => localWord_at i w' (by omega) (by omega))
  have W2 := Lib.hid (fun (w' : World) => slotWord_at l i w' (by omega) (by omega) (by omega) (by omega))
  have hN := Lib.hid hn
  clear hn
  have m1 : decide (h ≤ i) = false := by simp; omega
  have m2 : decide (8 * (1 + l + i) ≤ n - 8) = true := by simp; omega
  go_enter Try.func5, Try.ntmps5
  go_wp2_with fail
  refine (S.out _).mono ?_
  rintro e w1 ⟨rfl, rfl⟩
  go_wp2_with fail
  refine (T.out _).mono ?_
  rintro e w1 ⟨rfl, rfl⟩
  go_wp2_with fail
  refine (V.out _).mono ?_
  rintro e w2 ⟨rfl, hb2⟩
  have HB := Lib.hid hb2
  clear hb2
  go_wp2_with fail
  refine (F2.out _).mono ?_
  rintro e w3 ⟨rfl, rfl⟩
  go_wp2_with fail
  refine (F1.out _).mono ?_
  rintro e w3 ⟨rfl, rfl⟩
  go_wp2_with fail
  refine (W1.out _).mono ?_
  rintro e w3 ⟨rfl, rfl⟩
  go_wp2_with fail
  refine (W2.out _).mono ?_
  rintro e w3 ⟨rfl, rfl⟩
  go_wp2_with fail
  refine (W2.out _).mono ?_
  rintro e w3 ⟨rfl, rfl⟩
  go_wp2
  go_ret
  exact ⟨rfl, HB.out⟩

set_option maxRecDepth 100000 in
set_option maxHeartbeats 4000000 in
theorem places_sev_zero (i l h : Int) (w : World) (hi0 : -9223372036854775808 ≤ i) (hi1 : i ≤ 9223372036854775807) (h0 : 7 ≤ i) (h1 : i < 8) (hz : (frameN l h == 0) = true) :
    Calls Try.prog 5 #[.int .i64 i, .int .i64 l, .int .i64 h] w fun e w' => e = .returned (.bool true) ∧ Below w.heap.size w w' := by
  obtain ⟨n, hn⟩ : ∃ n, frameN l h = n := ⟨_, rfl⟩
  rw [hn] at hz
  have hb := frameN_bounds l h
  rw [hn] at hb
  have S := Lib.hid (fun (w' : World) => slot_out i w' (.inr (by omega)))
  have T := Lib.hid (fun (w' : World) => local_in i w' (by omega) (by omega))
  have V := Lib.hid (fun (w' : World) => lives_true w')
  have F1 := Lib.hid (fun (w' : World) => frame_any l h w')
  have F2 := Lib.hid (fun (w' : World) => rframe_any l h w')
  rw [hn] at F1 F2
  have e1 : decide (0 ≤ i) = true := by simp; omega
  have e2 : decide (i < 0) = false := by simp; omega
  have e3 : decide (i < 7) = false := by simp; omega
  have e4 : decide (i < 8) = true := by simp; omega
  have e5 : decide (32 ≤ i) = false := by simp; omega
  clear hn
  go_enter Try.func5, Try.ntmps5
  go_wp2_with fail
  refine (S.out _).mono ?_
  rintro e w1 ⟨rfl, rfl⟩
  go_wp2_with fail
  refine (T.out _).mono ?_
  rintro e w1 ⟨rfl, rfl⟩
  go_wp2_with fail
  refine (V.out _).mono ?_
  rintro e w2 ⟨rfl, hb2⟩
  have HB := Lib.hid hb2
  clear hb2
  go_wp2_with fail
  refine (F2.out _).mono ?_
  rintro e w3 ⟨rfl, rfl⟩
  go_wp2_with fail
  refine (F1.out _).mono ?_
  rintro e w3 ⟨rfl, rfl⟩
  go_wp2
  go_ret
  exact ⟨rfl, HB.out⟩

set_option maxRecDepth 100000 in
set_option maxHeartbeats 4000000 in
theorem places_sev_ge (i l h : Int) (w : World) (hi0 : -9223372036854775808 ≤ i) (hi1 : i ≤ 9223372036854775807) (h0 : 7 ≤ i) (h1 : i < 8) (hz : (frameN l h == 0) = false) (hg : h ≤ i) :
    Calls Try.prog 5 #[.int .i64 i, .int .i64 l, .int .i64 h] w fun e w' => e = .returned (.bool true) ∧ Below w.heap.size w w' := by
  obtain ⟨n, hn⟩ : ∃ n, frameN l h = n := ⟨_, rfl⟩
  obtain ⟨hl0, hl1, hh0, hh1, hnn⟩ := frameN_in hz
  rw [hn] at hz
  rw [hn] at hnn
  have hb := frameN_bounds l h
  rw [hn] at hb
  have S := Lib.hid (fun (w' : World) => slot_out i w' (.inr (by omega)))
  have T := Lib.hid (fun (w' : World) => local_in i w' (by omega) (by omega))
  have V := Lib.hid (fun (w' : World) => lives_true w')
  have F1 := Lib.hid (fun (w' : World) => frame_any l h w')
  have F2 := Lib.hid (fun (w' : World) => rframe_any l h w')
  rw [hn] at F1 F2
  have e1 : decide (0 ≤ i) = true := by simp; omega
  have e2 : decide (i < 0) = false := by simp; omega
  have e3 : decide (i < 7) = false := by simp; omega
  have e4 : decide (i < 8) = true := by simp; omega
  have e5 : decide (32 ≤ i) = false := by simp; omega
  have W1 := Lib.hid (fun (w' : World) => localWord_at i w' (by omega) (by omega))
  have W2 := Lib.hid (fun (w' : World) => slotWord_at l i w' (by omega) (by omega) (by omega) (by omega))
  have hN := Lib.hid hn
  clear hn
  have m1 : decide (h ≤ i) = true := by simp; omega
  go_enter Try.func5, Try.ntmps5
  go_wp2_with fail
  refine (S.out _).mono ?_
  rintro e w1 ⟨rfl, rfl⟩
  go_wp2_with fail
  refine (T.out _).mono ?_
  rintro e w1 ⟨rfl, rfl⟩
  go_wp2_with fail
  refine (V.out _).mono ?_
  rintro e w2 ⟨rfl, hb2⟩
  have HB := Lib.hid hb2
  clear hb2
  go_wp2_with fail
  refine (F2.out _).mono ?_
  rintro e w3 ⟨rfl, rfl⟩
  go_wp2_with fail
  refine (F1.out _).mono ?_
  rintro e w3 ⟨rfl, rfl⟩
  go_wp2_with fail
  refine (W1.out _).mono ?_
  rintro e w3 ⟨rfl, rfl⟩
  go_wp2_with fail
  refine (W2.out _).mono ?_
  rintro e w3 ⟨rfl, rfl⟩
  go_wp2
  go_ret
  exact ⟨rfl, HB.out⟩

set_option maxRecDepth 100000 in
set_option maxHeartbeats 4000000 in
theorem places_sev_lt (i l h : Int) (w : World) (hi0 : -9223372036854775808 ≤ i) (hi1 : i ≤ 9223372036854775807) (h0 : 7 ≤ i) (h1 : i < 8) (hz : (frameN l h == 0) = false) (hg : i < h) :
    Calls Try.prog 5 #[.int .i64 i, .int .i64 l, .int .i64 h] w fun e w' => e = .returned (.bool true) ∧ Below w.heap.size w w' := by
  obtain ⟨n, hn⟩ : ∃ n, frameN l h = n := ⟨_, rfl⟩
  obtain ⟨hl0, hl1, hh0, hh1, hnn⟩ := frameN_in hz
  rw [hn] at hz
  rw [hn] at hnn
  have hb := frameN_bounds l h
  rw [hn] at hb
  have S := Lib.hid (fun (w' : World) => slot_out i w' (.inr (by omega)))
  have T := Lib.hid (fun (w' : World) => local_in i w' (by omega) (by omega))
  have V := Lib.hid (fun (w' : World) => lives_true w')
  have F1 := Lib.hid (fun (w' : World) => frame_any l h w')
  have F2 := Lib.hid (fun (w' : World) => rframe_any l h w')
  rw [hn] at F1 F2
  have e1 : decide (0 ≤ i) = true := by simp; omega
  have e2 : decide (i < 0) = false := by simp; omega
  have e3 : decide (i < 7) = false := by simp; omega
  have e4 : decide (i < 8) = true := by simp; omega
  have e5 : decide (32 ≤ i) = false := by simp; omega
  have W1 := Lib.hid (fun (w' : World) => localWord_at i w' (by omega) (by omega))
  have W2 := Lib.hid (fun (w' : World) => slotWord_at l i w' (by omega) (by omega) (by omega) (by omega))
  have hN := Lib.hid hn
  clear hn
  have m1 : decide (h ≤ i) = false := by simp; omega
  have m2 : decide (8 * (1 + l + i) ≤ n - 8) = true := by simp; omega
  go_enter Try.func5, Try.ntmps5
  go_wp2_with fail
  refine (S.out _).mono ?_
  rintro e w1 ⟨rfl, rfl⟩
  go_wp2_with fail
  refine (T.out _).mono ?_
  rintro e w1 ⟨rfl, rfl⟩
  go_wp2_with fail
  refine (V.out _).mono ?_
  rintro e w2 ⟨rfl, hb2⟩
  have HB := Lib.hid hb2
  clear hb2
  go_wp2_with fail
  refine (F2.out _).mono ?_
  rintro e w3 ⟨rfl, rfl⟩
  go_wp2_with fail
  refine (F1.out _).mono ?_
  rintro e w3 ⟨rfl, rfl⟩
  go_wp2_with fail
  refine (W1.out _).mono ?_
  rintro e w3 ⟨rfl, rfl⟩
  go_wp2_with fail
  refine (W2.out _).mono ?_
  rintro e w3 ⟨rfl, rfl⟩
  go_wp2_with fail
  refine (W2.out _).mono ?_
  rintro e w3 ⟨rfl, rfl⟩
  go_wp2
  go_ret
  exact ⟨rfl, HB.out⟩

set_option maxRecDepth 100000 in
set_option maxHeartbeats 4000000 in
theorem places_mid_zero (i l h : Int) (w : World) (hi0 : -9223372036854775808 ≤ i) (hi1 : i ≤ 9223372036854775807) (h0 : 8 ≤ i) (h1 : i < 32) (hz : (frameN l h == 0) = true) :
    Calls Try.prog 5 #[.int .i64 i, .int .i64 l, .int .i64 h] w fun e w' => e = .returned (.bool true) ∧ Below w.heap.size w w' := by
  obtain ⟨n, hn⟩ : ∃ n, frameN l h = n := ⟨_, rfl⟩
  rw [hn] at hz
  have hb := frameN_bounds l h
  rw [hn] at hb
  have S := Lib.hid (fun (w' : World) => slot_out i w' (.inr (by omega)))
  have T := Lib.hid (fun (w' : World) => local_out i w' (.inr (by omega)))
  have V := Lib.hid (fun (w' : World) => lives_true w')
  have F1 := Lib.hid (fun (w' : World) => frame_any l h w')
  have F2 := Lib.hid (fun (w' : World) => rframe_any l h w')
  rw [hn] at F1 F2
  have e1 : decide (0 ≤ i) = true := by simp; omega
  have e2 : decide (i < 0) = false := by simp; omega
  have e3 : decide (i < 7) = false := by simp; omega
  have e4 : decide (i < 8) = false := by simp; omega
  have e5 : decide (32 ≤ i) = false := by simp; omega
  clear hn
  go_enter Try.func5, Try.ntmps5
  go_wp2_with fail
  refine (S.out _).mono ?_
  rintro e w1 ⟨rfl, rfl⟩
  go_wp2_with fail
  refine (T.out _).mono ?_
  rintro e w1 ⟨rfl, rfl⟩
  go_wp2_with fail
  refine (V.out _).mono ?_
  rintro e w2 ⟨rfl, hb2⟩
  have HB := Lib.hid hb2
  clear hb2
  go_wp2_with fail
  refine (F2.out _).mono ?_
  rintro e w3 ⟨rfl, rfl⟩
  go_wp2_with fail
  refine (F1.out _).mono ?_
  rintro e w3 ⟨rfl, rfl⟩
  go_wp2
  go_ret
  exact ⟨rfl, HB.out⟩

set_option maxRecDepth 100000 in
set_option maxHeartbeats 4000000 in
theorem places_mid_ge (i l h : Int) (w : World) (hi0 : -9223372036854775808 ≤ i) (hi1 : i ≤ 9223372036854775807) (h0 : 8 ≤ i) (h1 : i < 32) (hz : (frameN l h == 0) = false) (hg : h ≤ i) :
    Calls Try.prog 5 #[.int .i64 i, .int .i64 l, .int .i64 h] w fun e w' => e = .returned (.bool true) ∧ Below w.heap.size w w' := by
  obtain ⟨n, hn⟩ : ∃ n, frameN l h = n := ⟨_, rfl⟩
  obtain ⟨hl0, hl1, hh0, hh1, hnn⟩ := frameN_in hz
  rw [hn] at hz
  rw [hn] at hnn
  have hb := frameN_bounds l h
  rw [hn] at hb
  have S := Lib.hid (fun (w' : World) => slot_out i w' (.inr (by omega)))
  have T := Lib.hid (fun (w' : World) => local_out i w' (.inr (by omega)))
  have V := Lib.hid (fun (w' : World) => lives_true w')
  have F1 := Lib.hid (fun (w' : World) => frame_any l h w')
  have F2 := Lib.hid (fun (w' : World) => rframe_any l h w')
  rw [hn] at F1 F2
  have e1 : decide (0 ≤ i) = true := by simp; omega
  have e2 : decide (i < 0) = false := by simp; omega
  have e3 : decide (i < 7) = false := by simp; omega
  have e4 : decide (i < 8) = false := by simp; omega
  have e5 : decide (32 ≤ i) = false := by simp; omega
  have W1 := Lib.hid (fun (w' : World) => localWord_at i w' (by omega) (by omega))
  have W2 := Lib.hid (fun (w' : World) => slotWord_at l i w' (by omega) (by omega) (by omega) (by omega))
  have hN := Lib.hid hn
  clear hn
  have m1 : decide (h ≤ i) = true := by simp; omega
  go_enter Try.func5, Try.ntmps5
  go_wp2_with fail
  refine (S.out _).mono ?_
  rintro e w1 ⟨rfl, rfl⟩
  go_wp2_with fail
  refine (T.out _).mono ?_
  rintro e w1 ⟨rfl, rfl⟩
  go_wp2_with fail
  refine (V.out _).mono ?_
  rintro e w2 ⟨rfl, hb2⟩
  have HB := Lib.hid hb2
  clear hb2
  go_wp2_with fail
  refine (F2.out _).mono ?_
  rintro e w3 ⟨rfl, rfl⟩
  go_wp2_with fail
  refine (F1.out _).mono ?_
  rintro e w3 ⟨rfl, rfl⟩
  go_wp2_with fail
  refine (W1.out _).mono ?_
  rintro e w3 ⟨rfl, rfl⟩
  go_wp2_with fail
  refine (W2.out _).mono ?_
  rintro e w3 ⟨rfl, rfl⟩
  go_wp2
  go_ret
  exact ⟨rfl, HB.out⟩

set_option maxRecDepth 100000 in
set_option maxHeartbeats 4000000 in
theorem places_mid_lt (i l h : Int) (w : World) (hi0 : -9223372036854775808 ≤ i) (hi1 : i ≤ 9223372036854775807) (h0 : 8 ≤ i) (h1 : i < 32) (hz : (frameN l h == 0) = false) (hg : i < h) :
    Calls Try.prog 5 #[.int .i64 i, .int .i64 l, .int .i64 h] w fun e w' => e = .returned (.bool true) ∧ Below w.heap.size w w' := by
  obtain ⟨n, hn⟩ : ∃ n, frameN l h = n := ⟨_, rfl⟩
  obtain ⟨hl0, hl1, hh0, hh1, hnn⟩ := frameN_in hz
  rw [hn] at hz
  rw [hn] at hnn
  have hb := frameN_bounds l h
  rw [hn] at hb
  have S := Lib.hid (fun (w' : World) => slot_out i w' (.inr (by omega)))
  have T := Lib.hid (fun (w' : World) => local_out i w' (.inr (by omega)))
  have V := Lib.hid (fun (w' : World) => lives_true w')
  have F1 := Lib.hid (fun (w' : World) => frame_any l h w')
  have F2 := Lib.hid (fun (w' : World) => rframe_any l h w')
  rw [hn] at F1 F2
  have e1 : decide (0 ≤ i) = true := by simp; omega
  have e2 : decide (i < 0) = false := by simp; omega
  have e3 : decide (i < 7) = false := by simp; omega
  have e4 : decide (i < 8) = false := by simp; omega
  have e5 : decide (32 ≤ i) = false := by simp; omega
  have W1 := Lib.hid (fun (w' : World) => localWord_at i w' (by omega) (by omega))
  have W2 := Lib.hid (fun (w' : World) => slotWord_at l i w' (by omega) (by omega) (by omega) (by omega))
  have hN := Lib.hid hn
  clear hn
  have m1 : decide (h ≤ i) = false := by simp; omega
  have m2 : decide (8 * (1 + l + i) ≤ n - 8) = true := by simp; omega
  go_enter Try.func5, Try.ntmps5
  go_wp2_with fail
  refine (S.out _).mono ?_
  rintro e w1 ⟨rfl, rfl⟩
  go_wp2_with fail
  refine (T.out _).mono ?_
  rintro e w1 ⟨rfl, rfl⟩
  go_wp2_with fail
  refine (V.out _).mono ?_
  rintro e w2 ⟨rfl, hb2⟩
  have HB := Lib.hid hb2
  clear hb2
  go_wp2_with fail
  refine (F2.out _).mono ?_
  rintro e w3 ⟨rfl, rfl⟩
  go_wp2_with fail
  refine (F1.out _).mono ?_
  rintro e w3 ⟨rfl, rfl⟩
  go_wp2_with fail
  refine (W1.out _).mono ?_
  rintro e w3 ⟨rfl, rfl⟩
  go_wp2_with fail
  refine (W2.out _).mono ?_
  rintro e w3 ⟨rfl, rfl⟩
  go_wp2_with fail
  refine (W2.out _).mono ?_
  rintro e w3 ⟨rfl, rfl⟩
  go_wp2
  go_ret
  exact ⟨rfl, HB.out⟩

theorem places_any (i l h : Int) (w : World) (hi0 : -9223372036854775808 ≤ i) (hi1 : i ≤ 9223372036854775807) :
    Calls Try.prog 5 #[.int .i64 i, .int .i64 l, .int .i64 h] w fun e w' => e = .returned (.bool true) ∧ Below w.heap.size w w' := by
  cases hz : (frameN l h == 0)
  · by_cases h0 : i < 0
    · exact places_neg_some i l h w hi0 hi1 h0 hz
    by_cases h1 : 32 ≤ i
    · exact places_big_some i l h w hi0 hi1 h1 hz
    by_cases hg : h ≤ i
    · by_cases h2 : i < 7
      · exact places_low_ge i l h w hi0 hi1 (by omega) h2 hz hg
      by_cases h3 : i = 7
      · exact places_sev_ge i l h w hi0 hi1 (by omega) (by omega) hz hg
      · exact places_mid_ge i l h w hi0 hi1 (by omega) (by omega) hz hg
    · by_cases h2 : i < 7
      · exact places_low_lt i l h w hi0 hi1 (by omega) h2 hz (by omega)
      by_cases h3 : i = 7
      · exact places_sev_lt i l h w hi0 hi1 (by omega) (by omega) hz (by omega)
      · exact places_mid_lt i l h w hi0 hi1 (by omega) (by omega) hz (by omega)
  · by_cases h0 : i < 0
    · exact places_neg_zero i l h w hi0 hi1 h0 hz
    by_cases h1 : 32 ≤ i
    · exact places_big_zero i l h w hi0 hi1 h1 hz
    by_cases h2 : i < 7
    · exact places_low_zero i l h w hi0 hi1 (by omega) h2 hz
    by_cases h3 : i = 7
    · exact places_sev_zero i l h w hi0 hi1 (by omega) (by omega) hz
    · exact places_mid_zero i l h w hi0 hi1 (by omega) (by omega) hz

end Go.Proofs.Ytjnomnaeegcafaa

