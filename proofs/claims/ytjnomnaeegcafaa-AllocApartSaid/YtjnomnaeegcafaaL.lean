import Derived.Test.YtjnomnaeegcafaaJ
namespace Go.Proofs.Ytjnomnaeegcafaa
open Go.RowKit Go.Shelf

set_option maxRecDepth 100000 in
set_option maxHeartbeats 4000000 in
theorem apart_out (i j l : Int) (w : World) (hx : i < 0 ∨ 31 < i ∨ j < 0 ∨ 31 < j ∨ l < 0 ∨ 16 < l) :
    Calls Try.prog 6 #[.int .i64 i, .int .i64 j, .int .i64 l] w fun e w' => e = .returned (.bool true) ∧ Below w.heap.size w w' := by
  have V := Lib.hid (fun (w' : World) => lives_true w')
  by_cases h0 : i < 0
  · have e0 : decide (i < 0) = true := by simpa using h0
    clear hx
    go_enter Try.func6, Try.ntmps6
    go_wp2_with fail
    refine (V.out _).mono ?_
    rintro e w2 ⟨rfl, hb2⟩
    go_wp2
    go_ret
    exact ⟨rfl, hb2⟩
  have e0 : decide (i < 0) = false := by simpa using h0
  by_cases h1 : 31 < i
  · have e1 : decide (31 < i) = true := by simpa using h1
    clear hx
    go_enter Try.func6, Try.ntmps6
    go_wp2_with fail
    refine (V.out _).mono ?_
    rintro e w2 ⟨rfl, hb2⟩
    go_wp2
    go_ret
    exact ⟨rfl, hb2⟩
  have e1 : decide (31 < i) = false := by simpa using h1
  by_cases h2 : j < 0
  · have e2 : decide (j < 0) = true := by simpa using h2
    clear hx
    go_enter Try.func6, Try.ntmps6
    go_wp2_with fail
    refine (V.out _).mono ?_
    rintro e w2 ⟨rfl, hb2⟩
    go_wp2
    go_ret
    exact ⟨rfl, hb2⟩
  have e2 : decide (j < 0) = false := by simpa using h2
  by_cases h3 : 31 < j
  · have e3 : decide (31 < j) = true := by simpa using h3
    clear hx
    go_enter Try.func6, Try.ntmps6
    go_wp2_with fail
    refine (V.out _).mono ?_
    rintro e w2 ⟨rfl, hb2⟩
    go_wp2
    go_ret
    exact ⟨rfl, hb2⟩
  have e3 : decide (31 < j) = false := by simpa using h3
  by_cases h4 : l < 0
  · have e4 : decide (l < 0) = true := by simpa using h4
    clear hx
    go_enter Try.func6, Try.ntmps6
    go_wp2_with fail
    refine (V.out _).mono ?_
    rintro e w2 ⟨rfl, hb2⟩
    go_wp2
    go_ret
    exact ⟨rfl, hb2⟩
  have e4 : decide (l < 0) = false := by simpa using h4
  have e5 : decide (16 < l) = true := by simp; omega
  clear hx
  go_enter Try.func6, Try.ntmps6
  go_wp2_with fail
  refine (V.out _).mono ?_
  rintro e w2 ⟨rfl, hb2⟩
  go_wp2
  go_ret
  exact ⟨rfl, hb2⟩

set_option maxRecDepth 100000 in
set_option maxHeartbeats 4000000 in
theorem apart_low_low_ge (i j l : Int) (w : World) (hi0 : 0 ≤ i) (hi1 : i ≤ 31) (hj0 : 0 ≤ j) (hj1 : j ≤ 31) (hl0 : 0 ≤ l) (hl1 : l ≤ 16) (h0 : i < 7) (h1 : j < 7) (hg : l ≤ j) :
    Calls Try.prog 6 #[.int .i64 i, .int .i64 j, .int .i64 l] w fun e w' => e = .returned (.bool true) ∧ Below w.heap.size w w' := by
  have V := Lib.hid (fun (w' : World) => lives_true w')
  have S := Lib.hid (fun (w' : World) => slot_in i w' (by omega) (by omega))
  have S2 := Lib.hid (fun (w' : World) => slot_in j w' (by omega) (by omega))
  have T := Lib.hid (fun (w' : World) => local_in j w' (by omega) (by omega))
  have W1 := Lib.hid (fun (w' : World) => localWord_at j w' (by omega) (by omega))
  have W2 := Lib.hid (fun (w' : World) => slotWord_at l i w' (by omega) (by omega) (by omega) (by omega))
  have W3 := Lib.hid (fun (w' : World) => slotWord_at l j w' (by omega) (by omega) (by omega) (by omega))
  have a1 : decide (i < 0) = false := by simp; omega
  have a2 : decide (31 < i) = false := by simp; omega
  have a3 : decide (j < 0) = false := by simp; omega
  have a4 : decide (31 < j) = false := by simp; omega
  have a5 : decide (l < 0) = false := by simp; omega
  have a6 : decide (16 < l) = false := by simp; omega
  have w1 : (1 + l + i == 1 + l + j) = (i == j) := by rw [Bool.eq_iff_iff]; simp
  have w2 : decide (0 < 1 + j) = true := by simp; omega
  have w3 : decide (l ≤ j) = true := by simp; omega
  have c28 : (9 + i == 28) = false := by simp; omega
  have c27 : (9 + i == 27) = false := by simp; omega
  have c8 : (9 + i == 8) = false := by simp; omega
  have c16 : (9 + i == 16) = false := by simp; omega
  have c17 : (9 + i == 17) = false := by simp; omega
  have c30 : (9 + i == 30) = false := by simp; omega
  have cl : decide (9 + i < 8) = false := by simp; omega
  have b1 : (9 + i == 9 + j) = (i == j) := by rw [Bool.eq_iff_iff]; simp
  have b2 : (9 + i == 19 + j) = false := by simp; omega
  obtain ⟨bij, hbij⟩ : ∃ b, (i == j) = b := ⟨_, rfl⟩
  simp only [hbij] at w1
  simp only [hbij] at b1
  go_enter Try.func6, Try.ntmps6
  go_wp2_with fail
  refine (S.out _).mono ?_
  rintro e w1 ⟨rfl, rfl⟩
  go_wp2_with fail
  refine (S2.out _).mono ?_
  rintro e w1 ⟨rfl, rfl⟩
  go_wp2_with fail
  refine (T.out _).mono ?_
  rintro e w1 ⟨rfl, rfl⟩
  go_wp2_with fail
  refine (V.out _).mono ?_
  rintro e w2 ⟨rfl, hb2⟩
  have HB := Lib.hid hb2
  clear hb2
  go_wp2_with fail
  refine (W2.out _).mono ?_
  rintro e w3 ⟨rfl, rfl⟩
  go_wp2_with fail
  refine (W3.out _).mono ?_
  rintro e w3 ⟨rfl, rfl⟩
  go_wp2_with fail
  refine (W1.out _).mono ?_
  rintro e w3 ⟨rfl, rfl⟩
  go_wp2
  go_ret
  exact ⟨rfl, HB.out⟩

set_option maxRecDepth 100000 in
set_option maxHeartbeats 4000000 in
theorem apart_low_sev_ge (i j l : Int) (w : World) (hi0 : 0 ≤ i) (hi1 : i ≤ 31) (hj0 : 0 ≤ j) (hj1 : j ≤ 31) (hl0 : 0 ≤ l) (hl1 : l ≤ 16) (h0 : i < 7) (h1 : 7 ≤ j) (h2 : j < 8) (hg : l ≤ j) :
    Calls Try.prog 6 #[.int .i64 i, .int .i64 j, .int .i64 l] w fun e w' => e = .returned (.bool true) ∧ Below w.heap.size w w' := by
  have V := Lib.hid (fun (w' : World) => lives_true w')
  have S := Lib.hid (fun (w' : World) => slot_in i w' (by omega) (by omega))
  have S2 := Lib.hid (fun (w' : World) => slot_out j w' (.inr (by omega)))
  have T := Lib.hid (fun (w' : World) => local_in j w' (by omega) (by omega))
  have W1 := Lib.hid (fun (w' : World) => localWord_at j w' (by omega) (by omega))
  have W2 := Lib.hid (fun (w' : World) => slotWord_at l i w' (by omega) (by omega) (by omega) (by omega))
  have W3 := Lib.hid (fun (w' : World) => slotWord_at l j w' (by omega) (by omega) (by omega) (by omega))
  have a1 : decide (i < 0) = false := by simp; omega
  have a2 : decide (31 < i) = false := by simp; omega
  have a3 : decide (j < 0) = false := by simp; omega
  have a4 : decide (31 < j) = false := by simp; omega
  have a5 : decide (l < 0) = false := by simp; omega
  have a6 : decide (16 < l) = false := by simp; omega
  have w1 : (1 + l + i == 1 + l + j) = (i == j) := by rw [Bool.eq_iff_iff]; simp
  have w2 : decide (0 < 1 + j) = true := by simp; omega
  have w3 : decide (l ≤ j) = true := by simp; omega
  have c28 : (9 + i == 28) = false := by simp; omega
  have c27 : (9 + i == 27) = false := by simp; omega
  have c8 : (9 + i == 8) = false := by simp; omega
  have c16 : (9 + i == 16) = false := by simp; omega
  have c17 : (9 + i == 17) = false := by simp; omega
  have c30 : (9 + i == 30) = false := by simp; omega
  have cl : decide (9 + i < 8) = false := by simp; omega
  have b2 : (9 + i == 19 + j) = false := by simp; omega
  obtain ⟨bij, hbij⟩ : ∃ b, (i == j) = b := ⟨_, rfl⟩
  simp only [hbij] at w1
  go_enter Try.func6, Try.ntmps6
  go_wp2_with fail
  refine (S.out _).mono ?_
  rintro e w1 ⟨rfl, rfl⟩
  go_wp2_with fail
  refine (S2.out _).mono ?_
  rintro e w1 ⟨rfl, rfl⟩
  go_wp2_with fail
  refine (T.out _).mono ?_
  rintro e w1 ⟨rfl, rfl⟩
  go_wp2_with fail
  refine (V.out _).mono ?_
  rintro e w2 ⟨rfl, hb2⟩
  have HB := Lib.hid hb2
  clear hb2
  go_wp2_with fail
  refine (W2.out _).mono ?_
  rintro e w3 ⟨rfl, rfl⟩
  go_wp2_with fail
  refine (W3.out _).mono ?_
  rintro e w3 ⟨rfl, rfl⟩
  go_wp2_with fail
  refine (W1.out _).mono ?_
  rintro e w3 ⟨rfl, rfl⟩
  go_wp2
  go_ret
  exact ⟨rfl, HB.out⟩

set_option maxRecDepth 100000 in
set_option maxHeartbeats 4000000 in
theorem apart_low_big_ge (i j l : Int) (w : World) (hi0 : 0 ≤ i) (hi1 : i ≤ 31) (hj0 : 0 ≤ j) (hj1 : j ≤ 31) (hl0 : 0 ≤ l) (hl1 : l ≤ 16) (h0 : i < 7) (h1 : 8 ≤ j) (hg : l ≤ j) :
    Calls Try.prog 6 #[.int .i64 i, .int .i64 j, .int .i64 l] w fun e w' => e = .returned (.bool true) ∧ Below w.heap.size w w' := by
  have V := Lib.hid (fun (w' : World) => lives_true w')
  have S := Lib.hid (fun (w' : World) => slot_in i w' (by omega) (by omega))
  have S2 := Lib.hid (fun (w' : World) => slot_out j w' (.inr (by omega)))
  have T := Lib.hid (fun (w' : World) => local_out j w' (.inr (by omega)))
  have W1 := Lib.hid (fun (w' : World) => localWord_at j w' (by omega) (by omega))
  have W2 := Lib.hid (fun (w' : World) => slotWord_at l i w' (by omega) (by omega) (by omega) (by omega))
  have W3 := Lib.hid (fun (w' : World) => slotWord_at l j w' (by omega) (by omega) (by omega) (by omega))
  have a1 : decide (i < 0) = false := by simp; omega
  have a2 : decide (31 < i) = false := by simp; omega
  have a3 : decide (j < 0) = false := by simp; omega
  have a4 : decide (31 < j) = false := by simp; omega
  have a5 : decide (l < 0) = false := by simp; omega
  have a6 : decide (16 < l) = false := by simp; omega
  have w1 : (1 + l + i == 1 + l + j) = (i == j) := by rw [Bool.eq_iff_iff]; simp
  have w2 : decide (0 < 1 + j) = true := by simp; omega
  have w3 : decide (l ≤ j) = true := by simp; omega
  have c28 : (9 + i == 28) = false := by simp; omega
  have c27 : (9 + i == 27) = false := by simp; omega
  have c8 : (9 + i == 8) = false := by simp; omega
  have c16 : (9 + i == 16) = false := by simp; omega
  have c17 : (9 + i == 17) = false := by simp; omega
  have c30 : (9 + i == 30) = false := by simp; omega
  have cl : decide (9 + i < 8) = false := by simp; omega
  obtain ⟨bij, hbij⟩ : ∃ b, (i == j) = b := ⟨_, rfl⟩
  simp only [hbij] at w1
  go_enter Try.func6, Try.ntmps6
  go_wp2_with fail
  refine (S.out _).mono ?_
  rintro e w1 ⟨rfl, rfl⟩
  go_wp2_with fail
  refine (S2.out _).mono ?_
  rintro e w1 ⟨rfl, rfl⟩
  go_wp2_with fail
  refine (T.out _).mono ?_
  rintro e w1 ⟨rfl, rfl⟩
  go_wp2_with fail
  refine (V.out _).mono ?_
  rintro e w2 ⟨rfl, hb2⟩
  have HB := Lib.hid hb2
  clear hb2
  go_wp2_with fail
  refine (W2.out _).mono ?_
  rintro e w3 ⟨rfl, rfl⟩
  go_wp2_with fail
  refine (W3.out _).mono ?_
  rintro e w3 ⟨rfl, rfl⟩
  go_wp2_with fail
  refine (W1.out _).mono ?_
  rintro e w3 ⟨rfl, rfl⟩
  go_wp2
  go_ret
  exact ⟨rfl, HB.out⟩

set_option maxRecDepth 100000 in
set_option maxHeartbeats 4000000 in
theorem apart_big_ge (i j l : Int) (w : World) (hi0 : 0 ≤ i) (hi1 : i ≤ 31) (hj0 : 0 ≤ j) (hj1 : j ≤ 31) (hl0 : 0 ≤ l) (hl1 : l ≤ 16) (h0 : 7 ≤ i) (hg : l ≤ j) :
    Calls Try.prog 6 #[.int .i64 i, .int .i64 j, .int .i64 l] w fun e w' => e = .returned (.bool true) ∧ Below w.heap.size w w' := by
  have V := Lib.hid (fun (w' : World) => lives_true w')
  have S := Lib.hid (fun (w' : World) => slot_out i w' (.inr (by omega)))
  have S2 := Lib.hid (fun (w' : World) => slot_any j w')
  have T := Lib.hid (fun (w' : World) => local_any j w')
  have W1 := Lib.hid (fun (w' : World) => localWord_at j w' (by omega) (by omega))
  have W2 := Lib.hid (fun (w' : World) => slotWord_at l i w' (by omega) (by omega) (by omega) (by omega))
  have W3 := Lib.hid (fun (w' : World) => slotWord_at l j w' (by omega) (by omega) (by omega) (by omega))
  have a1 : decide (i < 0) = false := by simp; omega
  have a2 : decide (31 < i) = false := by simp; omega
  have a3 : decide (j < 0) = false := by simp; omega
  have a4 : decide (31 < j) = false := by simp; omega
  have a5 : decide (l < 0) = false := by simp; omega
  have a6 : decide (16 < l) = false := by simp; omega
  have w1 : (1 + l + i == 1 + l + j) = (i == j) := by rw [Bool.eq_iff_iff]; simp
  have w2 : decide (0 < 1 + j) = true := by simp; omega
  have w3 : decide (l ≤ j) = true := by simp; omega
  obtain ⟨bij, hbij⟩ : ∃ b, (i == j) = b := ⟨_, rfl⟩
  simp only [hbij] at w1
  go_enter Try.func6, Try.ntmps6
  go_wp2_with fail
  refine (S.out _).mono ?_
  rintro e w1 ⟨rfl, rfl⟩
  go_wp2_with fail
  refine (S2.out _).mono ?_
  rintro e w1 ⟨rfl, rfl⟩
  go_wp2_with fail
  refine (T.out _).mono ?_
  rintro e w1 ⟨rfl, rfl⟩
  go_wp2_with fail
  refine (V.out _).mono ?_
  rintro e w2 ⟨rfl, hb2⟩
  have HB := Lib.hid hb2
  clear hb2
  go_wp2_with fail
  refine (W2.out _).mono ?_
  rintro e w3 ⟨rfl, rfl⟩
  go_wp2_with fail
  refine (W3.out _).mono ?_
  rintro e w3 ⟨rfl, rfl⟩
  go_wp2_with fail
  refine (W1.out _).mono ?_
  rintro e w3 ⟨rfl, rfl⟩
  go_wp2
  go_ret
  exact ⟨rfl, HB.out⟩

set_option maxRecDepth 100000 in
set_option maxHeartbeats 4000000 in
theorem apart_low_low_lt (i j l : Int) (w : World) (hi0 : 0 ≤ i) (hi1 : i ≤ 31) (hj0 : 0 ≤ j) (hj1 : j ≤ 31) (hl0 : 0 ≤ l) (hl1 : l ≤ 16) (h0 : i < 7) (h1 : j < 7) (hg : j < l) :
    Calls Try.prog 6 #[.int .i64 i, .int .i64 j, .int .i64 l] w fun e w' => e = .returned (.bool true) ∧ Below w.heap.size w w' := by
  have V := Lib.hid (fun (w' : World) => lives_true w')
  have S := Lib.hid (fun (w' : World) => slot_in i w' (by omega) (by omega))
  have S2 := Lib.hid (fun (w' : World) => slot_in j w' (by omega) (by omega))
  have T := Lib.hid (fun (w' : World) => local_in j w' (by omega) (by omega))
  have W1 := Lib.hid (fun (w' : World) => localWord_at j w' (by omega) (by omega))
  have W2 := Lib.hid (fun (w' : World) => slotWord_at l i w' (by omega) (by omega) (by omega) (by omega))
  have W3 := Lib.hid (fun (w' : World) => slotWord_at l j w' (by omega) (by omega) (by omega) (by omega))
  have a1 : decide (i < 0) = false := by simp; omega
  have a2 : decide (31 < i) = false := by simp; omega
  have a3 : decide (j < 0) = false := by simp; omega
  have a4 : decide (31 < j) = false := by simp; omega
  have a5 : decide (l < 0) = false := by simp; omega
  have a6 : decide (16 < l) = false := by simp; omega
  have w1 : (1 + l + i == 1 + l + j) = (i == j) := by rw [Bool.eq_iff_iff]; simp
  have w2 : decide (0 < 1 + j) = true := by simp; omega
  have w3 : decide (l ≤ j) = false := by simp; omega
  have w4 : decide (1 + j < 1 + l + i) = true := by simp; omega
  have c28 : (9 + i == 28) = false := by simp; omega
  have c27 : (9 + i == 27) = false := by simp; omega
  have c8 : (9 + i == 8) = false := by simp; omega
  have c16 : (9 + i == 16) = false := by simp; omega
  have c17 : (9 + i == 17) = false := by simp; omega
  have c30 : (9 + i == 30) = false := by simp; omega
  have cl : decide (9 + i < 8) = false := by simp; omega
  have b1 : (9 + i == 9 + j) = (i == j) := by rw [Bool.eq_iff_iff]; simp
  have b2 : (9 + i == 19 + j) = false := by simp; omega
  obtain ⟨bij, hbij⟩ : ∃ b, (i == j) = b := ⟨_, rfl⟩
  simp only [hbij] at w1
  simp only [hbij] at b1
  go_enter Try.func6, Try.ntmps6
  go_wp2_with fail
  refine (S.out _).mono ?_
  rintro e w1 ⟨rfl, rfl⟩
  go_wp2_with fail
  refine (S2.out _).mono ?_
  rintro e w1 ⟨rfl, rfl⟩
  go_wp2_with fail
  refine (T.out _).mono ?_
  rintro e w1 ⟨rfl, rfl⟩
  go_wp2_with fail
  refine (V.out _).mono ?_
  rintro e w2 ⟨rfl, hb2⟩
  have HB := Lib.hid hb2
  clear hb2
  go_wp2_with fail
  refine (W2.out _).mono ?_
  rintro e w3 ⟨rfl, rfl⟩
  go_wp2_with fail
  refine (W3.out _).mono ?_
  rintro e w3 ⟨rfl, rfl⟩
  go_wp2_with fail
  refine (W1.out _).mono ?_
  rintro e w3 ⟨rfl, rfl⟩
  go_wp2_with fail
  refine (W2.out _).mono ?_
  rintro e w3 ⟨rfl, rfl⟩
  go_wp2_with fail
  refine (W1.out _).mono ?_
  rintro e w3 ⟨rfl, rfl⟩
  go_wp2
  go_ret
  exact ⟨rfl, HB.out⟩

set_option maxRecDepth 100000 in
set_option maxHeartbeats 4000000 in
theorem apart_low_sev_lt (i j l : Int) (w : World) (hi0 : 0 ≤ i) (hi1 : i ≤ 31) (hj0 : 0 ≤ j) (hj1 : j ≤ 31) (hl0 : 0 ≤ l) (hl1 : l ≤ 16) (h0 : i < 7) (h1 : 7 ≤ j) (h2 : j < 8) (hg : j < l) :
    Calls Try.prog 6 #[.int .i64 i, .int .i64 j, .int .i64 l] w fun e w' => e = .returned (.bool true) ∧ Below w.heap.size w w' := by
  have V := Lib.hid (fun (w' : World) => lives_true w')
  have S := Lib.hid (fun (w' : World) => slot_in i w' (by omega) (by omega))
  have S2 := Lib.hid (fun (w' : World) => slot_out j w' (.inr (by omega)))
  have T := Lib.hid (fun (w' : World) => local_in j w' (by omega) (by omega))
  have W1 := Lib.hid (fun (w' : World) => localWord_at j w' (by omega) (by omega))
  have W2 := Lib.hid (fun (w' : World) => slotWord_at l i w' (by omega) (by omega) (by omega) (by omega))
  have W3 := Lib.hid (fun (w' : World) => slotWord_at l j w' (by omega) (by omega) (by omega) (by omega))
  have a1 : decide (i < 0) = false := by simp; omega
  have a2 : decide (31 < i) = false := by simp; omega
  have a3 : decide (j < 0) = false := by simp; omega
  have a4 : decide (31 < j) = false := by simp; omega
  have a5 : decide (l < 0) = false := by simp; omega
  have a6 : decide (16 < l) = false := by simp; omega
  have w1 : (1 + l + i == 1 + l + j) = (i == j) := by rw [Bool.eq_iff_iff]; simp
  have w2 : decide (0 < 1 + j) = true := by simp; omega
  have w3 : decide (l ≤ j) = false := by simp; omega
  have w4 : decide (1 + j < 1 + l + i) = true := by simp; omega
  have c28 : (9 + i == 28) = false := by simp; omega
  have c27 : (9 + i == 27) = false := by simp; omega
  have c8 : (9 + i == 8) = false := by simp; omega
  have c16 : (9 + i == 16) = false := by simp; omega
  have c17 : (9 + i == 17) = false := by simp; omega
  have c30 : (9 + i == 30) = false := by simp; omega
  have cl : decide (9 + i < 8) = false := by simp; omega
  have b2 : (9 + i == 19 + j) = false := by simp; omega
  obtain ⟨bij, hbij⟩ : ∃ b, (i == j) = b := ⟨_, rfl⟩
  simp only [hbij] at w1
  go_enter Try.func6, Try.ntmps6
  go_wp2_with fail
  refine (S.out _).mono ?_
  rintro e w1 ⟨rfl, rfl⟩
  go_wp2_with fail
  refine (S2.out _).mono ?_
  rintro e w1 ⟨rfl, rfl⟩
  go_wp2_with fail
  refine (T.out _).mono ?_
  rintro e w1 ⟨rfl, rfl⟩
  go_wp2_with fail
  refine (V.out _).mono ?_
  rintro e w2 ⟨rfl, hb2⟩
  have HB := Lib.hid hb2
  clear hb2
  go_wp2_with fail
  refine (W2.out _).mono ?_
  rintro e w3 ⟨rfl, rfl⟩
  go_wp2_with fail
  refine (W3.out _).mono ?_
  rintro e w3 ⟨rfl, rfl⟩
  go_wp2_with fail
  refine (W1.out _).mono ?_
  rintro e w3 ⟨rfl, rfl⟩
  go_wp2_with fail
  refine (W2.out _).mono ?_
  rintro e w3 ⟨rfl, rfl⟩
  go_wp2_with fail
  refine (W1.out _).mono ?_
  rintro e w3 ⟨rfl, rfl⟩
  go_wp2
  go_ret
  exact ⟨rfl, HB.out⟩

set_option maxRecDepth 100000 in
set_option maxHeartbeats 4000000 in
theorem apart_low_big_lt (i j l : Int) (w : World) (hi0 : 0 ≤ i) (hi1 : i ≤ 31) (hj0 : 0 ≤ j) (hj1 : j ≤ 31) (hl0 : 0 ≤ l) (hl1 : l ≤ 16) (h0 : i < 7) (h1 : 8 ≤ j) (hg : j < l) :
    Calls Try.prog 6 #[.int .i64 i, .int .i64 j, .int .i64 l] w fun e w' => e = .returned (.bool true) ∧ Below w.heap.size w w' := by
  have V := Lib.hid (fun (w' : World) => lives_true w')
  have S := Lib.hid (fun (w' : World) => slot_in i w' (by omega) (by omega))
  have S2 := Lib.hid (fun (w' : World) => slot_out j w' (.inr (by omega)))
  have T := Lib.hid (fun (w' : World) => local_out j w' (.inr (by omega)))
  have W1 := Lib.hid (fun (w' : World) => localWord_at j w' (by omega) (by omega))
  have W2 := Lib.hid (fun (w' : World) => slotWord_at l i w' (by omega) (by omega) (by omega) (by omega))
  have W3 := Lib.hid (fun (w' : World) => slotWord_at l j w' (by omega) (by omega) (by omega) (by omega))
  have a1 : decide (i < 0) = false := by simp; omega
  have a2 : decide (31 < i) = false := by simp; omega
  have a3 : decide (j < 0) = false := by simp; omega
  have a4 : decide (31 < j) = false := by simp; omega
  have a5 : decide (l < 0) = false := by simp; omega
  have a6 : decide (16 < l) = false := by simp; omega
  have w1 : (1 + l + i == 1 + l + j) = (i == j) := by rw [Bool.eq_iff_iff]; simp
  have w2 : decide (0 < 1 + j) = true := by simp; omega
  have w3 : decide (l ≤ j) = false := by simp; omega
  have w4 : decide (1 + j < 1 + l + i) = true := by simp; omega
  have c28 : (9 + i == 28) = false := by simp; omega
  have c27 : (9 + i == 27) = false := by simp; omega
  have c8 : (9 + i == 8) = false := by simp; omega
  have c16 : (9 + i == 16) = false := by simp; omega
  have c17 : (9 + i == 17) = false := by simp; omega
  have c30 : (9 + i == 30) = false := by simp; omega
  have cl : decide (9 + i < 8) = false := by simp; omega
  obtain ⟨bij, hbij⟩ : ∃ b, (i == j) = b := ⟨_, rfl⟩
  simp only [hbij] at w1
  go_enter Try.func6, Try.ntmps6
  go_wp2_with fail
  refine (S.out _).mono ?_
  rintro e w1 ⟨rfl, rfl⟩
  go_wp2_with fail
  refine (S2.out _).mono ?_
  rintro e w1 ⟨rfl, rfl⟩
  go_wp2_with fail
  refine (T.out _).mono ?_
  rintro e w1 ⟨rfl, rfl⟩
  go_wp2_with fail
  refine (V.out _).mono ?_
  rintro e w2 ⟨rfl, hb2⟩
  have HB := Lib.hid hb2
  clear hb2
  go_wp2_with fail
  refine (W2.out _).mono ?_
  rintro e w3 ⟨rfl, rfl⟩
  go_wp2_with fail
  refine (W3.out _).mono ?_
  rintro e w3 ⟨rfl, rfl⟩
  go_wp2_with fail
  refine (W1.out _).mono ?_
  rintro e w3 ⟨rfl, rfl⟩
  go_wp2_with fail
  refine (W2.out _).mono ?_
  rintro e w3 ⟨rfl, rfl⟩
  go_wp2_with fail
  refine (W1.out _).mono ?_
  rintro e w3 ⟨rfl, rfl⟩
  go_wp2
  go_ret
  exact ⟨rfl, HB.out⟩

set_option maxRecDepth 100000 in
set_option maxHeartbeats 4000000 in
theorem apart_big_lt (i j l : Int) (w : World) (hi0 : 0 ≤ i) (hi1 : i ≤ 31) (hj0 : 0 ≤ j) (hj1 : j ≤ 31) (hl0 : 0 ≤ l) (hl1 : l ≤ 16) (h0 : 7 ≤ i) (hg : j < l) :
    Calls Try.prog 6 #[.int .i64 i, .int .i64 j, .int .i64 l] w fun e w' => e = .returned (.bool true) ∧ Below w.heap.size w w' := by
  have V := Lib.hid (fun (w' : World) => lives_true w')
  have S := Lib.hid (fun (w' : World) => slot_out i w' (.inr (by omega)))
  have S2 := Lib.hid (fun (w' : World) => slot_any j w')
  have T := Lib.hid (fun (w' : World) => local_any j w')
  have W1 := Lib.hid (fun (w' : World) => localWord_at j w' (by omega) (by omega))
  have W2 := Lib.hid (fun (w' : World) => slotWord_at l i w' (by omega) (by omega) (by omega) (by omega))
  have W3 := Lib.hid (fun (w' : World) => slotWord_at l j w' (by omega) (by omega) (by omega) (by omega))
  have a1 : decide (i < 0) = false := by simp; omega
  have a2 : decide (31 < i) = false := by simp; omega
  have a3 : decide (j < 0) = false := by simp; omega
  have a4 : decide (31 < j) = false := by simp; omega
  have a5 : decide (l < 0) = false := by simp; omega
  have a6 : decide (16 < l) = false := by simp; omega
  have w1 : (1 + l + i == 1 + l + j) = (i == j) := by rw [Bool.eq_iff_iff]; simp
  have w2 : decide (0 < 1 + j) = true := by simp; omega
  have w3 : decide (l ≤ j) = false := by simp; omega
  have w4 : decide (1 + j < 1 + l + i) = true := by simp; omega
  obtain ⟨bij, hbij⟩ : ∃ b, (i == j) = b := ⟨_, rfl⟩
  simp only [hbij] at w1
  go_enter Try.func6, Try.ntmps6
  go_wp2_with fail
  refine (S.out _).mono ?_
  rintro e w1 ⟨rfl, rfl⟩
  go_wp2_with fail
  refine (S2.out _).mono ?_
  rintro e w1 ⟨rfl, rfl⟩
  go_wp2_with fail
  refine (T.out _).mono ?_
  rintro e w1 ⟨rfl, rfl⟩
  go_wp2_with fail
  refine (V.out _).mono ?_
  rintro e w2 ⟨rfl, hb2⟩
  have HB := Lib.hid hb2
  clear hb2
  go_wp2_with fail
  refine (W2.out _).mono ?_
  rintro e w3 ⟨rfl, rfl⟩
  go_wp2_with fail
  refine (W3.out _).mono ?_
  rintro e w3 ⟨rfl, rfl⟩
  go_wp2_with fail
  refine (W1.out _).mono ?_
  rintro e w3 ⟨rfl, rfl⟩
  go_wp2_with fail
  refine (W2.out _).mono ?_
  rintro e w3 ⟨rfl, rfl⟩
  go_wp2_with fail
  refine (W1.out _).mono ?_
  rintro e w3 ⟨rfl, rfl⟩
  go_wp2
  go_ret
  exact ⟨rfl, HB.out⟩

theorem apart_any (i j l : Int) (w : World) :
    Calls Try.prog 6 #[.int .i64 i, .int .i64 j, .int .i64 l] w fun e w' => e = .returned (.bool true) ∧ Below w.heap.size w w' := by
  by_cases hx : i < 0 ∨ 31 < i ∨ j < 0 ∨ 31 < j ∨ l < 0 ∨ 16 < l
  · exact apart_out i j l w hx
  by_cases hg : l ≤ j
  · by_cases h0 : i < 7
    · by_cases h1 : j < 7
      · exact apart_low_low_ge i j l w (by omega) (by omega) (by omega) (by omega) (by omega) (by omega) h0 h1 hg
      by_cases h2 : j < 8
      · exact apart_low_sev_ge i j l w (by omega) (by omega) (by omega) (by omega) (by omega) (by omega) h0 (by omega) h2 hg
      · exact apart_low_big_ge i j l w (by omega) (by omega) (by omega) (by omega) (by omega) (by omega) h0 (by omega) hg
    · exact apart_big_ge i j l w (by omega) (by omega) (by omega) (by omega) (by omega) (by omega) (by omega) hg
  · by_cases h0 : i < 7
    · by_cases h1 : j < 7
      · exact apart_low_low_lt i j l w (by omega) (by omega) (by omega) (by omega) (by omega) (by omega) h0 h1 (by omega)
      by_cases h2 : j < 8
      · exact apart_low_sev_lt i j l w (by omega) (by omega) (by omega) (by omega) (by omega) (by omega) h0 (by omega) h2 (by omega)
      · exact apart_low_big_lt i j l w (by omega) (by omega) (by omega) (by omega) (by omega) (by omega) h0 (by omega) (by omega)
    · exact apart_big_lt i j l w (by omega) (by omega) (by omega) (by omega) (by omega) (by omega) (by omega) (by omega)

end Go.Proofs.Ytjnomnaeegcafaa

