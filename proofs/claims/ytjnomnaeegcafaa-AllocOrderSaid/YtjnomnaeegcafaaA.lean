import Derived.Test.YtjnomnaeegcafaaRows
import Derived.WalkKit
import Derived.WalkSpells
import Derived.WalkLawsBesides
import Derived.BigQuiet
import Derived.Deep.QuietTactic
import Derived.Deep.Draws
import Derived.Lib.SliceRun
import Derived.Lib.Hide
import Derived.Deep.RegionHeld3
import Derived.Deep.AppendLies
import Derived.Deep.DeepFit
import Derived.Deep.RegionLaw
import Derived.StillTailTactics
namespace Go.Proofs.Ytjnomnaeegcafaa
open Go.RowKit

theorem register_in (first count i : Int) (w : World) (h0 : 0 ≤ i) (h1 : i < count) (h2 : 0 ≤ first) (h3 : first + count ≤ 9223372036854775807) :
    Calls Try.prog 27 #[.int .i64 first, .int .i64 count, .int .i64 i] w fun e w' => e = .returned (.tuple #[.int .i64 (first + i), .bool true]) ∧ w = w' := by
  have e1 : decide (i < 0) = false := by simp; omega
  have e2 : decide (count ≤ i) = false := by simp; omega
  go_enter Try.func27, Try.ntmps27
  go_wp2
  go_ret2
  exact ⟨rfl, rfl⟩

theorem register_out (first count i : Int) (w : World) (h : i < 0 ∨ count ≤ i) :
    Calls Try.prog 27 #[.int .i64 first, .int .i64 count, .int .i64 i] w fun e w' => e = .returned (.tuple #[.int .i64 0, .bool false]) ∧ w = w' := by
  by_cases h0 : i < 0
  · have e1 : decide (i < 0) = true := by simp; omega
    clear h
    go_enter Try.func27, Try.ntmps27
    go_wp2
    go_ret2
    exact ⟨rfl, rfl⟩
  · have e1 : decide (i < 0) = false := by simp; omega
    have e2 : decide (count ≤ i) = true := by simp; omega
    clear h
    go_enter Try.func27, Try.ntmps27
    go_wp2
    go_ret2
    exact ⟨rfl, rfl⟩

theorem slot_in (i : Int) (w : World) (h0 : 0 ≤ i) (h1 : i < 7) : Calls Try.prog 11 #[.int .i64 i] w fun e w' => e = .returned (.tuple #[.int .i64 (9 + i), .bool true]) ∧ w = w' := by
  have L := Lib.hid (register_in 9 7 i w h0 h1 (by omega) (by omega))
  go_enter Try.func11, Try.ntmps11
  go_wp2_with (first | (go_at_call 27; refine L.out.mono ?_; rintro e w' ⟨rfl, rfl⟩))
  go_ret2
  exact ⟨rfl, rfl⟩
theorem slot_out (i : Int) (w : World) (h : i < 0 ∨ 7 ≤ i) : Calls Try.prog 11 #[.int .i64 i] w fun e w' => e = .returned (.tuple #[.int .i64 0, .bool false]) ∧ w = w' := by
  have L := Lib.hid (register_out 9 7 i w h)
  clear h
  go_enter Try.func11, Try.ntmps11
  go_wp2_with (first | (go_at_call 27; refine L.out.mono ?_; rintro e w' ⟨rfl, rfl⟩))
  go_ret2
  exact ⟨rfl, rfl⟩
theorem local_in (i : Int) (w : World) (h0 : 0 ≤ i) (h1 : i < 8) : Calls Try.prog 12 #[.int .i64 i] w fun e w' => e = .returned (.tuple #[.int .i64 (19 + i), .bool true]) ∧ w = w' := by
  have L := Lib.hid (register_in 19 8 i w h0 h1 (by omega) (by omega))
  go_enter Try.func12, Try.ntmps12
  go_wp2_with (first | (go_at_call 27; refine L.out.mono ?_; rintro e w' ⟨rfl, rfl⟩))
  go_ret2
  exact ⟨rfl, rfl⟩
theorem local_out (i : Int) (w : World) (h : i < 0 ∨ 8 ≤ i) : Calls Try.prog 12 #[.int .i64 i] w fun e w' => e = .returned (.tuple #[.int .i64 0, .bool false]) ∧ w = w' := by
  have L := Lib.hid (register_out 19 8 i w h)
  clear h
  go_enter Try.func12, Try.ntmps12
  go_wp2_with (first | (go_at_call 27; refine L.out.mono ?_; rintro e w' ⟨rfl, rfl⟩))
  go_ret2
  exact ⟨rfl, rfl⟩

def slotR (i : Int) : Int := if 0 ≤ i ∧ i < 7 then 9 + i else 0
def slotB (i : Int) : Bool := decide (0 ≤ i ∧ i < 7)
def localR (i : Int) : Int := if 0 ≤ i ∧ i < 8 then 19 + i else 0
def localB (i : Int) : Bool := decide (0 ≤ i ∧ i < 8)
theorem slot_any (i : Int) (w : World) : Calls Try.prog 11 #[.int .i64 i] w fun e w' => e = .returned (.tuple #[.int .i64 (slotR i), .bool (slotB i)]) ∧ w = w' := by
  by_cases h : 0 ≤ i ∧ i < 7
  · simp only [slotR, slotB, if_pos h, decide_eq_true h]; exact slot_in i w h.1 h.2
  · simp only [slotR, slotB, if_neg h, decide_eq_false h]; exact slot_out i w (by omega)
theorem local_any (i : Int) (w : World) : Calls Try.prog 12 #[.int .i64 i] w fun e w' => e = .returned (.tuple #[.int .i64 (localR i), .bool (localB i)]) ∧ w = w' := by
  by_cases h : 0 ≤ i ∧ i < 8
  · simp only [localR, localB, if_pos h, decide_eq_true h]; exact local_in i w h.1 h.2
  · simp only [localR, localB, if_neg h, decide_eq_false h]; exact local_out i w (by omega)

theorem localWord_at (j : Int) (w : World) (h0 : 0 ≤ j) (h1 : j < 4611686018427387904) : Calls Try.prog 15 #[.int .i64 j] w fun e w' => e = .returned (.int .i64 (1 + j)) ∧ w = w' := by
  go_enter Try.func15, Try.ntmps15
  go_wp2
  go_ret
  exact ⟨rfl, rfl⟩
theorem slotWord_at (l i : Int) (w : World) (h0 : 0 ≤ l) (h1 : l < 2305843009213693952) (h2 : 0 ≤ i) (h3 : i < 2305843009213693952) : Calls Try.prog 16 #[.int .i64 l, .int .i64 i] w fun e w' => e = .returned (.int .i64 (1 + l + i)) ∧ w = w' := by
  go_enter Try.func16, Try.ntmps16
  go_wp2
  go_ret
  exact ⟨rfl, rfl⟩

theorem isReg_any (r : Int) (w : World) : Calls Try.prog 28 #[.int .i64 r] w fun e w' => e = .returned (.bool (decide (0 ≤ r) && decide (r ≤ 30))) ∧ w = w' := by
  by_cases h0 : 0 ≤ r
  · have e1 : decide (0 ≤ r) = true := by simpa using h0
    go_enter Try.func28, Try.ntmps28
    go_wp2
    go_ret
    simp [e1]
  · have e1 : decide (0 ≤ r) = false := by simpa using h0
    go_enter Try.func28, Try.ntmps28
    go_wp2
    go_ret
    simp [e1]

/-- A frame's bytes. -/
def frameN (l h : Int) : Int := if l < 0 ∨ 16 < l ∨ h < 0 ∨ 32 < h then 0 else (8 * (1 + l + h) + 15) / 16 * 16

theorem frame_out (l h : Int) (w : World) (hx : l < 0 ∨ 16 < l ∨ h < 0 ∨ 32 < h) : Calls Try.prog 14 #[.int .i64 l, .int .i64 h] w fun e w' => e = .returned (.int .i64 0) ∧ w = w' := by
  by_cases h1 : l < 0
  · have e1 : decide (l < 0) = true := by simpa using h1
    clear hx
    go_enter Try.func14, Try.ntmps14
    go_wp2
    go_ret
    exact ⟨rfl, rfl⟩
  have e1 : decide (l < 0) = false := by simpa using h1
  by_cases h2 : 16 < l
  · have e2 : decide (16 < l) = true := by simpa using h2
    clear hx
    go_enter Try.func14, Try.ntmps14
    go_wp2
    go_ret
    exact ⟨rfl, rfl⟩
  have e2 : decide (16 < l) = false := by simpa using h2
  by_cases h3 : h < 0
  · have e3 : decide (h < 0) = true := by simpa using h3
    clear hx
    go_enter Try.func14, Try.ntmps14
    go_wp2
    go_ret
    exact ⟨rfl, rfl⟩
  have e3 : decide (h < 0) = false := by simpa using h3
  have e4 : decide (32 < h) = true := by simp; omega
  clear hx
  go_enter Try.func14, Try.ntmps14
  go_wp2
  go_ret
  exact ⟨rfl, rfl⟩

theorem frame_in (l h : Int) (w : World) (h0 : 0 ≤ l) (h1 : l ≤ 16) (h2 : 0 ≤ h) (h3 : h ≤ 32) : Calls Try.prog 14 #[.int .i64 l, .int .i64 h] w fun e w' => e = .returned (.int .i64 ((8 * (1 + l + h) + 15) / 16 * 16)) ∧ w = w' := by
  have e1 : decide (l < 0) = false := by simp; omega
  have e2 : decide (16 < l) = false := by simp; omega
  have e3 : decide (h < 0) = false := by simp; omega
  have e4 : decide (32 < h) = false := by simp; omega
  have L := Lib.hid (slotWord_at l h w h0 (by omega) h2 (by omega))
  go_enter Try.func14, Try.ntmps14
  go_wp2_with (first | (go_at_call 16; refine L.out.mono ?_; rintro e w' ⟨rfl, rfl⟩))
  go_ret
  refine ⟨?_, rfl⟩
  show Ending.returned (.int .i64 ((8 * (1 + l + h) + 16 - 1) / 16 * 16)) = _
  rw [show 8 * (1 + l + h) + 16 - 1 = 8 * (1 + l + h) + 15 by omega]

theorem frame_any (l h : Int) (w : World) : Calls Try.prog 14 #[.int .i64 l, .int .i64 h] w fun e w' => e = .returned (.int .i64 (frameN l h)) ∧ w = w' := by
  by_cases hx : l < 0 ∨ 16 < l ∨ h < 0 ∨ 32 < h
  · simp only [frameN, if_pos hx]; exact frame_out l h w hx
  · simp only [frameN, if_neg hx]; exact frame_in l h w (by omega) (by omega) (by omega) (by omega)

/-! ### The document's frame -/
theorem rframe_out (l h : Int) (w : World) (hx : l < 0 ∨ 16 < l ∨ h < 0 ∨ 32 < h) : Calls Try.prog 13 #[.int .i64 l, .int .i64 h] w fun e w' => e = .returned (.int .i64 0) ∧ w = w' := by
  by_cases h1 : l < 0
  · have e1 : decide (l < 0) = true := by simpa using h1
    clear hx
    go_enter Try.func13, Try.ntmps13
    go_wp2
    go_ret
    exact ⟨rfl, rfl⟩
  have e1 : decide (l < 0) = false := by simpa using h1
  by_cases h2 : 16 < l
  · have e2 : decide (16 < l) = true := by simpa using h2
    clear hx
    go_enter Try.func13, Try.ntmps13
    go_wp2
    go_ret
    exact ⟨rfl, rfl⟩
  have e2 : decide (16 < l) = false := by simpa using h2
  by_cases h3 : h < 0
  · have e3 : decide (h < 0) = true := by simpa using h3
    clear hx
    go_enter Try.func13, Try.ntmps13
    go_wp2
    go_ret
    exact ⟨rfl, rfl⟩
  have e3 : decide (h < 0) = false := by simpa using h3
  have e4 : decide (32 < h) = true := by simp; omega
  clear hx
  go_enter Try.func13, Try.ntmps13
  go_wp2
  go_ret
  exact ⟨rfl, rfl⟩

theorem rframe_in (l h : Int) (w : World) (h0 : 0 ≤ l) (h1 : l ≤ 16) (h2 : 0 ≤ h) (h3 : h ≤ 32) : Calls Try.prog 13 #[.int .i64 l, .int .i64 h] w fun e w' => e = .returned (.int .i64 ((8 * (1 + l + h) + 15) / 16 * 16)) ∧ w = w' := by
  have e1 : decide (l < 0) = false := by simp; omega
  have e2 : decide (16 < l) = false := by simp; omega
  have e3 : decide (h < 0) = false := by simp; omega
  have e4 : decide (32 < h) = false := by simp; omega
  obtain ⟨n, hn⟩ : ∃ n, 8 * (1 + l + h) = n := ⟨_, rfl⟩
  go_enter Try.func13, Try.ntmps13
  have hn8 : n % 8 = 0 := by omega
  have hn0 : 0 ≤ n := by omega
  have hn1 : n ≤ 400 := by omega
  have HN := Lib.hid hn
  go_wp2
  clear hn
  go_loopw [5] (fun i wr => ∃ m : Int, i = .int .i64 m ∧ 0 ≤ m ∧ m ≤ 500 ∧ m % 8 = 0 ∧ (m + 15) / 16 * 16 = (n + 15) / 16 * 16 ∧ wr = w) (fun i _ => ((intOf i + 15) / 16 * 16 - intOf i).toNat)
  case atStart => exact ⟨n, rfl, hn0, by omega, hn8, rfl, rfl⟩
  case round =>
    obtain ⟨m, rfl, hm0, hm1, hm8, hmn, rfl⟩ := hrel
    have ht : m.tmod 16 = m % 16 := Int.tmod_eq_emod_of_nonneg hm0
    by_cases hz : m % 16 = 0
    · have hz1 : m.tmod 16 = 0 := by omega
      have hz2 : (m % 16 != 0) = false := by simp [hz]
      have hz3 : (m.tmod 16 != 0) = false := by simp [hz1]
      have HZ := Lib.hid hz
      clear ht hz
      go_wp2
      go_ret
      refine ⟨?_, rfl⟩
      show Ending.returned (.int .i64 m) = _
      have := HZ.out
      have := HN.out
      rw [show m = (8 * (1 + l + h) + 15) / 16 * 16 by omega]
    · have hz1 : m.tmod 16 = 8 := by omega
      have hz2 : (m % 16 != 0) = true := by simp [hz]
      have hz3 : (m.tmod 16 != 0) = true := by simp [hz1]
      have HZ := Lib.hid hz
      clear ht hz
      go_wp2
      have := HZ.out
      go_roundw
      case rel => exact ⟨m + 8, by go_num, by omega, by omega, by omega, by omega, by trivial⟩
      case measure => simp [intOf]; omega

theorem rframe_any (l h : Int) (w : World) : Calls Try.prog 13 #[.int .i64 l, .int .i64 h] w fun e w' => e = .returned (.int .i64 (frameN l h)) ∧ w = w' := by
  by_cases hx : l < 0 ∨ 16 < l ∨ h < 0 ∨ 32 < h
  · simp only [frameN, if_pos hx]; exact rframe_out l h w hx
  · simp only [frameN, if_neg hx]; exact rframe_in l h w (by omega) (by omega) (by omega) (by omega)
end Go.Proofs.Ytjnomnaeegcafaa
