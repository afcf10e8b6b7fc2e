import Derived.Test.YtmlffomdlcfcbaaO
import Derived.Deep.RegionLaw
namespace Go.Proofs.Ytmlffomdlcfcbaa
open Go.RowKit

def RNewPost (w : World) (base : Int) (xs : List ByteArray) (e : Ending) (w' : World) : Prop :=
  ∃ b v, e = .returned (.tuple #[.pointer (some ⟨b, 0, none⟩), .int .i64 0]) ∧ RefAt w' w.heap.size b base xs v ∧ Below w.heap.size w w'

set_option maxHeartbeats 400000 in
theorem rnew_arg (w : World) (v : Value) (n : Int) (h : n < 0 ∨ 1099511627776 < n) :
    Calls Try.prog 7 #[.int .i64 n, v] w fun e w' => e = .returned (.tuple #[.pointer none, .int .i64 1]) ∧ w = w' := by
  by_cases h1 : n < 0
  · have e1 : decide (n < 0) = true := by simpa using h1
    clear h
    go_enter Try.func7, Try.ntmps7
    go_wp2
    go_ret2
    exact ⟨rfl, rfl⟩
  · have e1 : decide (n < 0) = false := by simpa using h1
    have e2 : decide (1099511627776 < n) = true := by simp; omega
    clear h
    go_enter Try.func7, Try.ntmps7
    go_wp2
    go_ret2
    exact ⟨rfl, rfl⟩

set_option maxHeartbeats 400000 in
theorem rnew_long (w : World) (a : Option Addr) (len cap : Nat) (n : Int) (h0 : 0 ≤ n) (h1 : n ≤ 1099511627776) (hl : 4096 < len) :
    Calls Try.prog 7 #[.int .i64 n, .slice a len cap] w fun e w' => e = .returned (.tuple #[.pointer none, .int .i64 3]) ∧ w = w' := by
  have e1 : decide (n < 0) = false := by simpa using h0
  have e2 : decide (1099511627776 < n) = false := by simpa using h1
  have e3 : decide ((4096 : Int) < (len : Int)) = true := by simp; omega
  go_enter Try.func7, Try.ntmps7
  go_wp2
  go_ret2
  exact ⟨rfl, rfl⟩

set_option maxRecDepth 100000 in
set_option maxHeartbeats 2000000 in
theorem rnew_some (w : World) (c0 : Nat) (xs : List ByteArray) (ob off : Nat) (ha : 0 < xs.length → ob < w.heap.size) (hc : ∀ j, j < xs.length → w.cell? ⟨ob, off + j, none⟩ = some (.string (xs.getD j ByteArray.empty)))
    (n : Int) (h0 : 0 ≤ n) (h1 : n ≤ 1099511627776) (hl : xs.length ≤ 4096) :
    Calls Try.prog 7 #[.int .i64 n, .slice (some ⟨ob, off, none⟩) xs.length c0] w (RNewPost w n xs) := by
  have e1 : decide (n < 0) = false := by simpa using h0
  have e2 : decide (1099511627776 < n) = false := by simpa using h1
  have e3 : decide ((4096 : Int) < (xs.length : Int)) = false := by simp; omega
  have HA := Lib.hid ha
  have HC := Lib.hid hc
  clear ha hc
  obtain ⟨i0, hi0, hz0, hz1, hz2⟩ := info_parts Try.infoItem
  go_enter Try.func7, Try.ntmps7
  go_wp2
  go_loopw [7] (fun i wr => ∃ (j : Nat) (v : Value), j ≤ xs.length ∧ i = .int .i64 j ∧ RefAt wr w.heap.size w.heap.size n (xs.take j) v ∧ Below w.heap.size w wr) (fun i _ => xs.length - (intOf i).toNat)
  case atStart =>
    refine ⟨0, .slice none 0 0, Nat.zero_le _, rfl, ⟨Nat.le_refl _, ?_, ?_⟩, (Below.refl _ w).alloc (Nat.le_refl _) _⟩
    · exact heap_alloc_new w _
    · simp only [List.take_zero]; exact World.ownsRow_nil _ _ _ _
  case round =>
    obtain ⟨j, v, hj, rfl, hlog, hbel⟩ := hrel
    by_cases hjl : j < xs.length
    · have hob := HA.out (by omega)
      have cj := (hbel.cell (p := ⟨ob, off + j, none⟩) hob).trans (HC.out j hjl)
      have q0 : decide ((j : Int) < (xs.length : Int)) = true := by simp; omega
      have b0 : (0 : Int) ≤ (j : Int) := by omega
      have b1 : (j : Int) < (xs.length : Int) := by omega
      have d0 := hlog.c0
      have d1 := hlog.f0 0
      have hlt := hlog.lt
      have hown := hlog.own
      have hsz := hbel.size
      have hne := hlog.ne
      have hlen : (xs.take j).length = j := by simp; omega
      have s1 : IntKind.i64.wrap (n + 1) = n + 1 := by rw [IntWalk.i64_in] <;> omega
      have s2 : IntKind.i64.wrap (n + 1 + (j : Int)) = n + 1 + j := by rw [IntWalk.i64_in] <;> omega
      obtain ⟨x, hx⟩ : ∃ x, xs.getD j ByteArray.empty = x := ⟨_, rfl⟩
      rw [hx] at cj
      rw [hlen] at hown
      obtain ⟨ad, cd, hv⟩ : ∃ a c, v = .slice a j c := (ownsRow_slice hown).elim fun a h => h.elim fun c h => ⟨a, c, h.1⟩
      subst hv
      have hP : ∀ (gg cap : Nat) (w1 : World), w1.ownsRow w.heap.size 43 2 (.slice (some ⟨gg, 0, none⟩) (j + 1) cap) (j + 1) (items n (xs.take j) ++ [.int .i64 (n + 1 + j), .string x]) →
          (wr.alloc (.cells #[.int .i64 (n + 1 + j), .string x] 43)).drew.grownBy w1 (Value.slice ad j cd).ownBlock →
          (w1.cell? ⟨w.heap.size, 0, none⟩ = some (.slice ad j cd) ∧ w1.frozen? ⟨w.heap.size, 0, none⟩ = false) ∧
          RefAt (w1.setCell ⟨w.heap.size, 0, none⟩ (.slice (some ⟨gg, 0, none⟩) (j + 1) cap)) w.heap.size w.heap.size n (xs.take (j + 1)) (.slice (some ⟨gg, 0, none⟩) (j + 1) cap) ∧ Below w.heap.size w (w1.setCell ⟨w.heap.size, 0, none⟩ (.slice (some ⟨gg, 0, none⟩) (j + 1) cap)) := by
        intro gg cap w1 ho hg
        have ho' : w1.ownsRow w.heap.size 43 2 (.slice (some ⟨gg, 0, none⟩) ((xs.take j).length + 1) cap) ((xs.take j).length + 1) (items n (xs.take j) ++ [.int .i64 (n + (xs.take j).length + 1), .string x]) := by
          rw [hlen, show n + (j : Int) + 1 = n + 1 + j by omega]; exact ho
        have hp := RefAt.pushed (w1 := wr) (v1 := .slice ad j cd) (x := x) hlog (.cells #[.int .i64 (n + 1 + j), .string x] 43) hlog.own (Ch.refl _ wr) rfl (fun k hk _ => hk) ho' ⟨hg.os, hg.tape, hg.output, hg.size, hg.block⟩
        rw [hlen] at hp
        have ht : xs.take (j + 1) = xs.take j ++ [x] := by rw [List.take_succ_eq_append_getElem hjl, ← hx]; simp [List.getD, List.getElem?_eq_getElem hjl]
        refine ⟨⟨by simp [World.cell?, hp.1], by simp [World.frozen?, hp.1]⟩, ?_, hbel.trans (hp.2.2.below ?_ hbel.size)⟩
        · rw [ht]; exact hp.2.1
        · rintro i (rfl | hi)
          · exact Nat.le_refl _
          · exact (hlog.own.lt i hi).1
      have HP := Lib.hid hP
      clear hP hx hlen hlog
      have hnew := World.new_ne wr _ cj
      have hnew2 := World.new_ne wr _ d0
      go_wp2_with fail
      go_region_law (first | (refine step_append_lies _ (by rfl) _ _ _ (by rfl) w.heap.size 43 i0 _ 2 24 Try.underlying39 hi0 hz0 hz1 hz2 rfl (by omega) (.slice ad j cd) j (items n (xs.take j)) (by rfl) ((hown.alloc _).drew) ⟨wr.heap.size, 0, none⟩ 1 1 [.int .i64 (n + 1 + j), .string x] (by rfl) (by rfl) (World.news_of_block (cs := #[.int .i64 (n + 1 + j), .string x]) (t := 43) (fr := (0, 0)) (heap_alloc_new wr _)) (by simp [Value.oneCell']) (by omega) (by unfold maxLen; omega) (by omega) (by simp; omega) (wr.heap.size + 1) (by simp) ?_; intro gg cap w1 hown1 hgrow hat hltg; obtain ⟨⟨p0, p1⟩, p2, p3⟩ := HP.out gg cap w1 hown1 hgrow; clear hat hltg hgrow hown1))
      all_goals
        go_wp2
        go_roundw
        case rel => first | exact ⟨j + 1, _, by omega, by go_num, p2, p3⟩ | ((repeat apply Exists.intro); exact ⟨⟨j + 1, _, by omega, by go_num, p2, p3⟩, rfl⟩)
        case measure => simp [intOf]; omega
    · obtain rfl : j = xs.length := by omega
      have q0 : decide ((xs.length : Int) < (xs.length : Int)) = false := by simp
      rw [List.take_length] at hlog
      go_wp2
      go_ret2
      exact ⟨_, _, rfl, hlog, hbel⟩

set_option maxRecDepth 100000 in
set_option maxHeartbeats 2000000 in
theorem rnew_empty (w : World) (a0 : Option Addr) (c0 : Nat)
    (n : Int) (h0 : 0 ≤ n) (h1 : n ≤ 1099511627776) :
    Calls Try.prog 7 #[.int .i64 n, .slice a0 0 c0] w (RNewPost w n []) := by
  have e1 : decide (n < 0) = false := by simpa using h0
  have e2 : decide (1099511627776 < n) = false := by simpa using h1
  go_enter Try.func7, Try.ntmps7
  go_wp2
  go_loopw [7] (fun i wr => i = .int .i64 0 ∧ RefAt wr w.heap.size w.heap.size n [] (.slice none 0 0) ∧ Below w.heap.size w wr) (fun _ _ => 0)
  case atStart =>
    refine ⟨rfl, ⟨Nat.le_refl _, ?_, ?_⟩, (Below.refl _ w).alloc (Nat.le_refl _) _⟩
    · exact heap_alloc_new w _
    · exact World.ownsRow_nil _ _ _ _
  case round =>
    obtain ⟨rfl, hlog, hbel⟩ := hrel
    go_wp2
    go_ret2
    exact ⟨_, _, rfl, hlog, hbel⟩

theorem rnew_ok (w : World) (v : Value) (xs : List ByteArray) (hr : Reads w v (xs.map Value.string)) (n : Int) (h0 : 0 ≤ n) (h1 : n ≤ 1099511627776) (hl : xs.length ≤ 4096) :
    Calls Try.prog 7 #[.int .i64 n, v] w (RNewPost w n xs) := by
  rcases hr with ⟨rfl, hx⟩ | ⟨a, cap, rfl, hc⟩
  · obtain rfl : xs = [] := by simpa using hx
    exact rnew_empty w none 0 n h0 h1
  · by_cases he : xs.length = 0
    · obtain rfl : xs = [] := List.eq_nil_of_length_eq_zero he
      exact rnew_empty w (some a) cap n h0 h1
    · have hc0 := hc 0 (.string (xs.getD 0 ByteArray.empty)) (by simp [List.getD, List.getElem?_eq_getElem (show 0 < xs.length by omega)])
      have hspot := World.cell?_spot hc0
      obtain ⟨b, off, spot⟩ := a
      obtain rfl : spot = none := by simpa [Addr.add] using hspot
      rw [List.length_map]
      refine rnew_some w cap xs b off (fun _ => ?_) (fun j hj => ?_) n h0 h1 hl
      · have := World.block_lt_of_cell? _ _ hc0
        simpa [Addr.add_lit] using this
      · have := hc j (.string (xs.getD j ByteArray.empty)) (by simp [List.getD, List.getElem?_eq_getElem hj])
        rwa [Addr.add_lit] at this

end Go.Proofs.Ytmlffomdlcfcbaa
