import Derived.Test.YtmlffomdlcfcbaaN
namespace Go.Proofs.Ytmlffomdlcfcbaa
open Go.RowKit

theorem kept_take (xs : List ByteArray) (k : Nat) : kept xs 0 k xs.length = xs.take k := by
  simp only [kept, List.drop_zero]
  by_cases h : k ≤ xs.length
  · rw [Nat.min_eq_right h]
  · rw [Nat.min_eq_left (by omega), List.take_of_length_le (Nat.le_refl _), List.take_of_length_le (by omega)]
theorem kept_drop (xs : List ByteArray) (k : Nat) : kept xs k xs.length xs.length = xs.drop k := by simp [kept]

/-- Stores of a fresh row, and of a base, into the document's log. -/
theorem RefAt.stored {w w1 : World} {B b : Nat} {base n : Int} {xs ys : List ByteArray} {v v' : Value} (h : RefAt w B b base xs v) (hB : B ≤ w.heap.size)
    (hown : w1.ownsRow w.heap.size 43 2 v' ys.length (items n ys)) (hbel : Below w.heap.size w w1) :
    w1.heap[b]? = some (.cells #[v, .int .i64 base] 41 (0, 0)) ∧ (n = base → RefAt (w1.setCell ⟨b, 0, none⟩ v') B b n ys v') ∧ RefAt ((w1.setCell ⟨b, 0, none⟩ v').setCell ⟨b, 1, none⟩ (.int .i64 n)) B b n ys v' ∧
      Ch (fun k => k = b ∨ v.ownBlock = some k) w (w1.setCell ⟨b, 0, none⟩ v') := by
  have hlt := h.lt
  have hh : w1.heap[b]? = some (.cells #[v, .int .i64 base] 41 (0, 0)) := (hbel.block b hlt).trans h.heap
  have h1 := heap_setCell_self (i := 0) v' hh
  have ho := ownsRow_lower (ownsRow_setCell_ne hown (a := ⟨b, 0, none⟩) (own_elem hown hh (by decide)) v') hB
  refine ⟨hh, fun e => ⟨h.lo, ?_, ho⟩, ⟨h.lo, ?_, ?_⟩, ?_⟩
  · rw [h1, e]; rfl
  · rw [heap_setCell_self _ h1]; rfl
  · exact ownsRow_setCell_ne ho (a := ⟨b, 1, none⟩) (own_elem ho h1 (by decide)) _
  · exact (Ch.of_below_size hbel).setCell ⟨b, 0, none⟩ v' (fun _ => .inl rfl)

set_option maxRecDepth 100000 in
set_option maxHeartbeats 1000000 in
theorem rcut_at {w : World} {B b : Nat} {base : Int} {xs : List ByteArray} {v : Value} (h : RefAt w B b base xs v) (hB : B ≤ w.heap.size) (hb : 0 ≤ base) (hn : base + xs.length ≤ 4611686018427387904) (hl : xs.length ≤ 4096)
    (n : Int) (h1 : base ≤ n) (h2 : n ≤ base + xs.length) :
    Calls Try.prog 12 #[.pointer (some ⟨b, 0, none⟩), .int .i64 n] w (RefPost w B b base (xs.take (n - base).toNat) v (.int .i64 0)) := by
  have c1 := h.c1
  have c0 := h.c0
  have f0 := h.f0 0
  have hbs := h.lt
  have HL := Lib.hid (rlast_at h hb (by omega))
  obtain ⟨ys, hys⟩ : ∃ ys, xs.take (n - base).toNat = ys := ⟨_, rfl⟩
  have HK : ∀ m, Calls Try.prog 24 #[.pointer (some ⟨b, 0, none⟩), .int .i64 0, .int .i64 n] (w.drewN m) (Kept (w.drewN m) base ys) := by
    intro m
    have := keep_any (h.drewN m) hb hn hl 0 n 0 (n - base).toNat (fun i _ => by omega) (fun i _ => by omega)
    rw [kept_take, hys] at this
    simpa using this
  rw [hys]
  clear hys
  have HK2 := Lib.hid HK
  clear HK
  have e1 : decide (n < base) = false := by simpa using h1
  have e2 : decide (base + (xs.length : Int) < n) = false := by simp; omega
  have H := Lib.hid h
  clear h h1 h2
  go_enter Try.func12, Try.ntmps12
  go_wp2_with (first | (go_at_call 22; refine HL.out.mono ?_; rintro e w' ⟨rfl, m, rfl⟩))
  refine (HK2.out m).mono ?_
  rintro e w1 ⟨a', c', rfl, hown, hbel⟩
  have hst := RefAt.stored (n := base) (H.out.drewN m) hB hown hbel
  have q0 : w1.cell? ⟨b, 0, none⟩ = some v := by simp [World.cell?, hst.1]
  have q1 : w1.frozen? ⟨b, 0, none⟩ = false := by simp [World.frozen?, hst.1]
  have HS := Lib.hid hst
  clear hst hown hbel
  go_wp2
  go_ret
  exact ⟨rfl, _, HS.out.2.1 (by simp), (((Ch.refl _ w).drewN m).trans HS.out.2.2.2 (fun _ _ h => h))⟩

set_option maxRecDepth 100000 in
set_option maxHeartbeats 1000000 in
theorem rrebase_at {w : World} {B b : Nat} {base : Int} {xs : List ByteArray} {v : Value} (h : RefAt w B b base xs v) (hB : B ≤ w.heap.size) (hb : 0 ≤ base) (hn : base + xs.length ≤ 4611686018427387904) (hl : xs.length ≤ 4096)
    (n : Int) (h1 : base ≤ n) (h2 : n ≤ base + xs.length) :
    Calls Try.prog 14 #[.pointer (some ⟨b, 0, none⟩), .int .i64 n] w (RefPost w B b n (xs.drop (n - base).toNat) v (.int .i64 0)) := by
  have c1 := h.c1
  have c0 := h.c0
  have hbs := h.lt
  have HL := Lib.hid (rlast_at h hb (by omega))
  obtain ⟨ys, hys⟩ : ∃ ys, xs.drop (n - base).toNat = ys := ⟨_, rfl⟩
  have HK : ∀ m, Calls Try.prog 24 #[.pointer (some ⟨b, 0, none⟩), .int .i64 (n + 1), .int .i64 4611686018427387904] (w.drewN m) (Kept (w.drewN m) n ys) := by
    intro m
    have := keep_any (h.drewN m) hb hn hl (n + 1) 4611686018427387904 (n - base).toNat xs.length (fun i _ => by omega) (fun i hi => by omega)
    rw [kept_drop, hys, show base + ((n - base).toNat : Int) = n by omega] at this
    exact this
  rw [hys]
  clear hys
  have HK2 := Lib.hid HK
  clear HK
  have e1 : decide (n < base) = false := by simpa using h1
  have e2 : decide (base + (xs.length : Int) < n) = false := by simp; omega
  have n0 : 0 ≤ n := by omega
  have n1 : n ≤ 4611686018427387904 := by omega
  have H := Lib.hid h
  clear h h1 h2
  go_enter Try.func14, Try.ntmps14
  go_wp2_with (first | (go_at_call 22; refine HL.out.mono ?_; rintro e w' ⟨rfl, m, rfl⟩))
  refine (HK2.out m).mono ?_
  rintro e w1 ⟨a', c', rfl, hown, hbel⟩
  have hst := RefAt.stored (n := n) (H.out.drewN m) hB hown hbel
  have q0 : w1.cell? ⟨b, 0, none⟩ = some v := by simp [World.cell?, hst.1]
  have q1 : w1.frozen? ⟨b, 0, none⟩ = false := by simp [World.frozen?, hst.1]
  have q2 : w1.cell? ⟨b, 1, none⟩ = some (.int .i64 base) := by simp [World.cell?, hst.1]
  have q3 : w1.frozen? ⟨b, 1, none⟩ = false := by simp [World.frozen?, hst.1]
  have HS := Lib.hid hst
  clear hst hown hbel
  go_wp2
  go_ret
  exact ⟨rfl, _, HS.out.2.2.1, (((Ch.refl _ w).drewN m).trans HS.out.2.2.2 (fun _ _ h => h)).setCell ⟨b, 1, none⟩ _ (fun _ => .inl rfl)⟩

set_option maxHeartbeats 400000 in
theorem rcut_bad {w : World} {B b : Nat} {base : Int} {xs : List ByteArray} {v : Value} (h : RefAt w B b base xs v) (hb : 0 ≤ base) (hn : base + xs.length ≤ 9223372036854775807) (n : Int) (h1 : n < base ∨ base + xs.length < n) :
    Calls Try.prog 12 #[.pointer (some ⟨b, 0, none⟩), .int .i64 n] w fun e w' => e = .returned (.int .i64 1) ∧ ∃ n, w' = w.drewN n := by
  have c1 := h.c1
  have HL := Lib.hid (rlast_at h hb hn)
  by_cases h1' : n < base
  · have e1 : decide (n < base) = true := by simpa using h1'
    clear h1
    go_enter Try.func12, Try.ntmps12
    go_wp2
    go_ret
    exact ⟨rfl, 0, rfl⟩
  · have e1 : decide (n < base) = false := by simpa using h1'
    have e2 : decide (base + (xs.length : Int) < n) = true := by simp; omega
    clear h1
    go_enter Try.func12, Try.ntmps12
    go_wp2_with (go_at_call 22; refine HL.out.mono ?_; rintro e w' ⟨rfl, m, rfl⟩)
    go_ret
    exact ⟨rfl, m, rfl⟩

set_option maxHeartbeats 400000 in
theorem rrebase_bad {w : World} {B b : Nat} {base : Int} {xs : List ByteArray} {v : Value} (h : RefAt w B b base xs v) (hb : 0 ≤ base) (hn : base + xs.length ≤ 9223372036854775807) (n : Int) (h1 : n < base ∨ base + xs.length < n) :
    Calls Try.prog 14 #[.pointer (some ⟨b, 0, none⟩), .int .i64 n] w fun e w' => e = .returned (.int .i64 1) ∧ ∃ n, w' = w.drewN n := by
  have c1 := h.c1
  have HL := Lib.hid (rlast_at h hb hn)
  by_cases h1' : n < base
  · have e1 : decide (n < base) = true := by simpa using h1'
    clear h1
    go_enter Try.func14, Try.ntmps14
    go_wp2
    go_ret
    exact ⟨rfl, 0, rfl⟩
  · have e1 : decide (n < base) = false := by simpa using h1'
    have e2 : decide (base + (xs.length : Int) < n) = true := by simp; omega
    clear h1
    go_enter Try.func14, Try.ntmps14
    go_wp2_with (go_at_call 22; refine HL.out.mono ?_; rintro e w' ⟨rfl, m, rfl⟩)
    go_ret
    exact ⟨rfl, m, rfl⟩

theorem rappend_at {w : World} {B b : Nat} {base : Int} {xs : List ByteArray} {v : Value} (h : RefAt w B b base xs v) (hB : B ≤ w.heap.size) (hb : 0 ≤ base) (hn : base + xs.length + 1 ≤ 9223372036854775807) (hl : xs.length < 4096) (x : ByteArray) :
    Calls Try.prog 10 #[.pointer (some ⟨b, 0, none⟩), .string x] w (RefPost w B b base (xs ++ [x]) v (.tuple #[.int .i64 (base + xs.length + 1), .int .i64 0])) := by
  rcases h.shape with ⟨rfl, rfl⟩ | ⟨g, cap, rfl, _⟩
  · have := rappend_nil h hB hb (by simpa using hn) x
    simpa using this
  · exact rappend_some h hB hb hn hl x

end Go.Proofs.Ytmlffomdlcfcbaa
