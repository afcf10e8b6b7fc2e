import Derived.Test.YtmlffomdlcfcbaaD
namespace Go.Proofs.Ytmlffomdlcfcbaa
open Go.RowKit

set_option maxHeartbeats 400000 in
theorem append_none (w : World) (x : ByteArray) :
    Calls Try.prog 9 #[.pointer none, .string x] w fun e w' => e = .returned (.tuple #[.int .i64 0, .int .i64 6]) ∧ w = w' := by
  go_enter Try.func9, Try.ntmps9
  go_wp2
  go_ret2
  exact ⟨rfl, rfl⟩

set_option maxHeartbeats 400000 in
theorem append_full {w : World} {B b : Nat} {base : Int} {xs : List ByteArray} {v : Value} (h : LogAt w B b base xs v) (hl : 4096 ≤ xs.length) (x : ByteArray) :
    Calls Try.prog 9 #[.pointer (some ⟨b, 0, none⟩), .string x] w fun e w' => e = .returned (.tuple #[.int .i64 0, .int .i64 2]) ∧ w = w' := by
  have c1 := h.c1
  obtain ⟨a, c, hv⟩ : ∃ a c, v = .slice a xs.length c := (ownsRow_slice h.own).elim fun a h => h.elim fun c h => ⟨a, c, h.1⟩
  subst hv
  clear h
  have e3 : decide ((4096 : Int) ≤ (xs.length : Int)) = true := by simp; omega
  go_enter Try.func9, Try.ntmps9
  go_wp2
  go_ret2
  exact ⟨rfl, rfl⟩

set_option maxHeartbeats 400000 in
theorem at_none (w : World) (n : Int) :
    Calls Try.prog 15 #[.pointer none, .int .i64 n] w fun e w' => e = .returned (.tuple #[.string ⟨#[]⟩, .bool false]) ∧ ∃ m, w' = w.drewN m := by
  have L := Lib.hid (last_nil w)
  by_cases h1 : n ≤ 0
  · have e1 : decide (n ≤ 0) = true := by simpa using h1
    go_enter Try.func15, Try.ntmps15
    go_wp2_with (first | (go_at_call 18; refine (base_nil _).mono ?_; rintro e w' ⟨rfl, rfl⟩) | (go_at_call 19; refine L.out.mono ?_; rintro e w' ⟨rfl, m, rfl⟩))
    go_ret2
    exact ⟨rfl, 0, rfl⟩
  · have e1 : decide (n ≤ 0) = false := by simpa using h1
    have e2 : decide (0 < n) = true := by simpa using h1
    go_enter Try.func15, Try.ntmps15
    go_wp2_with (first | (go_at_call 18; refine (base_nil _).mono ?_; rintro e w' ⟨rfl, rfl⟩) | (go_at_call 19; refine L.out.mono ?_; rintro e w' ⟨rfl, m, rfl⟩))
    go_ret2
    exact ⟨rfl, m, rfl⟩

set_option maxHeartbeats 400000 in
theorem at_out {w : World} {B b : Nat} {base : Int} {xs : List ByteArray} {v : Value} (h : LogAt w B b base xs v) (hb : 0 ≤ base) (hn : base + xs.length ≤ 9223372036854775807) (n : Int) (h1 : n ≤ base ∨ base + xs.length < n) :
    Calls Try.prog 15 #[.pointer (some ⟨b, 0, none⟩), .int .i64 n] w fun e w' => e = .returned (.tuple #[.string ⟨#[]⟩, .bool false]) ∧ ∃ m, w' = w.drewN m := by
  have L := Lib.hid (last_at h hb hn)
  have LB := Lib.hid (base_at b base w h.c0)
  by_cases h1' : n ≤ base
  · have e1 : decide (n ≤ base) = true := by simpa using h1'
    clear h1
    go_enter Try.func15, Try.ntmps15
    go_wp2_with (first | (go_at_call 18; refine LB.out.mono ?_; rintro e w' ⟨rfl, rfl⟩) | (go_at_call 19; refine L.out.mono ?_; rintro e w' ⟨rfl, m, rfl⟩))
    go_ret2
    exact ⟨rfl, 0, rfl⟩
  · have e1 : decide (n ≤ base) = false := by simpa using h1'
    have e2 : decide (base + (xs.length : Int) < n) = true := by simp; omega
    clear h1
    go_enter Try.func15, Try.ntmps15
    go_wp2_with (first | (go_at_call 18; refine LB.out.mono ?_; rintro e w' ⟨rfl, rfl⟩) | (go_at_call 19; refine L.out.mono ?_; rintro e w' ⟨rfl, m, rfl⟩))
    go_ret2
    exact ⟨rfl, m, rfl⟩

set_option maxHeartbeats 1000000 in
theorem at_in {w : World} {B b : Nat} {base : Int} {xs : List ByteArray} {v : Value} (h : LogAt w B b base xs v) (hb : 0 ≤ base) (hn : base + xs.length ≤ 9223372036854775807) (j : Nat) (hj : j < xs.length) :
    Calls Try.prog 15 #[.pointer (some ⟨b, 0, none⟩), .int .i64 (base + j + 1)] w fun e w' => e = .returned (.tuple #[.string (xs.getD j ByteArray.empty), .bool true]) ∧ ∃ m, w' = w.drewN m := by
  have L := Lib.hid (last_at h hb hn)
  have LB := Lib.hid (base_at b base w h.c0)
  have c0 := h.c0
  have c1 := h.c1
  rcases h.shape with ⟨_, rfl⟩ | ⟨g, cap, rfl, hcap, _, _, _, hc⟩
  · simp at hj
  have cj := hc j hj
  clear hc
  obtain ⟨x, hx⟩ : ∃ x, xs.getD j ByteArray.empty = x := ⟨_, rfl⟩
  rw [hx] at cj ⊢
  clear hx
  have e1 : decide (base + (j : Int) + 1 ≤ base) = false := by simp; omega
  have e2 : decide (base + (xs.length : Int) < base + (j : Int) + 1) = false := by simp; omega
  have i1 : IntKind.i64.wrap (base + (j : Int) + 1 - base) = (j : Int) + 1 := by rw [IntWalk.i64_in] <;> omega
  have i2 : IntKind.i64.wrap ((j : Int) + 1 - 1) = (j : Int) := by rw [IntWalk.i64_in] <;> omega
  have b0 : (0 : Int) ≤ (j : Int) := by omega
  have b1 : (j : Int) < (xs.length : Int) := by omega
  go_enter Try.func15, Try.ntmps15
  go_wp2_with (first | (go_at_call 18; refine LB.out.mono ?_; rintro e w' ⟨rfl, rfl⟩) | (go_at_call 19; refine L.out.mono ?_; rintro e w' ⟨rfl, m, rfl⟩))
  go_quiet (fail)
  go_wp2
  go_ret2
  exact ⟨rfl, m + nq, by simp⟩

set_option maxHeartbeats 400000 in
theorem list_none (w : World) :
    Calls Try.prog 20 #[.pointer none] w fun e w' => e = .returned (.slice none 0 0) ∧ w = w' := by
  go_enter Try.func20, Try.ntmps20
  go_wp2
  go_ret
  exact ⟨rfl, rfl⟩

/-- A row that a call has made for itself. -/
def Made (w : World) (e : TypeId) (n : Nat) (vs : List Value) (en : Ending) (w' : World) : Prop :=
  ∃ a c, en = .returned (.slice a n c) ∧ w'.ownsRow w.heap.size e 1 (.slice a n c) n vs ∧ Below w.heap.size w w'

theorem LogAt.reads {w : World} {B b : Nat} {base : Int} {xs : List ByteArray} {v : Value} (h : LogAt w B b base xs v) : Reads w v (xs.map Value.string) := by
  rcases h.shape with ⟨rfl, rfl⟩ | ⟨g, cap, rfl, hcap, _, _, _, hc⟩
  · exact .inl ⟨rfl, rfl⟩
  · refine .inr ⟨⟨g, 0, none⟩, cap, by simp, ?_⟩
    have := h.subs 0 xs.length (Nat.le_refl _)
    simpa using this.out

set_option maxHeartbeats 400000 in
theorem list_at {w : World} {B b : Nat} {base : Int} {xs : List ByteArray} {v : Value} (h : LogAt w B b base xs v) (hl : xs.length * 16 ≤ 140737488355328) :
    Calls Try.prog 20 #[.pointer (some ⟨b, 0, none⟩)] w (Made w 9 xs.length (xs.map Value.string)) := by
  have c1 := h.c1
  have C := Lib.hid (clone_any w v xs h.reads hl)
  clear h
  go_enter Try.func20, Try.ntmps20
  go_wp2_with (first | (go_at_call 21; ((refine C.out.mono ?_); rintro e w1 ⟨a', c', rfl, hown, hnil, hbel⟩)))
  go_ret
  exact ⟨_, _, rfl, hown, hbel⟩

/-- A new log. -/
def NewPost (w : World) (base : Int) (xs : List ByteArray) (e : Ending) (w' : World) : Prop :=
  ∃ b v, e = .returned (.tuple #[.pointer (some ⟨b, 0, none⟩), .int .i64 0]) ∧ LogAt w' w.heap.size b base xs v ∧ Below w.heap.size w w'

set_option maxHeartbeats 400000 in
theorem new_arg (w : World) (v : Value) (n : Int) (h : n < 0 ∨ 1099511627776 < n) :
    Calls Try.prog 6 #[.int .i64 n, v] w fun e w' => e = .returned (.tuple #[.pointer none, .int .i64 1]) ∧ w = w' := by
  by_cases h1 : n < 0
  · have e1 : decide (n < 0) = true := by simpa using h1
    clear h
    go_enter Try.func6, Try.ntmps6
    go_wp2
    go_ret2
    exact ⟨rfl, rfl⟩
  · have e1 : decide (n < 0) = false := by simpa using h1
    have e2 : decide (1099511627776 < n) = true := by simp; omega
    clear h
    go_enter Try.func6, Try.ntmps6
    go_wp2
    go_ret2
    exact ⟨rfl, rfl⟩

set_option maxHeartbeats 400000 in
theorem new_long (w : World) (a : Option Addr) (len cap : Nat) (n : Int) (h0 : 0 ≤ n) (h1 : n ≤ 1099511627776) (hl : 4096 < len) :
    Calls Try.prog 6 #[.int .i64 n, .slice a len cap] w fun e w' => e = .returned (.tuple #[.pointer none, .int .i64 3]) ∧ w = w' := by
  have e1 : decide (n < 0) = false := by simpa using h0
  have e2 : decide (1099511627776 < n) = false := by simpa using h1
  have e3 : decide ((4096 : Int) < (len : Int)) = true := by simp; omega
  go_enter Try.func6, Try.ntmps6
  go_wp2
  go_ret2
  exact ⟨rfl, rfl⟩

theorem Reads.slice {w : World} {v : Value} {vs : List Value} (h : Reads w v vs) : ∃ a c, v = .slice a vs.length c := by
  rcases h with ⟨rfl, rfl⟩ | ⟨a, cap, rfl, _⟩
  · exact ⟨none, 0, rfl⟩
  · exact ⟨_, _, rfl⟩

set_option maxRecDepth 100000 in
set_option maxHeartbeats 1000000 in
theorem new_ok (w : World) (v : Value) (xs : List ByteArray) (hr : Reads w v (xs.map Value.string)) (n : Int) (h0 : 0 ≤ n) (h1 : n ≤ 1099511627776) (hl : xs.length ≤ 4096) :
    Calls Try.prog 6 #[.int .i64 n, v] w (NewPost w n xs) := by
  have e1 : decide (n < 0) = false := by simpa using h0
  have e2 : decide (1099511627776 < n) = false := by simpa using h1
  have C := Lib.hid (clone_any w v xs hr (by omega))
  obtain ⟨a, c, rfl⟩ := hr.slice
  simp only [List.length_map] at *
  clear hr
  have e3 : decide ((4096 : Int) < (xs.length : Int)) = false := by simp; omega
  go_enter Try.func6, Try.ntmps6
  go_wp2_with (first | (go_at_call 21; ((refine C.out.mono ?_); rintro e w1 ⟨a', c', rfl, hown, hnil, hbel⟩)))
  go_ret2
  refine ⟨w1.heap.size, _, rfl, ⟨hbel.size, heap_alloc_new w1 _, hown.alloc _⟩, hbel.alloc hbel.size _⟩

def FromPost (w : World) (l : Value) (n : Int) (e : Ending) (w' : World) : Prop :=
  e = .returned (.func (.func 25) #[] #[.pointer (some ⟨w.heap.size + 1, 0, none⟩), .pointer (some ⟨w.heap.size, 0, none⟩)]) ∧ w' = (w.alloc (.cells #[l] 24)).alloc (.cells #[.int .i64 n] 3)

set_option maxHeartbeats 400000 in
theorem from_any (w : World) (p : Option Addr) (n : Int) :
    Calls Try.prog 17 #[.pointer p, .int .i64 n] w (FromPost w (.pointer p) n) := by
  go_enter Try.func17, Try.ntmps17
  go_wp2
  go_ret
  exact ⟨rfl, rfl⟩

end Go.Proofs.Ytmlffomdlcfcbaa
