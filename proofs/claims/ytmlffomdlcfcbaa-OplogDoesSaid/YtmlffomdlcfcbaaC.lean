import Derived.Test.YtmlffomdlcfcbaaB
namespace Go.Proofs.Ytmlffomdlcfcbaa
open Go.RowKit

/-- A base set behind the slice. -/
theorem LogAt.based {w : World} {B b : Nat} {base : Int} {xs : List ByteArray} {v : Value} (h : LogAt w B b base xs v) (n : Int) : LogAt (w.setCell ⟨b, 0, none⟩ (.int .i64 n)) B b n xs v := by
  refine ⟨h.lo, ?_, ⟨h.own.1, ?_⟩⟩
  · rw [heap_setCell_self _ h.heap]; rfl
  · rcases h.own.2 with hn | ⟨g, cap, cur, hv, hg, hh, rest⟩
    · exact .inl hn
    · refine .inr ⟨g, cap, cur, hv, hg, ?_, rest⟩
      rw [Below.heap_setCell _ _ _ _ (fun e => h.ne (by rw [hv]; simp [Value.ownBlock]; exact e))]; exact hh

set_option maxHeartbeats 1000000 in
theorem rebase_lt {w : World} {B b : Nat} {base : Int} {xs : List ByteArray} {g cap : Nat} (h : LogAt w B b base xs (.slice (some ⟨g, 0, none⟩) xs.length cap)) (hB : B ≤ w.heap.size) (hb : 0 ≤ base) (hn : base + xs.length ≤ 9223372036854775807)
    (hl : xs.length * 16 ≤ 140737488355328) (m : Nat) (h2 : m ≤ xs.length) (hcm : ¬ cap = m) :
    Calls Try.prog 13 #[.pointer (some ⟨b, 0, none⟩), .int .i64 (base + m)] w (LogPost w B b (base + m) (xs.drop m) (.slice (some ⟨g, 0, none⟩) xs.length cap) (.int .i64 0)) := by
  have c0 := h.c0
  have c1 := h.c1
  have f1 := h.f0 1
  have f0 := h.f0 0
  have L := Lib.hid (within_ok h hb hn (base + m) (by omega) (by omega))
  have hbs := h.lt
  have e1 : IntKind.i64.wrap (base + (m : Int) - base) = (m : Int) := by
    rw [IntWalk.i64_in] <;> omega
  have b0 : (0 : Int) ≤ (m : Int) := by omega
  have b1 : (m : Int) ≤ (xs.length : Int) := by omega
  have hlen : (xs.drop m).length = xs.length - m := by simp
  have C : ∀ t : Nat, Calls Try.prog 21 #[.slice (some ⟨g, m, none⟩) (xs.length - m) (cap - m)] (w.drewN t) (Cloned (w.drewN t) (xs.length - m) ((xs.drop m).map Value.string) (.slice (some ⟨g, m, none⟩) (xs.length - m) (cap - m))) := by
    intro t
    have := clone_some (w.drewN t) ⟨g, m, none⟩ (cap - m) (xs.drop m) (by rw [hlen]; omega) (by
      intro k u hu
      have := h.subs m xs.length (Nat.le_refl _)
      rw [List.take_length] at this
      exact this.out k u hu)
    rw [hlen] at this
    exact this
  have Hlen := Lib.hid hlen
  clear hlen
  have HC := Lib.hid C
  clear C
  go_enter Try.func13, Try.ntmps13
  go_wp2_with (first | (go_at_call 23; refine L.out.mono ?_; rintro e w' ⟨rfl, nq, rfl⟩))
  go_region_with (first | (go_at_call 21; ((refine (HC.out _).mono ?_); rintro e w1 ⟨a', c', rfl, hown, hnil, hbel⟩; have hcc := (hbel.cell (p := ⟨b, 1, none⟩) hbs).trans c1; have hff := (hbel.frozen (p := ⟨b, 1, none⟩) hbs).trans f1; have hcc0 := (hbel.cell (p := ⟨b, 0, none⟩) hbs).trans c0; have hff0 := (hbel.frozen (p := ⟨b, 0, none⟩) hbs).trans f0)))
  all_goals
    go_wp2
    go_ret
    have hst := h.stored (W := w.drewN (nq + 1)) (w1 := w1) hB rfl ⟨rfl, rfl, rfl⟩ (by rw [Hlen.out]; exact hown) hbel
    exact ⟨rfl, _, hst.1.based _, hst.2.setCell ⟨b, 0, none⟩ _ (fun _ => .inl rfl)⟩

set_option maxHeartbeats 1000000 in
theorem rebase_cap {w : World} {B b : Nat} {base : Int} {xs : List ByteArray} {g cap : Nat} (h : LogAt w B b base xs (.slice (some ⟨g, 0, none⟩) xs.length cap)) (hB : B ≤ w.heap.size) (hb : 0 ≤ base) (hn : base + xs.length ≤ 9223372036854775807)
    (hl : xs.length * 16 ≤ 140737488355328) (m : Nat) (h2 : m ≤ xs.length) (hcm : cap = m) :
    Calls Try.prog 13 #[.pointer (some ⟨b, 0, none⟩), .int .i64 (base + m)] w (LogPost w B b (base + m) (xs.drop m) (.slice (some ⟨g, 0, none⟩) xs.length cap) (.int .i64 0)) := by
  have c0 := h.c0
  have c1 := h.c1
  have f1 := h.f0 1
  have f0 := h.f0 0
  have L := Lib.hid (within_ok h hb hn (base + m) (by omega) (by omega))
  have hbs := h.lt
  have e1 : IntKind.i64.wrap (base + (m : Int) - base) = (m : Int) := by
    rw [IntWalk.i64_in] <;> omega
  have b0 : (0 : Int) ≤ (m : Int) := by omega
  have b1 : (m : Int) ≤ (xs.length : Int) := by omega
  have hlen : (xs.drop m).length = xs.length - m := by simp
  have C : ∀ t : Nat, Calls Try.prog 21 #[.slice (some ⟨g, 0, none⟩) (xs.length - m) 0] (w.drewN t) (Cloned (w.drewN t) (xs.length - m) ((xs.drop m).map Value.string) (.slice (some ⟨g, 0, none⟩) (xs.length - m) 0)) := by
    intro t
    have := clone_some (w.drewN t) ⟨g, 0, none⟩ 0 (xs.drop m) (by rw [hlen]; omega) (by
      intro k u hu
      have hx : xs.drop m = [] := by
        have := h.own.2
        rcases this with ⟨e, _⟩ | ⟨_, cap', _, e, _, _, hle, _⟩
        · cases e
        · simp only [Value.slice.injEq] at e
          apply List.drop_eq_nil_of_le; omega
      rw [hx] at hu; simp at hu)
    rw [hlen] at this
    exact this
  have Hlen := Lib.hid hlen
  clear hlen
  have HC := Lib.hid C
  clear C
  subst hcm
  go_enter Try.func13, Try.ntmps13
  go_wp2_with (first | (go_at_call 23; refine L.out.mono ?_; rintro e w' ⟨rfl, nq, rfl⟩))
  go_region_with (first | (go_at_call 21; ((refine (HC.out _).mono ?_); rintro e w1 ⟨a', c', rfl, hown, hnil, hbel⟩; have hcc := (hbel.cell (p := ⟨b, 1, none⟩) hbs).trans c1; have hff := (hbel.frozen (p := ⟨b, 1, none⟩) hbs).trans f1; have hcc0 := (hbel.cell (p := ⟨b, 0, none⟩) hbs).trans c0; have hff0 := (hbel.frozen (p := ⟨b, 0, none⟩) hbs).trans f0)))
  all_goals
    go_wp2
    go_ret
    have hst := h.stored (W := w.drewN (nq + 1)) (w1 := w1) hB rfl ⟨rfl, rfl, rfl⟩ (by rw [Hlen.out]; exact hown) hbel
    exact ⟨rfl, _, hst.1.based _, hst.2.setCell ⟨b, 0, none⟩ _ (fun _ => .inl rfl)⟩

set_option maxHeartbeats 1000000 in
theorem rebase_nil {w : World} {B b : Nat} {base : Int} (h : LogAt w B b base [] (.slice none 0 0)) (hB : B ≤ w.heap.size) (hb : 0 ≤ base) (hn : base ≤ 9223372036854775807) :
    Calls Try.prog 13 #[.pointer (some ⟨b, 0, none⟩), .int .i64 base] w (LogPost w B b base [] (.slice none 0 0) (.int .i64 0)) := by
  have c0 := h.c0
  have c1 := h.c1
  have f1 := h.f0 1
  have f0 := h.f0 0
  have L := Lib.hid (within_ok h hb (by simpa using hn) base (by omega) (by simp))
  have hbs := h.lt
  have HC := Lib.hid (fun t => clone_nil (w.drewN t) 0 0)
  go_enter Try.func13, Try.ntmps13
  go_wp2_with (first | (go_at_call 23; refine L.out.mono ?_; rintro e w' ⟨rfl, nq, rfl⟩))
  go_region_with (first | (go_at_call 21; ((refine (HC.out _).mono ?_); rintro e w1 ⟨rfl, rfl⟩)))
  all_goals
    go_wp2
    go_ret
    have hst := h.stored (W := w.drewN (nq + 1)) (w1 := w.drewN (nq + 1)) (v' := .slice none 0 0) (ys := []) hB rfl ⟨rfl, rfl, rfl⟩ (World.ownsRow_nil _ _ _ _) (Below.refl _ _)
    exact ⟨rfl, _, hst.1.based _, hst.2.setCell ⟨b, 0, none⟩ _ (fun _ => .inl rfl)⟩

set_option maxHeartbeats 400000 in
theorem rebase_bad {w : World} {B b : Nat} {base : Int} {xs : List ByteArray} {v : Value} (h : LogAt w B b base xs v) (hb : 0 ≤ base) (hn : base + xs.length ≤ 9223372036854775807) (n : Int) (h1 : n < base ∨ base + xs.length < n) :
    Calls Try.prog 13 #[.pointer (some ⟨b, 0, none⟩), .int .i64 n] w fun e w' => e = .returned (.int .i64 1) ∧ ∃ n, w' = w.drewN n := by
  have L := Lib.hid (within_bad h hb hn n h1)
  clear h1
  go_enter Try.func13, Try.ntmps13
  go_wp2_with (first | (go_at_call 23; refine L.out.mono ?_; rintro e w' ⟨rfl, nq, rfl⟩))
  go_ret
  exact ⟨rfl, nq, rfl⟩

set_option maxHeartbeats 400000 in
theorem rebase_none (w : World) (n : Int) :
    Calls Try.prog 13 #[.pointer none, .int .i64 n] w fun e w' => e = .returned (.int .i64 6) ∧ ∃ n, w' = w.drewN n := by
  have L := Lib.hid (within_nil w n)
  go_enter Try.func13, Try.ntmps13
  go_wp2_with (first | (go_at_call 23; refine L.out.mono ?_; rintro e w' ⟨rfl, nq, rfl⟩))
  go_ret
  exact ⟨rfl, nq, rfl⟩

theorem LogPost.cast {w : World} {B b : Nat} {base : Int} {xs : List ByteArray} {v r : Value} {e : Ending} {w' : World} {base' : Int} {xs' : List ByteArray} (h : LogPost w B b base xs v r e w') (hb : base = base') (hx : xs = xs') : LogPost w B b base' xs' v r e w' := by
  subst hb; subst hx; exact h

/-- Cut within the log. -/
theorem cut_at {w : World} {B b : Nat} {base : Int} {xs : List ByteArray} {v : Value} (h : LogAt w B b base xs v) (hB : B ≤ w.heap.size) (hb : 0 ≤ base) (hn : base + xs.length ≤ 9223372036854775807)
    (hl : xs.length * 16 ≤ 140737488355328) (n : Int) (h1 : base ≤ n) (h2 : n ≤ base + xs.length) :
    Calls Try.prog 11 #[.pointer (some ⟨b, 0, none⟩), .int .i64 n] w (LogPost w B b base (xs.take (n - base).toNat) v (.int .i64 0)) := by
  obtain ⟨m, rfl⟩ : ∃ m : Nat, n = base + m := ⟨(n - base).toNat, by omega⟩
  have em : (base + (m : Int) - base).toNat = m := by omega
  rw [em]
  rcases h.shape with ⟨rfl, rfl⟩ | ⟨g, cap, rfl, _⟩
  · have : m = 0 := by simp at h2; omega
    subst this
    have := cut_nil h hB hb (by simpa using hn)
    simpa using this
  · exact cut_some h hB hb hn hl m (by omega)

theorem rebase_at {w : World} {B b : Nat} {base : Int} {xs : List ByteArray} {v : Value} (h : LogAt w B b base xs v) (hB : B ≤ w.heap.size) (hb : 0 ≤ base) (hn : base + xs.length ≤ 9223372036854775807)
    (hl : xs.length * 16 ≤ 140737488355328) (n : Int) (h1 : base ≤ n) (h2 : n ≤ base + xs.length) :
    Calls Try.prog 13 #[.pointer (some ⟨b, 0, none⟩), .int .i64 n] w (LogPost w B b n (xs.drop (n - base).toNat) v (.int .i64 0)) := by
  obtain ⟨m, rfl⟩ : ∃ m : Nat, n = base + m := ⟨(n - base).toNat, by omega⟩
  have em : (base + (m : Int) - base).toNat = m := by omega
  rw [em]
  rcases h.shape with ⟨rfl, rfl⟩ | ⟨g, cap, rfl, _⟩
  · have : m = 0 := by simp at h2; omega
    subst this
    have := rebase_nil h hB hb (by simpa using hn)
    simpa using this
  · by_cases hc : cap = m
    · exact rebase_cap h hB hb hn hl m (by omega) hc
    · exact rebase_lt h hB hb hn hl m (by omega) hc

end Go.Proofs.Ytmlffomdlcfcbaa
