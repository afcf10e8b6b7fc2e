import Derived.Test.YtmlffomdlcfcbaaA
namespace Go.Proofs.Ytmlffomdlcfcbaa
open Go.RowKit

theorem Try.infoStr : (Try.prog.info? 9).map (fun i => (i.zero, i.size, i.bytes)) = some (some (.string ⟨#[]⟩), 1, 16) := by kernel_rfl

/-- What a slice reads as: nil, or cells behind an address. -/
def Reads (w : World) (v : Value) (vs : List Value) : Prop :=
  (v = .slice none 0 0 ∧ vs = []) ∨ ∃ a cap, v = .slice (some a) vs.length cap ∧ ∀ j u, vs[j]? = some u → w.cell? (a.add j) = some u

def Cloned (w : World) (n : Nat) (vs : List Value) (v : Value) (e : Ending) (w' : World) : Prop :=
  ∃ a' c', e = .returned (.slice a' n c') ∧ w'.ownsRow w.heap.size 9 1 (.slice a' n c') n vs ∧ (a' = none ↔ v = .slice none 0 0) ∧ Below w.heap.size w w'

theorem ownsRow_slice {w : World} {B : Nat} {e : TypeId} {size : Nat} {v : Value} {n : Nat} {xs : List Value} (h : w.ownsRow B e size v n xs) : ∃ a c, v = .slice a n c ∧ (a = none ↔ v = .slice none 0 0) := by
  rcases h.2 with ⟨hv, hn⟩ | ⟨g, cap, cur, hv, _⟩
  · exact ⟨none, 0, by rw [hv, hn], by simp [hv]⟩
  · exact ⟨_, _, hv, by simp [hv]⟩

set_option maxHeartbeats 400000 in
theorem clone_nil (w : World) (n c : Nat) :
    Calls Try.prog 21 #[.slice none n c] w fun e w' => e = .returned (.slice none 0 0) ∧ w = w' := by
  have q24 : ∀ (w : World) (a : Option Addr) (n c n' c' : Nat), (binOp .eql 22 (.slice a n c) (.slice none n' c')).run Try.prog w = .ok (.bool a.isNone) w := fun w a n c n' c' => Lib.run_eql_slice_nil w _ _ a n c n' c' Try.underlying22
  go_enter Try.func21, Try.ntmps21
  go_wp2
  go_ret
  exact ⟨rfl, rfl⟩

set_option maxHeartbeats 400000 in
theorem clone_some (w : World) (a : Addr) (c : Nat) (xs : List ByteArray) (hn : xs.length * 16 ≤ 140737488355328)
    (hc : Hid (∀ j u, (xs.map Value.string)[j]? = some u → w.cell? (a.add j) = some u)) :
    Calls Try.prog 21 #[.slice (some a) xs.length c] w (Cloned w xs.length (xs.map Value.string) (.slice (some a) xs.length c)) := by
  have q24 : ∀ (w : World) (a : Option Addr) (n c n' c' : Nat), (binOp .eql 22 (.slice a n c) (.slice none n' c')).run Try.prog w = .ok (.bool a.isNone) w := fun w a n c n' c' => Lib.run_eql_slice_nil w _ _ a n c n' c' Try.underlying22
  obtain ⟨i0, hi, hz0, hz1, hz2⟩ := info_parts Try.infoStr
  go_enter Try.func21, Try.ntmps21
  go_wp2_with (at_builtin; refine wpList_append_own _ rfl _ _ 22 rfl w.heap.size 9 i0 (.string ⟨#[]⟩) 1 16 Try.underlying22 hi hz0 hz1 hz2 rfl (by decide) _ _ _ rfl (World.ownsRow_made w #[] 0 (Nat.le_refl _) (Nat.zero_le _) rfl) a xs.length c (xs.map Value.string) rfl ?qc1 ?qc2 ?qc3 ?qc4 ?qc5 ?qc6 ?_)
  case qc1 => simp
  case qc2 =>
    intro j u hj
    exact Lib.cell?_alloc_some _ (hc.out j u hj)
  case qc3 => intro u hu; obtain ⟨x, _, rfl⟩ := List.mem_map.1 hu; rfl
  case qc4 => unfold maxLen; omega
  case qc5 => omega
  case qc6 => simp
  intro v' w1 hown hgrow hnil
  go_wp2
  go_ret
  obtain ⟨a', c', rfl, ha⟩ := ownsRow_slice hown
  refine ⟨a', c', by simp, by simpa using hown, ?_, ?_⟩
  · exact ⟨fun e => (hnil (ha.1 e)).elim, fun e => by cases e⟩
  · exact ((Below.refl _ w).alloc (Nat.le_refl _) _).grown hgrow (by simp) (by intro k hk; simp [Value.ownBlock] at hk; omega)

theorem clone_any (w : World) (v : Value) (xs : List ByteArray) (h : Reads w v (xs.map Value.string)) (hn : xs.length * 16 ≤ 140737488355328) :
    Calls Try.prog 21 #[v] w (Cloned w xs.length (xs.map Value.string) v) := by
  rcases h with ⟨rfl, hx⟩ | ⟨a, cap, rfl, hc⟩
  · have : xs = [] := by simpa using hx
    subst this
    exact (clone_nil w 0 0).mono fun e w' ⟨he, hw⟩ => by subst hw; exact ⟨none, 0, he, World.ownsRow_nil _ _ _ _, by simp, Below.refl _ _⟩
  · simp only [List.length_map]
    exact clone_some w a cap xs hn hc


set_option maxHeartbeats 400000 in
theorem within_nil (w : World) (n : Int) :
    Calls Try.prog 23 #[.pointer none, .int .i64 n] w fun e w' => e = .returned (.int .i64 6) ∧ ∃ n, w' = w.drewN n := by
  go_enter Try.func23, Try.ntmps23
  go_wp2
  go_ret
  exact ⟨rfl, 0, rfl⟩

theorem ret_int {k : IntKind} {a b : Int} (h : a = b) : Ending.returned (.int k a) = .returned (.int k b) := by rw [h]

set_option maxHeartbeats 400000 in
theorem within_ok {w : World} {B b : Nat} {base : Int} {xs : List ByteArray} {v : Value} (h : LogAt w B b base xs v) (hb : 0 ≤ base) (hn : base + xs.length ≤ 9223372036854775807) (n : Int) (h1 : base ≤ n) (h2 : n ≤ base + xs.length) :
    Calls Try.prog 23 #[.pointer (some ⟨b, 0, none⟩), .int .i64 n] w fun e w' => e = .returned (.int .i64 0) ∧ ∃ n, w' = w.drewN n := by
  have c0 := h.c0
  have L := Lib.hid (last_at h hb hn)
  have e1 : decide (n < base) = false := by simpa using h1
  have e2 : decide (base + (xs.length : Int) < n) = false := by simpa using h2
  go_enter Try.func23, Try.ntmps23
  go_wp2_with (go_at_call 19; refine L.out.mono ?_; rintro e w' ⟨rfl, m, rfl⟩)
  go_ret
  exact ⟨rfl, m, rfl⟩

set_option maxHeartbeats 400000 in
theorem within_bad {w : World} {B b : Nat} {base : Int} {xs : List ByteArray} {v : Value} (h : LogAt w B b base xs v) (hb : 0 ≤ base) (hn : base + xs.length ≤ 9223372036854775807) (n : Int) (h1 : n < base ∨ base + xs.length < n) :
    Calls Try.prog 23 #[.pointer (some ⟨b, 0, none⟩), .int .i64 n] w fun e w' => e = .returned (.int .i64 1) ∧ ∃ n, w' = w.drewN n := by
  have c0 := h.c0
  have L := Lib.hid (last_at h hb hn)
  by_cases h1' : n < base
  · have e1 : decide (n < base) = true := by simpa using h1'
    go_enter Try.func23, Try.ntmps23
    go_wp2
    go_ret
    exact ⟨rfl, 0, rfl⟩
  · have e1 : decide (n < base) = false := by simpa using h1'
    have e2 : decide (base + (xs.length : Int) < n) = true := by simp; omega
    clear h1
    go_enter Try.func23, Try.ntmps23
    go_wp2_with (go_at_call 19; refine L.out.mono ?_; rintro e w' ⟨rfl, m, rfl⟩)
    go_ret
    exact ⟨rfl, m, rfl⟩

/-- What a call leaves of a log. -/
def LogPost (w : World) (B b : Nat) (base : Int) (xs : List ByteArray) (v : Value) (r : Value) (e : Ending) (w' : World) : Prop :=
  e = .returned r ∧ ∃ v', LogAt w' B b base xs v' ∧ Ch (fun k => k = b ∨ v.ownBlock = some k) w w'

theorem ownsRow_lower {w : World} {B B' : Nat} {e : TypeId} {size : Nat} {v : Value} {n : Nat} {xs : List Value} (h : w.ownsRow B e size v n xs) (hB : B' ≤ B) : w.ownsRow B' e size v n xs := by
  refine ⟨h.1, ?_⟩
  rcases h.2 with hn | ⟨g, cap, cur, hv, hg, rest⟩
  · exact .inl hn
  · exact .inr ⟨g, cap, cur, hv, Nat.le_trans hB hg, rest⟩

/-- A store of a fresh slice into a log's second cell. -/
theorem LogAt.stored {w W w1 : World} {B b : Nat} {base : Int} {xs ys : List ByteArray} {v v' : Value} (h : LogAt w B b base xs v) (hB : B ≤ w.heap.size) (hW : W.heap = w.heap) (ho : W.os = w.os ∧ W.tape = w.tape ∧ W.output = w.output)
    (hown : w1.ownsRow W.heap.size 9 1 v' ys.length (ys.map Value.string)) (hbel : Below W.heap.size W w1) :
    LogAt (w1.setCell ⟨b, 1, none⟩ v') B b base ys v' ∧ Ch (fun k => k = b ∨ v.ownBlock = some k) w (w1.setCell ⟨b, 1, none⟩ v') := by
  have hlt := h.lt
  have hh : w1.heap[b]? = some (.cells #[.int .i64 base, v] 55 (0, 0)) := by rw [hbel.block b (by rw [hW]; exact hlt), hW]; exact h.heap
  refine ⟨⟨h.lo, ?_, ?_⟩, ?_⟩
  · rw [heap_setCell_self v' hh]; rfl
  · exact ownsRow_lower (ownsRow_setCell_below hown (a := ⟨b, 1, none⟩) (by rw [hW]; exact hlt) v') (by rw [hW]; exact hB)
  · refine Ch.setCell ?_ ⟨b, 1, none⟩ v' (fun _ => .inl rfl)
    exact ⟨hbel.os.trans ho.1, hbel.tape.trans ho.2.1, hbel.output.trans ho.2.2, by have := hbel.size; rw [hW] at this; exact this, fun k hk _ => by rw [hbel.block k (by rw [hW]; exact hk), hW]⟩

theorem LogAt.subs {w : World} {B b : Nat} {base : Int} {xs : List ByteArray} {g cap : Nat} (h : LogAt w B b base xs (.slice (some ⟨g, 0, none⟩) xs.length cap)) (i j : Nat) (hj : j ≤ xs.length) :
    Hid (∀ k u, ((((xs.take j).drop i)).map Value.string)[k]? = some u → w.cell? ((⟨g, i, none⟩ : Addr).add k) = some u) := by
  intro k u hu
  rcases h.shape with ⟨e, _⟩ | ⟨_, _, e, _, _, _, _, hc⟩
  · cases e
  simp only [Value.slice.injEq, Option.some.injEq, Addr.mk.injEq] at e
  obtain ⟨⟨rfl, _⟩, _, _⟩ := e
  have hk : i + k < j := by
    have := (List.getElem?_eq_some_iff.1 hu).1
    simp at this; omega
  have := hc (i + k) (by omega)
  rw [Addr.add_lit, this]
  rw [← hu]
  simp [List.getElem?_take, hk, List.getD, List.getElem?_eq_getElem (show i + k < xs.length by omega)]

set_option maxHeartbeats 1000000 in
theorem cut_some {w : World} {B b : Nat} {base : Int} {xs : List ByteArray} {g cap : Nat} (h : LogAt w B b base xs (.slice (some ⟨g, 0, none⟩) xs.length cap)) (hB : B ≤ w.heap.size) (hb : 0 ≤ base) (hn : base + xs.length ≤ 9223372036854775807)
    (hl : xs.length * 16 ≤ 140737488355328) (m : Nat) (h2 : m ≤ xs.length) :
    Calls Try.prog 11 #[.pointer (some ⟨b, 0, none⟩), .int .i64 (base + m)] w (LogPost w B b base (xs.take m) (.slice (some ⟨g, 0, none⟩) xs.length cap) (.int .i64 0)) := by
  have c0 := h.c0
  have c1 := h.c1
  have f1 := h.f0 1
  have L := Lib.hid (within_ok h hb hn (base + m) (by omega) (by omega))
  have hbs := h.lt
  have e1 : IntKind.i64.wrap (base + (m : Int) - base) = (m : Int) := by
    rw [IntWalk.i64_in] <;> omega
  have b0 : (0 : Int) ≤ (m : Int) := by omega
  have hcap : xs.length ≤ cap := by
    rcases h.shape with ⟨e, _⟩ | ⟨_, _, e, hc, _⟩
    · cases e
    · simp only [Value.slice.injEq] at e; omega
  have b1 : (m : Int) ≤ (cap : Int) := by omega
  have hsub := h.subs 0 m h2
  have hlen : (xs.take m).length = m := by simp; omega
  have C : ∀ t : Nat, Calls Try.prog 21 #[.slice (some ⟨g, 0, none⟩) m cap] (w.drewN t) (Cloned (w.drewN t) m ((xs.take m).map Value.string) (.slice (some ⟨g, 0, none⟩) m cap)) := by
    intro t
    have := clone_some (w.drewN t) ⟨g, 0, none⟩ cap (xs.take m) (by rw [hlen]; omega) (by
      intro k u hu
      exact hsub k u (by simpa using hu))
    rw [hlen] at this
    exact this
  have Hlen := Lib.hid hlen
  clear hsub hlen
  have HC := Lib.hid C
  clear C
  go_enter Try.func11, Try.ntmps11
  go_wp2_with (first | (go_at_call 23; refine L.out.mono ?_; rintro e w' ⟨rfl, nq, rfl⟩))
  go_region_with (first | (go_at_call 21; ((refine (HC.out _).mono ?_); rintro e w1 ⟨a', c', rfl, hown, hnil, hbel⟩; have hcc := (hbel.cell (p := ⟨b, 1, none⟩) hbs).trans c1; have hff := (hbel.frozen (p := ⟨b, 1, none⟩) hbs).trans f1)))
  all_goals
    go_wp2
    go_ret
    exact ⟨rfl, _, h.stored (W := w.drewN (nq + 1)) (w1 := w1) hB rfl ⟨rfl, rfl, rfl⟩ (by rw [Hlen.out]; exact hown) hbel⟩


set_option maxHeartbeats 1000000 in
theorem cut_nil {w : World} {B b : Nat} {base : Int} (h : LogAt w B b base [] (.slice none 0 0)) (hB : B ≤ w.heap.size) (hb : 0 ≤ base) (hn : base ≤ 9223372036854775807) :
    Calls Try.prog 11 #[.pointer (some ⟨b, 0, none⟩), .int .i64 base] w (LogPost w B b base [] (.slice none 0 0) (.int .i64 0)) := by
  have c0 := h.c0
  have c1 := h.c1
  have f1 := h.f0 1
  have L := Lib.hid (within_ok h hb (by simpa using hn) base (by omega) (by simp))
  have hbs := h.lt
  have HC := Lib.hid (fun t => clone_nil (w.drewN t) 0 0)
  go_enter Try.func11, Try.ntmps11
  go_wp2_with (first | (go_at_call 23; refine L.out.mono ?_; rintro e w' ⟨rfl, nq, rfl⟩))
  go_region_with (first | (go_at_call 21; ((refine (HC.out _).mono ?_); rintro e w1 ⟨rfl, rfl⟩)))
  all_goals
    go_wp2
    go_ret
    exact ⟨rfl, _, h.stored (W := w.drewN (nq + 1)) (w1 := w.drewN (nq + 1)) hB rfl ⟨rfl, rfl, rfl⟩ (World.ownsRow_nil _ _ _ _) (Below.refl _ _)⟩

set_option maxHeartbeats 400000 in
theorem cut_bad {w : World} {B b : Nat} {base : Int} {xs : List ByteArray} {v : Value} (h : LogAt w B b base xs v) (hb : 0 ≤ base) (hn : base + xs.length ≤ 9223372036854775807) (n : Int) (h1 : n < base ∨ base + xs.length < n) :
    Calls Try.prog 11 #[.pointer (some ⟨b, 0, none⟩), .int .i64 n] w fun e w' => e = .returned (.int .i64 1) ∧ ∃ n, w' = w.drewN n := by
  have L := Lib.hid (within_bad h hb hn n h1)
  clear h1
  go_enter Try.func11, Try.ntmps11
  go_wp2_with (first | (go_at_call 23; refine L.out.mono ?_; rintro e w' ⟨rfl, nq, rfl⟩))
  go_ret
  exact ⟨rfl, nq, rfl⟩

set_option maxHeartbeats 400000 in
theorem cut_none (w : World) (n : Int) :
    Calls Try.prog 11 #[.pointer none, .int .i64 n] w fun e w' => e = .returned (.int .i64 6) ∧ ∃ n, w' = w.drewN n := by
  have L := Lib.hid (within_nil w n)
  go_enter Try.func11, Try.ntmps11
  go_wp2_with (first | (go_at_call 23; refine L.out.mono ?_; rintro e w' ⟨rfl, nq, rfl⟩))
  go_ret
  exact ⟨rfl, nq, rfl⟩

end Go.Proofs.Ytmlffomdlcfcbaa
