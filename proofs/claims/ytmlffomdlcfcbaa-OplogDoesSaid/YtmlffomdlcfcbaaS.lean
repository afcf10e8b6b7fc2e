import Derived.Test.YtmlffomdlcfcbaaR
import Derived.Test.YtmlffomdlcfcbaaJ
namespace Go.Proofs.Ytmlffomdlcfcbaa
open Go.RowKit

/-- Two rows of cells of two types lie in two blocks. -/
theorem own_own {w : World} {B B' : Nat} {e e' : TypeId} {s s' : Nat} {v v' : Value} {n n' : Nat} {xs xs' : List Value} (h : w.ownsRow B e s v n xs) (h' : w.ownsRow B' e' s' v' n' xs') (hne : e ≠ e') (k : Nat) (hk : v.ownBlock = some k) : v'.ownBlock ≠ some k := by
  rcases h.2 with ⟨rfl, _⟩ | ⟨g, cap, cur, rfl, _, hh, _⟩
  · cases hk
  · simp [Value.ownBlock] at hk
    subst hk
    exact own_elem h' hh hne

/-- The log and the document's log, side by side. -/
structure Two (w0 : World) (B b b2 : Nat) (base base2 : Int) (xs xs2 : List ByteArray) (w : World) : Prop where
  log : ∃ v, LogAt w B b base xs v
  ref : ∃ v, RefAt w B b2 base2 xs2 v
  low : B ≤ w0.heap.size
  below : Below B w0 w

/-- A box with one call in it stays as it is. -/
def Boxed (w w' : World) : Prop := ∀ (o : Nat) (cs : Array Value) (f : Nat × Nat), w.heap[o]? = some (.cells cs 33 f) → w'.heap[o]? = some (.cells cs 33 f)
theorem Boxed.refl (w : World) : Boxed w w := fun _ _ _ h => h
theorem Boxed.trans {a b c : World} (h : Boxed a b) (k : Boxed b c) : Boxed a c := fun o cs f ho => k o cs f (h o cs f ho)
theorem Boxed.drewN (w : World) (m : Nat) : Boxed w (w.drewN m) := fun _ _ _ h => h
theorem Boxed.below {w w' : World} (h : Below w.heap.size w w') : Boxed w w' := fun o _ _ ho => (h.block o (Array.getElem?_eq_some_iff.1 ho).1).trans ho
theorem Boxed.of {w w' : World} {B b s n : Nat} {e ty : TypeId} {v : Value} {xs : List Value} {c : Array Value} {f : Nat × Nat} (hown : w.ownsRow B e s v n xs) (hb : w.heap[b]? = some (.cells c ty f)) (h1 : (33 : TypeId) ≠ e) (h2 : (33 : TypeId) ≠ ty) (hc : Ch (fun k => k = b ∨ v.ownBlock = some k) w w') : Boxed w w' := by
  intro o cs g ho
  rw [hc.block o (Array.getElem?_eq_some_iff.1 ho).1]
  · exact ho
  · rintro (rfl | hk)
    · rw [hb] at ho
      simp at ho
      exact h2 ho.2.1.symm
    · exact own_elem hown ho h1 hk

section
variable {w0 w w' : World} {B b b2 : Nat} {base base2 : Int} {xs xs2 : List ByteArray}

theorem Two.drewN (h : Two w0 B b b2 base base2 xs xs2 w) (m : Nat) : Two w0 B b b2 base base2 xs xs2 (w.drewN m) := by
  obtain ⟨⟨v, h1⟩, ⟨v2, h2⟩, hl, hb⟩ := h
  exact ⟨⟨v, h1.drewN m⟩, ⟨v2, h2.drewN m⟩, hl, hb.trans (drewN_below _ _ _)⟩

theorem Two.size (h : Two w0 B b b2 base base2 xs xs2 w) : B ≤ w.heap.size := Nat.le_trans h.low h.below.size

theorem Two.above (h : Two w0 B b b2 base base2 xs xs2 w) (hb : Below w.heap.size w w') : Two w0 B b b2 base base2 xs xs2 w' := by
  have hsz := h.size
  obtain ⟨⟨v, h1⟩, ⟨v2, h2⟩, hl, hb0⟩ := h
  exact ⟨⟨v, h1.ch (F := fun _ => False) (Ch.of_below_size hb) (by simp) (by simp)⟩, ⟨v2, h2.ch (F := fun _ => False) (Ch.of_below_size hb) (by simp) (by simp)⟩, hl, hb0.trans (hb.mono hsz)⟩

theorem Two.ofLog {base' : Int} {xs' : List ByteArray} {v v' : Value} (h : Two w0 B b b2 base base2 xs xs2 w) (hv : LogAt w B b base xs v) (hv' : LogAt w' B b base' xs' v') (hc : Ch (fun k => k = b ∨ v.ownBlock = some k) w w') : Two w0 B b b2 base' base2 xs' xs2 w' ∧ Boxed w w' := by
  have hsz := h.size
  obtain ⟨-, ⟨v2, h2⟩, hl, hb0⟩ := h
  refine ⟨⟨⟨v', hv'⟩, ⟨v2, h2.ch hc ?_ ?_⟩, hl, hb0.trans (hc.below ?_ hsz)⟩, Boxed.of hv.own hv.heap (by decide) (by decide) hc⟩
  · rintro (rfl | hk)
    · have e1 := hv.heap
      have e2 := h2.heap
      rw [e1] at e2
      simp at e2
    · exact own_elem hv.own h2.heap (by decide) hk
  · rintro k hk (rfl | hk')
    · exact own_elem h2.own hv.heap (by decide) hk
    · exact own_own hv.own h2.own (by decide) k hk' hk
  · rintro i (rfl | hi)
    · exact hv.lo
    · exact (hv.own.lt i hi).1

theorem Two.ofRef {base' : Int} {xs' : List ByteArray} {v v' : Value} (h : Two w0 B b b2 base base2 xs xs2 w) (hv : RefAt w B b2 base2 xs2 v) (hv' : RefAt w' B b2 base' xs' v') (hc : Ch (fun k => k = b2 ∨ v.ownBlock = some k) w w') : Two w0 B b b2 base base' xs xs' w' ∧ Boxed w w' := by
  have hsz := h.size
  obtain ⟨⟨v1, h1⟩, -, hl, hb0⟩ := h
  refine ⟨⟨⟨v1, h1.ch hc ?_ ?_⟩, ⟨v', hv'⟩, hl, hb0.trans (hc.below ?_ hsz)⟩, Boxed.of hv.own hv.heap (by decide) (by decide) hc⟩
  · rintro (rfl | hk)
    · have e1 := hv.heap
      have e2 := h1.heap
      rw [e1] at e2
      simp at e2
    · exact own_elem hv.own h1.heap (by decide) hk
  · rintro k hk (rfl | hk')
    · exact own_elem h1.own hv.heap (by decide) hk
    · exact own_own hv.own h1.own (by decide) k hk' hk
  · rintro i (rfl | hi)
    · exact hv.lo
    · exact (hv.own.lt i hi).1
end

/-! ### What the calls come to -/
def appN (base : Int) (xs : List ByteArray) : Int := if xs.length < 4096 then base + xs.length + 1 else 0
def appE (xs : List ByteArray) : Int := if xs.length < 4096 then 0 else 2
def appX (xs : List ByteArray) (x : ByteArray) : List ByteArray := if xs.length < 4096 then xs ++ [x] else xs
def inE (base : Int) (xs : List ByteArray) (n : Int) : Int := if base ≤ n ∧ n ≤ base + xs.length then 0 else 1
def cutX (base : Int) (xs : List ByteArray) (n : Int) : List ByteArray := if base ≤ n ∧ n ≤ base + xs.length then xs.take (n - base).toNat else xs
def rebB (base : Int) (xs : List ByteArray) (n : Int) : Int := if base ≤ n ∧ n ≤ base + xs.length then n else base
def rebX (base : Int) (xs : List ByteArray) (n : Int) : List ByteArray := if base ≤ n ∧ n ≤ base + xs.length then xs.drop (n - base).toNat else xs

section
variable {w0 w : World} {B b b2 : Nat} {base base2 : Int} {xs xs2 : List ByteArray}

theorem two_append (h : Two w0 B b b2 base base2 xs xs2 w) (hb : 0 ≤ base) (hn : base + xs.length + 1 ≤ 4611686018427387904) (x : ByteArray) :
    Calls Try.prog 9 #[.pointer (some ⟨b, 0, none⟩), .string x] w fun e w' => e = .returned (.tuple #[.int .i64 (appN base xs), .int .i64 (appE xs)]) ∧ Two w0 B b b2 base base2 (appX xs x) xs2 w' ∧ Boxed w w' := by
  obtain ⟨v, hv⟩ := h.log
  by_cases hl : xs.length < 4096
  · refine (append_ok hv h.size hb (by omega) hl x).mono ?_
    rintro e w' ⟨rfl, v', hv', hc⟩
    have e1 : base + ((xs.length + 1 : Nat) : Int) = base + xs.length + 1 := by omega
    simp only [appN, appE, appX, if_pos hl, e1]
    exact ⟨trivial, h.ofLog hv hv' hc⟩
  · refine (append_full hv (by omega) x).mono ?_
    rintro e w' ⟨rfl, rfl⟩
    simp only [appN, appE, appX, if_neg hl]
    exact ⟨trivial, h, Boxed.refl _⟩

theorem two_rappend (h : Two w0 B b b2 base base2 xs xs2 w) (hb : 0 ≤ base2) (hn : base2 + xs2.length + 1 ≤ 4611686018427387904) (x : ByteArray) :
    Calls Try.prog 10 #[.pointer (some ⟨b2, 0, none⟩), .string x] w fun e w' => e = .returned (.tuple #[.int .i64 (appN base2 xs2), .int .i64 (appE xs2)]) ∧ Two w0 B b b2 base base2 xs (appX xs2 x) w' ∧ Boxed w w' := by
  obtain ⟨v, hv⟩ := h.ref
  by_cases hl : xs2.length < 4096
  · refine (rappend_at hv h.size hb (by omega) hl x).mono ?_
    rintro e w' ⟨rfl, v', hv', hc⟩
    simp only [appN, appE, appX, if_pos hl]
    exact ⟨trivial, h.ofRef hv hv' hc⟩
  · refine (rappend_full hv (by omega) x).mono ?_
    rintro e w' ⟨rfl, rfl⟩
    simp only [appN, appE, appX, if_neg hl]
    exact ⟨trivial, h, Boxed.refl _⟩

theorem two_cut (h : Two w0 B b b2 base base2 xs xs2 w) (hb : 0 ≤ base) (hn : base + xs.length ≤ 4611686018427387904) (hl : xs.length ≤ 4096) (n : Int) :
    Calls Try.prog 11 #[.pointer (some ⟨b, 0, none⟩), .int .i64 n] w fun e w' => e = .returned (.int .i64 (inE base xs n)) ∧ Two w0 B b b2 base base2 (cutX base xs n) xs2 w' ∧ Boxed w w' := by
  obtain ⟨v, hv⟩ := h.log
  by_cases hc : base ≤ n ∧ n ≤ base + xs.length
  · refine (cut_at hv h.size hb (by omega) (by omega) n hc.1 hc.2).mono ?_
    rintro e w' ⟨rfl, v', hv', hc'⟩
    simp only [inE, cutX, if_pos hc]
    exact ⟨trivial, h.ofLog hv hv' hc'⟩
  · refine (cut_bad hv hb (by omega) n (by omega)).mono ?_
    rintro e w' ⟨rfl, m, rfl⟩
    simp only [inE, cutX, if_neg hc]
    exact ⟨trivial, h.drewN m, Boxed.drewN _ _⟩

theorem two_rcut (h : Two w0 B b b2 base base2 xs xs2 w) (hb : 0 ≤ base2) (hn : base2 + xs2.length ≤ 4611686018427387904) (hl : xs2.length ≤ 4096) (n : Int) :
    Calls Try.prog 12 #[.pointer (some ⟨b2, 0, none⟩), .int .i64 n] w fun e w' => e = .returned (.int .i64 (inE base2 xs2 n)) ∧ Two w0 B b b2 base base2 xs (cutX base2 xs2 n) w' ∧ Boxed w w' := by
  obtain ⟨v, hv⟩ := h.ref
  by_cases hc : base2 ≤ n ∧ n ≤ base2 + xs2.length
  · refine (rcut_at hv h.size hb hn hl n hc.1 hc.2).mono ?_
    rintro e w' ⟨rfl, v', hv', hc'⟩
    simp only [inE, cutX, if_pos hc]
    exact ⟨trivial, h.ofRef hv hv' hc'⟩
  · refine (rcut_bad hv hb (by omega) n (by omega)).mono ?_
    rintro e w' ⟨rfl, m, rfl⟩
    simp only [inE, cutX, if_neg hc]
    exact ⟨trivial, h.drewN m, Boxed.drewN _ _⟩

theorem two_rebase (h : Two w0 B b b2 base base2 xs xs2 w) (hb : 0 ≤ base) (hn : base + xs.length ≤ 4611686018427387904) (hl : xs.length ≤ 4096) (n : Int) :
    Calls Try.prog 13 #[.pointer (some ⟨b, 0, none⟩), .int .i64 n] w fun e w' => e = .returned (.int .i64 (inE base xs n)) ∧ Two w0 B b b2 (rebB base xs n) base2 (rebX base xs n) xs2 w' ∧ Boxed w w' := by
  obtain ⟨v, hv⟩ := h.log
  by_cases hc : base ≤ n ∧ n ≤ base + xs.length
  · refine (rebase_at hv h.size hb (by omega) (by omega) n hc.1 hc.2).mono ?_
    rintro e w' ⟨rfl, v', hv', hc'⟩
    simp only [inE, rebB, rebX, if_pos hc]
    exact ⟨trivial, h.ofLog hv hv' hc'⟩
  · refine (rebase_bad hv hb (by omega) n (by omega)).mono ?_
    rintro e w' ⟨rfl, m, rfl⟩
    simp only [inE, rebB, rebX, if_neg hc]
    exact ⟨trivial, h.drewN m, Boxed.drewN _ _⟩

theorem two_rrebase (h : Two w0 B b b2 base base2 xs xs2 w) (hb : 0 ≤ base2) (hn : base2 + xs2.length ≤ 4611686018427387904) (hl : xs2.length ≤ 4096) (n : Int) :
    Calls Try.prog 14 #[.pointer (some ⟨b2, 0, none⟩), .int .i64 n] w fun e w' => e = .returned (.int .i64 (inE base2 xs2 n)) ∧ Two w0 B b b2 base (rebB base2 xs2 n) xs (rebX base2 xs2 n) w' ∧ Boxed w w' := by
  obtain ⟨v, hv⟩ := h.ref
  by_cases hc : base2 ≤ n ∧ n ≤ base2 + xs2.length
  · refine (rrebase_at hv h.size hb hn hl n hc.1 hc.2).mono ?_
    rintro e w' ⟨rfl, v', hv', hc'⟩
    simp only [inE, rebB, rebX, if_pos hc]
    exact ⟨trivial, h.ofRef hv hv' hc'⟩
  · refine (rrebase_bad hv hb (by omega) n (by omega)).mono ?_
    rintro e w' ⟨rfl, m, rfl⟩
    simp only [inE, rebB, rebX, if_neg hc]
    exact ⟨trivial, h.drewN m, Boxed.drewN _ _⟩

theorem two_looks (h : Two w0 B b b2 base base xs xs w) (hb : 0 ≤ base) (hn : base + xs.length < 4611686018427387904) (hl : xs.length ≤ 4096) (m most : Int) (hm : m ≤ 9223372036854775807) :
    Calls Try.prog 16 #[.pointer (some ⟨b, 0, none⟩), .pointer (some ⟨b2, 0, none⟩), .int .i64 m, .int .i64 most] w fun e w' => e = .returned (.bool true) ∧ Two w0 B b b2 base base xs xs w' ∧ Boxed w w' := by
  obtain ⟨v, hv⟩ := h.log
  obtain ⟨v2, hv2⟩ := h.ref
  refine (callsIn_wide.1 (looks_in w B b b2 base m most xs v v2 hv hv2 hb hn hl ((if m < base then base else m) - base).toNat (by split <;> omega) hm)).mono ?_
  rintro e w' ⟨rfl, hb'⟩
  exact ⟨rfl, h.above hb', Boxed.below hb'⟩

theorem two_at (h : Two w0 B b b2 base base2 xs xs2 w) (hb : 0 ≤ base) (hn : base + xs.length ≤ 4611686018427387904) (n : Int) :
    Calls Try.prog 15 #[.pointer (some ⟨b, 0, none⟩), .int .i64 n] w (AtPost w base xs n) := by
  obtain ⟨v, hv⟩ := h.log
  exact at_any hv hb (by omega) n
end

theorem appX_length (xs : List ByteArray) (x : ByteArray) (h : xs.length ≤ 4096) : (appX xs x).length ≤ 4096 ∧ (appX xs x).length ≤ xs.length + 1 := by
  unfold appX; split <;> simp <;> omega
theorem cutX_length (base : Int) (xs : List ByteArray) (n : Int) : (cutX base xs n).length ≤ xs.length := by
  unfold cutX; split <;> simp <;> omega
theorem reb_length (base : Int) (xs : List ByteArray) (n : Int) (hb : 0 ≤ base) : (rebX base xs n).length ≤ xs.length ∧ 0 ≤ rebB base xs n ∧ rebB base xs n + (rebX base xs n).length ≤ base + xs.length := by
  unfold rebX rebB
  split
  · rename_i h; have := h.1; have := h.2; simp only [List.length_drop]; omega
  · omega

end Go.Proofs.Ytmlffomdlcfcbaa
