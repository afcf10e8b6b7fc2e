import Derived.Test.YtmlffomdlcfcbaaE
import Derived.Deep.DeepCutAuto
import Derived.Deep.CutBlock
namespace Go.Proofs.Ytmlffomdlcfcbaa
open Go.RowKit

/-- Is there a thing of that number, and which. -/
def atB (base : Int) (xs : List ByteArray) (n : Int) : Bool := decide (base < n ∧ n ≤ base + xs.length)
def atS (base : Int) (xs : List ByteArray) (n : Int) : ByteArray := if base < n ∧ n ≤ base + xs.length then xs.getD (n - base - 1).toNat ByteArray.empty else ⟨#[]⟩

def AtPost (w : World) (base : Int) (xs : List ByteArray) (n : Int) (e : Ending) (w' : World) : Prop :=
  e = .returned (.tuple #[.string (atS base xs n), .bool (atB base xs n)]) ∧ ∃ m, w' = w.drewN m

theorem at_any {w : World} {B b : Nat} {base : Int} {xs : List ByteArray} {v : Value} (h : LogAt w B b base xs v) (hb : 0 ≤ base) (hn : base + xs.length ≤ 9223372036854775807) (n : Int) :
    Calls Try.prog 15 #[.pointer (some ⟨b, 0, none⟩), .int .i64 n] w (AtPost w base xs n) := by
  by_cases hc : base < n ∧ n ≤ base + xs.length
  · obtain ⟨j, rfl⟩ : ∃ j : Nat, n = base + j + 1 := ⟨(n - base - 1).toNat, by omega⟩
    refine (at_in h hb hn j (by omega)).mono ?_
    rintro e w' ⟨rfl, hw⟩
    have e1 : (base + (j : Int) + 1 - base - 1).toNat = j := by omega
    exact ⟨by simp only [atS, atB, if_pos hc, decide_eq_true hc, e1], hw⟩
  · refine (at_out h hb hn n (by omega)).mono ?_
    rintro e w' ⟨rfl, hw⟩
    exact ⟨by simp only [atS, atB, if_neg hc, decide_eq_false hc], hw⟩

/-- What stays has the number that it had. -/
structure Stays (base : Int) (xs : List ByteArray) (base' : Int) (xs' : List ByteArray) : Prop where
  lo : base ≤ base'
  last : base' + xs'.length ≤ base + xs.length + 1
  len : xs'.length ≤ xs.length + 1
  same : ∀ n, atB base' xs' n = true → atB base xs n = true → atS base' xs' n = atS base xs n

theorem Stays.refl (base : Int) (xs : List ByteArray) : Stays base xs base xs := ⟨Int.le_refl _, by omega, by omega, fun _ _ _ => rfl⟩
theorem Stays.append (base : Int) (xs : List ByteArray) (x : ByteArray) : Stays base xs base (xs ++ [x]) := by
  refine ⟨by omega, by simp; omega, by simp, fun n h1 h2 => ?_⟩
  simp only [atB, decide_eq_true_eq] at h1 h2
  simp only [atS, if_pos h1, if_pos h2]
  obtain ⟨j, rfl⟩ : ∃ j : Nat, n = base + j + 1 := ⟨(n - base - 1).toNat, by omega⟩
  have e1 : (base + (j : Int) + 1 - base - 1).toNat = j := by omega
  rw [e1]
  simp only [List.getD, List.getElem?_append_left (show j < xs.length by omega)]
theorem Stays.take (base : Int) (xs : List ByteArray) (k : Nat) : Stays base xs base (xs.take k) := by
  have hl : (xs.take k).length ≤ xs.length := by simp; omega
  refine ⟨by omega, by omega, by omega, fun n h1 h2 => ?_⟩
  simp only [atB, decide_eq_true_eq] at h1 h2
  simp only [atS, if_pos h1, if_pos h2]
  obtain ⟨j, rfl⟩ : ∃ j : Nat, n = base + j + 1 := ⟨(n - base - 1).toNat, by omega⟩
  have e1 : (base + (j : Int) + 1 - base - 1).toNat = j := by omega
  have hj : j < k := by have := h1.2; simp at this; omega
  rw [e1]
  simp only [List.getD, List.getElem?_take, if_pos hj]
theorem Stays.drop (base n0 : Int) (xs : List ByteArray) (h1 : base ≤ n0) (h2 : n0 ≤ base + xs.length) : Stays base xs n0 (xs.drop (n0 - base).toNat) := by
  have hl : (xs.drop (n0 - base).toNat).length = xs.length - (n0 - base).toNat := by simp
  refine ⟨h1, by omega, by omega, fun n h3 h4 => ?_⟩
  simp only [atB, decide_eq_true_eq] at h3 h4
  simp only [atS, if_pos h3, if_pos h4]
  simp only [List.getD, List.getElem?_drop]
  congr 2
  omega

/-- What a call that may turn a log leaves, for whoever asks only what stays. -/
def Turned (w : World) (B b : Nat) (base : Int) (xs : List ByteArray) (e : Ending) (w' : World) : Prop :=
  ∃ c base' xs' v', e = .returned (.int .i64 c) ∧ LogAt w' B b base' xs' v' ∧ Below B w w' ∧ Stays base xs base' xs'

theorem LogPost.below {w : World} {B b : Nat} {base base' : Int} {xs xs' : List ByteArray} {v r : Value} {e : Ending} {w' : World} (h : LogAt w B b base xs v) (hB : B ≤ w.heap.size) (hp : LogPost w B b base' xs' v r e w') :
    e = .returned r ∧ ∃ v', LogAt w' B b base' xs' v' ∧ Below B w w' := by
  obtain ⟨he, v', hl, hc⟩ := hp
  exact ⟨he, v', hl, hc.below (by rintro i (rfl | hi); exact h.lo; exact (h.own.lt i hi).1) hB⟩

theorem drewN_below (B : Nat) (w : World) (m : Nat) : Below B w (w.drewN m) := ⟨rfl, rfl, rfl, Nat.le_refl _, fun _ _ => rfl⟩
theorem LogAt.drewN {w : World} {B b : Nat} {base : Int} {xs : List ByteArray} {v : Value} (h : LogAt w B b base xs v) (m : Nat) : LogAt (w.drewN m) B b base xs v :=
  h.ch ((Ch.refl (fun _ => False) _).drewN m) (by simp) (by simp)

theorem cut_any {w : World} {B b : Nat} {base : Int} {xs : List ByteArray} {v : Value} (h : LogAt w B b base xs v) (hB : B ≤ w.heap.size) (hb : 0 ≤ base) (hn : base + xs.length ≤ 9223372036854775807) (hl : xs.length * 16 ≤ 140737488355328) (n : Int) :
    Calls Try.prog 11 #[.pointer (some ⟨b, 0, none⟩), .int .i64 n] w (Turned w B b base xs) := by
  by_cases hc : base ≤ n ∧ n ≤ base + xs.length
  · refine (cut_at h hB hb hn hl n hc.1 hc.2).mono ?_
    intro e w' hp
    obtain ⟨rfl, v', hl, hbel⟩ := LogPost.below h hB hp
    exact ⟨_, _, _, v', rfl, hl, hbel, Stays.take _ _ _⟩
  · refine (cut_bad h hb hn n (by omega)).mono ?_
    rintro e w' ⟨rfl, m, rfl⟩
    exact ⟨_, _, _, v, rfl, h.drewN m, drewN_below _ _ _, Stays.refl _ _⟩

theorem rebase_any {w : World} {B b : Nat} {base : Int} {xs : List ByteArray} {v : Value} (h : LogAt w B b base xs v) (hB : B ≤ w.heap.size) (hb : 0 ≤ base) (hn : base + xs.length ≤ 9223372036854775807) (hl : xs.length * 16 ≤ 140737488355328) (n : Int) :
    Calls Try.prog 13 #[.pointer (some ⟨b, 0, none⟩), .int .i64 n] w (Turned w B b base xs) := by
  by_cases hc : base ≤ n ∧ n ≤ base + xs.length
  · refine (rebase_at h hB hb hn hl n hc.1 hc.2).mono ?_
    intro e w' hp
    obtain ⟨rfl, v', hl, hbel⟩ := LogPost.below h hB hp
    exact ⟨_, _, _, v', rfl, hl, hbel, Stays.drop _ _ _ hc.1 hc.2⟩
  · refine (rebase_bad h hb hn n (by omega)).mono ?_
    rintro e w' ⟨rfl, m, rfl⟩
    exact ⟨_, _, _, v, rfl, h.drewN m, drewN_below _ _ _, Stays.refl _ _⟩

end Go.Proofs.Ytmlffomdlcfcbaa
