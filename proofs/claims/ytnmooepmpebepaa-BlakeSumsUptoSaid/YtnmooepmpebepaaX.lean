import Derived.Test.YtnmooepmpebepaaQ
import Derived.Deep.RegionHeld3
import Derived.Deep.MidRow
namespace Go.Proofs.Ytnmooepmpebepaa
open Go.RowKit

/-! ### The document's Start -/
def lo32 (x : Int) : Int := bits BinOp.and IntKind.u64 x 4294967295
def mulT (x y : Int) : Int := w64 (w64 (x / 4294967296 * lo32 y) + w64 (lo32 x * lo32 y) / 4294967296)
def mulHi (x y : Int) : Int := w64 (w64 (w64 (x / 4294967296 * (y / 4294967296)) + mulT x y / 4294967296) + w64 (lo32 (mulT x y) + w64 (lo32 x * (y / 4294967296))) / 4294967296)
def mulLo (x y : Int) : Int := w64 (x * y)

set_option maxHeartbeats 2000000 in
theorem mul64_any (w : World) (x y : Int) : Calls Try.prog 29 #[.int .u64 x, .int .u64 y] w fun e w' => e = .returned (.tuple #[.int .u64 (mulHi x y), .int .u64 (mulLo x y)]) ∧ w' = w := by
  go_enter Try.func29, Try.ntmps29
  go_wp2
  go_ret2
  exact ⟨rfl, rfl⟩

def primes : List Int := [2, 3, 5, 7, 11, 13, 17, 19]
/-- One round of the root's search. -/
def rootStep (p x y : Int) : Int := if mulHi y y < p then y else if mulHi y y = p then (if mulLo y y = 0 then y else x) else x
def rootS (p : Int) : Nat → Int
  | 0 => 0
  | n + 1 => rootStep p (rootS p n) (bits .or .u64 (rootS p n) (w64 (2 ^ (34 - n))))
theorem root_iv : ∀ i, i < 8 → IntKind.u32.wrap (rootS (st primes i) 35) = st iv i := by
  have : ((List.range 8).all fun i => IntKind.u32.wrap (rootS (st primes i) 35) == st iv i) = true := by kernel_rfl
  intro i hi
  have h := List.all_eq_true.1 this i (by simpa using hi)
  simpa using h

set_option maxRecDepth 100000 in
set_option maxHeartbeats 4000000 in
theorem rstart_any (w : World) (i : Int) : Calls Try.prog 23 #[.int .i64 i] w fun e w' => e = .returned (.int .u32 (startS i)) ∧ Below w.heap.size w w' := by
  by_cases h0 : i < 0
  · have e0 : decide (i < 0) = true := by simpa using h0
    have es : startS i = 0 := by unfold startS; rw [if_neg (by omega)]
    rw [es]
    go_enter Try.func23, Try.ntmps23
    go_wp2
    go_ret
    exact ⟨rfl, Below.refl _ _⟩
  have e0 : decide (i < 0) = false := by simpa using h0
  by_cases h1 : 7 < i
  · have e1 : decide (7 < i) = true := by simpa using h1
    have es : startS i = 0 := by unfold startS; rw [if_neg (by omega)]
    rw [es]
    go_enter Try.func23, Try.ntmps23
    go_wp2
    go_ret
    exact ⟨rfl, Below.refl _ _⟩
  have e1 : decide (7 < i) = false := by simpa using h1
  obtain ⟨n, rfl⟩ : ∃ n : Nat, i = n := ⟨i.toNat, by omega⟩
  have hn : n < 8 := by omega
  have es : startS n = IntKind.u32.wrap (rootS (st primes n) 35) := by rw [root_iv n hn]; unfold startS; rw [if_pos (by omega)]; rfl
  have hg : (#[.int .u64 2, .int .u64 3, .int .u64 5, .int .u64 7, .int .u64 11, .int .u64 13, .int .u64 17, .int .u64 19] : Array Value)[n]? = some (.int .u64 (st primes n)) := by
    have : ∀ n, n < 8 → (#[.int .u64 2, .int .u64 3, .int .u64 5, .int .u64 7, .int .u64 11, .int .u64 13, .int .u64 17, .int .u64 19] : Array Value)[n]? = some (.int .u64 (st primes n)) := by
      intro n hn
      match n, hn with
      | 0, _ => rfl
      | 1, _ => rfl
      | 2, _ => rfl
      | 3, _ => rfl
      | 4, _ => rfl
      | 5, _ => rfl
      | 6, _ => rfl
      | 7, _ => rfl
    exact this n hn
  have cp : (w.alloc (.cells #[.int .u64 2, .int .u64 3, .int .u64 5, .int .u64 7, .int .u64 11, .int .u64 13, .int .u64 17, .int .u64 19] 40)).cell? ⟨w.heap.size, n, none⟩ = some (.int .u64 (st primes n)) :=
    (cell_of_row _ _ _ _ _ _ (heap_alloc_new w _)).trans hg
  have hb : Below w.heap.size w (w.alloc (.cells #[.int .u64 2, .int .u64 3, .int .u64 5, .int .u64 7, .int .u64 11, .int .u64 13, .int .u64 17, .int .u64 19] 40)) := (Below.refl _ w).alloc (Nat.le_refl _) _
  obtain ⟨p, hp⟩ : ∃ p, st primes n = p := ⟨_, rfl⟩
  rw [es]
  rw [hp] at cp ⊢
  have p0 : (0 : Int) ≤ (n : Int) := by omega
  have p1 : (n : Int) < 8 := by omega
  have HB := Lib.hid hb
  clear hg es h0 h1 hb
  go_enter Try.func23, Try.ntmps23
  go_wp2_with fail
  clear cp
  go_loopw [4, 5] (fun x q wr => ∃ k : Nat, k ≤ 35 ∧ q = .int .i64 (34 - (k : Int)) ∧ x = .int .u64 (rootS p k) ∧ Below w.heap.size w wr) (fun _ q _ => (1 + intOf q).toNat)
  case atStart => exact ⟨0, by omega, rfl, rfl, HB.out⟩
  case round =>
    obtain ⟨k, hk, rfl, rfl, hbel⟩ := hrel
    have HW := Lib.hid hbel
    clear hbel
    by_cases hk35 : k < 35
    · have f1 : decide ((0 : Int) ≤ 34 - (k : Int)) = true := by simp; omega
      obtain ⟨j, hj⟩ : ∃ j : Nat, 34 - k = j := ⟨_, rfl⟩
      have hj2 : 34 - (k : Int) = (j : Int) := by omega
      have hjl : j < 64 := by omega
      rw [hj2] at f1
      rw [hj2]
      have hS : rootS p (k + 1) = rootStep p (rootS p k) (bits .or .u64 (rootS p k) (w64 (2 ^ j))) := by rw [← hj]; rfl
      obtain ⟨x, hx⟩ : ∃ x, rootS p k = x := ⟨_, rfl⟩
      rw [hx] at hS
      rw [hx]
      have q0 : (0 : Int) ≤ (j : Int) := by omega
      have q1 : (j : Int) < 64 := by omega
      go_wp2_with fail
      have hS2 : rootS p (k + 1) = rootStep p x (bits BinOp.or IntKind.u64 x (IntKind.u64.wrap (2 ^ j))) := hS
      clear hS
      generalize bits BinOp.or IntKind.u64 x (IntKind.u64.wrap (2 ^ j)) = y at hS2 ⊢
      refine (mul64_any _ _ _).mono ?_
      have hS : rootS p (k + 1) = if mulHi y y < p then y else if mulHi y y = p then (if mulLo y y = 0 then y else x) else x := hS2
      clear hS2
      generalize mulHi y y = hh at hS ⊢
      generalize mulLo y y = ll at hS ⊢
      rintro e w2 ⟨rfl, rfl⟩
      by_cases c1 : hh < p
      · have g1 : decide (hh < p) = true := by simpa using c1
        rw [if_pos c1] at hS
        clear c1
        go_wp2_with fail
        go_roundw
        case rel => exact ⟨k + 1, by omega, by go_num, by rw [hS], HW.out⟩
        case measure => simp [intOf]; omega
      have g1 : decide (hh < p) = false := by simpa using c1
      rw [if_neg c1] at hS
      clear c1
      by_cases c2 : hh = p
      · rw [if_pos c2] at hS
        subst c2
        by_cases c3 : ll = 0
        · rw [if_pos c3] at hS
          subst c3
          go_wp2_with fail
          go_roundw
          case rel => exact ⟨k + 1, by omega, by go_num, by rw [hS], HW.out⟩
          case measure => simp [intOf]; omega
        · have g3 : decide (ll = 0) = false := by simpa using c3
          have g4 : (ll == 0) = false := by simpa using c3
          rw [if_neg c3] at hS
          go_wp2_with fail
          go_roundw
          case rel => exact ⟨k + 1, by omega, by go_num, by rw [hS], HW.out⟩
          case measure => simp [intOf]; omega
      · have g2 : decide (hh = p) = false := by simpa using c2
        have g4 : (hh == p) = false := by simpa using c2
        rw [if_neg c2] at hS
        go_wp2_with fail
        go_roundw
        case rel => exact ⟨k + 1, by omega, by go_num, by rw [hS], HW.out⟩
        case measure => simp [intOf]; omega
    · have f1 : decide ((0 : Int) ≤ 34 - (k : Int)) = false := by simp; omega
      have hk' : rootS p k = rootS p 35 := by rw [show k = 35 by omega]
      rw [hk']
      go_wp2
      go_ret
      exact ⟨rfl, HW.out⟩
end Go.Proofs.Ytnmooepmpebepaa
