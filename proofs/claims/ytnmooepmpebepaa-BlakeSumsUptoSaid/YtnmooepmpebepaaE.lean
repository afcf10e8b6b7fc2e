import Derived.Test.YtnmooepmpebepaaD
namespace Go.Proofs.Ytnmooepmpebepaa
open Go.RowKit

def iv : List Int := [0x6a09e667, 0xbb67ae85, 0x3c6ef372, 0xa54ff53a, 0x510e527f, 0x9b05688c, 0x1f83d9ab, 0x5be0cd19]

set_option maxHeartbeats 1000000 in
theorem first_any (w : World) : Calls Try.prog 24 #[] w (ValEnd w iv) := by
  go_enter Try.func24, Try.ntmps24
  go_wp2
  refine bodyPost_ret (ret_arr rfl w.heap.size 36 (wcells iv).toArray 8 35 (by rfl) (heap_alloc_new w _) Try.underlying36 (size36 rfl)) rfl ?_
  exact ⟨rfl, (Below.refl _ w).alloc (Nat.le_refl _) _⟩

def startS (i : Int) : Int := if 0 ≤ i ∧ i < 8 then st iv i.toNat else 0

theorem idx36 (w : World) (cs : Array Value) (i : Nat) (hi : i < 8) (v : Value) (hv : cs[i]? = some v) (z : Int) (hz : z = (i : Int)) : (Instr.index 36 (.agg cs) (.int .i64 z)).run Try.prog w = .ok v w :=
  run_index_one 36 35 8 Try.underlying36 .u32 Try.underlying35 Try.size35 cs i hi v hv z hz

theorem start_any (w : World) (i : Int) : Calls Try.prog 16 #[.int .i64 i] w fun e w' => e = .returned (.int .u32 (startS i)) ∧ Below w.heap.size w w' := by
  by_cases h0 : i < 0
  · have e0 : decide (i < 0) = true := by simpa using h0
    have es : startS i = 0 := by unfold startS; rw [if_neg (by omega)]
    rw [es]
    go_enter Try.func16, Try.ntmps16
    go_wp2
    go_ret
    exact ⟨rfl, Below.refl _ _⟩
  have e0 : decide (i < 0) = false := by simpa using h0
  by_cases h1 : 8 ≤ i
  · have e1 : decide (8 ≤ i) = true := by simpa using h1
    have es : startS i = 0 := by unfold startS; rw [if_neg (by omega)]
    rw [es]
    go_enter Try.func16, Try.ntmps16
    go_wp2
    go_ret
    exact ⟨rfl, Below.refl _ _⟩
  have e1 : decide (8 ≤ i) = false := by simpa using h1
  obtain ⟨n, rfl⟩ : ∃ n : Nat, i = n := ⟨i.toNat, by omega⟩
  have es : startS n = st iv n := by unfold startS; rw [if_pos (by omega)]; rfl
  have hn : n < 8 := by omega
  have hg : (wcells iv).toArray[n]? = some (.int .u32 (st iv n)) := by
    simp only [wcells, st, List.getD, List.getElem?_toArray, List.getElem?_map]
    rw [List.getElem?_eq_getElem (show n < iv.length from hn)]
    rfl
  have q := fun (w : World) => idx36 w (wcells iv).toArray n hn _ hg n rfl
  have F := Lib.hid (first_any w)
  rw [es]
  clear hg es h0 h1
  go_enter Try.func16, Try.ntmps16
  go_wp2_with fail
  refine F.out.mono ?_
  rintro e w1 ⟨rfl, hb⟩
  go_wp2
  go_ret
  exact ⟨rfl, hb⟩


/-! ### The ten orders -/
def sig : List (List Nat) :=
  [[0, 1, 2, 3, 4, 5, 6, 7, 8, 9, 10, 11, 12, 13, 14, 15],
   [14, 10, 4, 8, 9, 15, 13, 6, 1, 12, 0, 2, 11, 7, 5, 3],
   [11, 8, 12, 0, 5, 2, 15, 13, 10, 14, 3, 6, 7, 1, 9, 4],
   [7, 9, 3, 1, 13, 12, 11, 14, 2, 6, 5, 10, 4, 0, 15, 8],
   [9, 0, 5, 7, 2, 4, 10, 15, 14, 1, 11, 12, 6, 8, 3, 13],
   [2, 12, 6, 10, 0, 11, 8, 3, 4, 13, 7, 5, 15, 14, 1, 9],
   [12, 5, 1, 15, 14, 13, 4, 10, 0, 7, 6, 3, 9, 2, 8, 11],
   [13, 11, 7, 14, 12, 1, 3, 9, 5, 0, 15, 4, 8, 6, 2, 10],
   [6, 15, 14, 9, 11, 3, 0, 8, 12, 2, 13, 7, 1, 4, 10, 5],
   [10, 2, 8, 4, 7, 6, 1, 5, 15, 11, 9, 14, 3, 12, 13, 0]]
def ucells (S : List Nat) : List Value := S.map fun (n : Nat) => Value.int .u8 n
def icells (S : List Nat) : List Value := S.map fun (n : Nat) => Value.int .i64 n

theorem zero62 : (Try.prog.info? 62).map (fun i => (i.zero, i.size)) = some (some (.agg (Array.replicate 160 (.int .i64 0))), 160) := by kernel_rfl
theorem zero72 : (Try.prog.info? 72).map (fun i => (i.zero, i.size)) = some (some (.agg (Array.replicate 160 (.int .u8 0))), 160) := by kernel_rfl

set_option maxRecDepth 100000 in
set_option maxHeartbeats 4000000 in
theorem orders_any (w : World) : Calls Try.prog 30 #[] w fun e w' => e = .returned (.pointer (some ⟨w.heap.size, 0, none⟩)) ∧ w' = w.alloc (.cells (ucells sig.flatten).toArray 72) := by
  have z72 := (zero_of_info zero72).1
  go_enter Try.func30, Try.ntmps30
  go_wp2
  go_ret
  exact ⟨rfl, rfl⟩

end Go.Proofs.Ytnmooepmpebepaa
