import Derived.Test.YtnmooepmpebepaaE
namespace Go.Proofs.Ytnmooepmpebepaa
open Go.RowKit

theorem icells_one (S : List Nat) : (icells S).toArray.all (·.oneCell') = true := by
  rw [Array.all_eq_true_iff_forall_mem]
  intro v hv
  simp only [icells, List.mem_toArray, List.mem_map] at hv
  obtain ⟨x, _, rfl⟩ := hv
  rfl
theorem Try.size62 : (Try.prog.info? 62).map (·.size) = some (icells sig.flatten).toArray.size := by kernel_rfl

set_option maxRecDepth 100000 in
set_option maxHeartbeats 4000000 in
theorem rorders_any (w : World) : Calls Try.prog 27 #[] w fun e w' => e = .returned (.agg (icells sig.flatten).toArray) ∧ Below w.heap.size w w' := by
  have z62 := (zero_of_info zero62).1
  go_enter Try.func27, Try.ntmps27
  go_wp2_with (first | (refine wpList_store_arr (by rfl) 62 (.tmp 0) (.tmp 11) (by rfl) w.heap.size 62 (Array.replicate 160 (.int .i64 0)) (icells sig.flatten).toArray (heap_alloc_new w _) Try.size62 (by rfl) (icells_one _) (by rfl) (by rfl) ?_; intro W5 hW5 hC5))
  refine bodyPost_ret (ret_arr rfl w.heap.size 62 _ 10 61 (by rfl) hW5 Try.underlying62 Try.size62) rfl ?_
  exact ⟨rfl, ((Below.refl _ w).alloc (Nat.le_refl _) _).trans (hC5.below (by rintro i rfl; omega) (by simp))⟩

end Go.Proofs.Ytnmooepmpebepaa
