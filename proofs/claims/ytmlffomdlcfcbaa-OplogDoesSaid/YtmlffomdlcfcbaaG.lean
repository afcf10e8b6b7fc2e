import Derived.RangeFuncNested
import Derived.RangeFuncBound
import Derived.RangeFuncCalls
import Derived.RangeFuncLeaves
import Derived.Shelf.Abstract
import Derived.Shelf.RegionOpen
import Derived.OwnWalkIn
import Derived.TacticsInMore
import Derived.LoopNIn
import Derived.LoopIn
import Derived.RegionIn
import Derived.Sort.QuietIn
import Derived.Test.YtmlffomdlcfcbaaF
namespace Go.Proofs.Ytmlffomdlcfcbaa
open Go.RowKit Go.Shelf
attribute [local go_sem] Oper.semAt_some

set_option maxRecDepth 100000 in
set_option maxHeartbeats 2000000 in
/-- The iterator of a nil log: no round. -/
theorem from_nil_in (n : Nat) (l bn bl : Nat) (m : Int) (J : List (Int × ByteArray) → World → Prop) (W : World) (hn : W.cell? ⟨bn, 0, none⟩ = some (.int .i64 m)) (hl : W.cell? ⟨bl, 0, none⟩ = some (.pointer none)) (h0 : J [] W) (hJ : AbidesFrom W.heap.size J) :
    CallsIn Fence.wide n Try.prog 25 #[.func (.yield l) #[] #[], .pointer (some ⟨bn, 0, none⟩), .pointer (some ⟨bl, 0, none⟩)] W fun e W' => (∃ v, e = .returned v) ∧ J [] W' := by
  refine callsIn_of_wp Try.func25 rfl trivial ?_ rfl
  simp only [Try.ntmps25, List.size_toArray, List.length_cons, List.length_nil, Nat.reduceAdd, Nat.reduceSub, Array.replicate_succ, Array.replicate_zero, List.push_toArray, List.append_toArray, List.nil_append, List.cons_append]
  have hw1 : ∀ k, Fence.wide.fn k := fun _ => trivial
  have hw2 : Fence.wide.depth = none := rfl
  obtain ⟨i0, hi0⟩ : ∃ i0, (if m < 0 then (0 : Int) else m) = i0 := ⟨_, rfl⟩
  have hi1 : 0 ≤ i0 := by rw [← hi0]; split <;> omega
  have hd : ∀ t, J [] (W.drewN t) := fun t => hJ [] W (W.drewN t) none h0 ⟨rfl, rfl, rfl, Nat.le_refl _, fun _ _ _ => rfl⟩ (by simp)
  have HD := Lib.hid hd
  clear hd
  have HB := Lib.hid (fun t : Nat => CallsIn.quiet_of_same (callsIn_wide (n := n - 1).2 ((base_nil (W.drewN t)).mono (fun e w' h => ⟨h.1, h.2.symm⟩))))
  gi_wp2_with fail
  gi_quiet ((gi_at_call 18; exact HB.out _))
  gi_wp2
  gi_loopw [4] (fun i wr => i = .int .i64 i0 ∧ ∃ t, wr = W.drewN t) (fun _ _ => 0)
  case atStart => exact ⟨rfl, nq, rfl⟩
  case round =>
    obtain ⟨rfl, t, rfl⟩ := hrel
    gi_wp2_with (first | (gi_at_call 19; refine (callsIn_wide.2 (last_nil _)).mono ?_; rintro e w' ⟨rfl, m, rfl⟩))
    go_end0
    exact ⟨⟨_, rfl⟩, by simpa using HD.out _⟩

end Go.Proofs.Ytmlffomdlcfcbaa
