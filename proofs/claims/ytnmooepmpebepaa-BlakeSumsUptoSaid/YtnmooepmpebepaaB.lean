import Derived.Test.YtnmooepmpebepaaA
import Derived.Lib.ReflectliteSwap
namespace Go.Proofs.Ytnmooepmpebepaa
open Go.RowKit

theorem wpList_store_word {P : Program} {ops : Array Oper} {rest : List Oper} {op : Oper} {a : Act} {w : World} {Q : Exit → Act → World → Prop} (hgd : op.guard = none) (x y : Operand) (ho : op.op = .store 35 x y)
    (hi : (P.info? 35).map (·.size) = some 1) (g : Nat) (t : TypeId) (L : List Int) (h : Words w g t L) (i : Nat) (hil : i < L.length) (v : Int) (hx : a.eval x = .pointer (some ⟨g, i, none⟩)) (hy : a.eval y = .int .u32 v)
    (k : ∀ w', Words w' g t (L.set i v) → Ch (fun k => k = g) w w' → wpList P ops Q rest (a.put op.dst undef) w') : wpList P ops Q (op :: rest) a w := by
  refine wpList_plain hgd fun K hK => ?_
  have h1 : (storeVar 35 ⟨g, i, none⟩ (.int .u32 v)).run P w = .ok () (w.setCell ⟨g, i, none⟩ (.int .u32 v)) := by
    cases hq : P.info? 35 with
    | none => simp [hq] at hi
    | some i0 => exact Go.Lib.rl_storeVar_one 35 i0 hq (by simpa [hq] using hi) ⟨g, i, none⟩ _ _ rfl w (h.cell i hil) (h.frozen i)
  unfold Oper.wp execOp
  simp only [ho, hx, hy, Instr.storeAt, Instr.sureAddr, Sem.run_bind, Sem.run_pure, Result.andThen_ok, h1]
  exact hK _ _ (k _ (h.set i v) ((Ch.refl _ w).setCell _ _ (fun _ => rfl)))

theorem Try.size35 : (Try.prog.info? 35).map (·.size) = some 1 := by kernel_rfl

def StirEnd (w : World) (g : Nat) (t : TypeId) (L : List Int) (e : Ending) (w' : World) : Prop := e = .returned (.tuple #[]) ∧ Words w' g t L ∧ Ch (fun k => k = g) w w'

theorem quiet_of {P : Program} {f : Nat} {args : Array Value} {w : World} {v : Value} (h : Calls P f args w fun e w' => e = .returned v ∧ w = w') : Calls P f args w fun e w' => e = .returned v ∧ w' = w :=
  h.mono fun _ _ ⟨h1, h2⟩ => ⟨h1, h2.symm⟩

set_option maxRecDepth 100000 in
set_option maxHeartbeats 8000000 in
theorem stir_any (w : World) (g : Nat) (t : TypeId) (L : List Int) (h : Words w g t L) (hl : L.length = 16) (a b c d : Nat) (ha : a < 16) (hb : b < 16) (hc : c < 16) (hd : d < 16) (x y : Int) :
    Calls Try.prog 26 #[.pointer (some ⟨g, 0, none⟩), .int .i64 a, .int .i64 b, .int .i64 c, .int .i64 d, .int .u32 x, .int .u32 y] w (StirEnd w g t (stirS L a b c d x y)) := by
  have ia : (0 : Int) ≤ (a : Int) := by omega
  have ja : (a : Int) < 16 := by omega
  have ib : (0 : Int) ≤ (b : Int) := by omega
  have jb : (b : Int) < 16 := by omega
  have ic : (0 : Int) ≤ (c : Int) := by omega
  have jc : (c : Int) < 16 := by omega
  have id : (0 : Int) ≤ (d : Int) := by omega
  have jd : (d : Int) < 16 := by omega
  have hC := Ch.refl (fun k => k = g) w
  obtain ⟨L0, hL0⟩ : ∃ L0, L = L0 := ⟨_, rfl⟩
  have H0 := Lib.hid (hL0 ▸ h)
  have C0 := Lib.hid hC
  have l0 : L0.length = 16 := by rw [← hL0]; exact hl
  have E0 := Lib.hid hL0
  clear h hC hL0
  go_enter Try.func26, Try.ntmps26
  have cp := H0.out.cell a (by omega)
  have cq := H0.out.cell b (by omega)
  go_wp2_with fail
  go_still_tail 15, (by kernel_rfl)
  clear cp cq
  refine wpList_store_word (by rfl) _ _ rfl Try.size35 g t L0 (H0.out.drewN _) a (by omega) (ad (st L0 a) (ad (st L0 b) x)) (by rfl) (by rfl) ?_
  intro W1 H C
  obtain ⟨L1, hL⟩ : ∃ L', s1 L0 a b x = L' := ⟨_, rfl⟩
  have H1 := Lib.hid (show Words W1 g t L1 by rw [← hL]; exact H)
  have l1 : L1.length = 16 := by rw [← hL, s1_length L0 a b x]; exact l0
  have E1 := Lib.hid hL
  have C1 := Lib.hid ((C0.out.drewN _).trans C (fun _ _ h => h))
  clear H C hL
  have cp := H1.out.cell d (by omega)
  have cq := H1.out.cell a (by omega)
  go_wp2_with fail
  go_still_tail 16, (by kernel_rfl)
  still_call (quiet_of (rot16 _ _))
  repeat still_step
  refine wpStill_nil ?_
  clear cp cq
  refine wpList_store_word (by rfl) _ _ rfl Try.size35 g t L1 (H1.out.drewN _) d (by omega) (ro (xr (st L1 d) (st L1 a)) 65536 65536) (by rfl) (by rfl) ?_
  intro W2 H C
  obtain ⟨L2, hL⟩ : ∃ L', s2 L1 d a 65536 65536 = L' := ⟨_, rfl⟩
  have H2 := Lib.hid (show Words W2 g t L2 by rw [← hL]; exact H)
  have l2 : L2.length = 16 := by rw [← hL, s2_length L1 d a 65536 65536]; exact l1
  have E2 := Lib.hid hL
  have C2 := Lib.hid ((C1.out.drewN _).trans C (fun _ _ h => h))
  clear H C hL
  have cp := H2.out.cell c (by omega)
  have cq := H2.out.cell d (by omega)
  go_wp2_with fail
  go_still_tail 13, (by kernel_rfl)
  clear cp cq
  refine wpList_store_word (by rfl) _ _ rfl Try.size35 g t L2 (H2.out.drewN _) c (by omega) (ad (st L2 c) (st L2 d)) (by rfl) (by rfl) ?_
  intro W3 H C
  obtain ⟨L3, hL⟩ : ∃ L', s3 L2 c d = L' := ⟨_, rfl⟩
  have H3 := Lib.hid (show Words W3 g t L3 by rw [← hL]; exact H)
  have l3 : L3.length = 16 := by rw [← hL, s3_length L2 c d]; exact l2
  have E3 := Lib.hid hL
  have C3 := Lib.hid ((C2.out.drewN _).trans C (fun _ _ h => h))
  clear H C hL
  have cp := H3.out.cell b (by omega)
  have cq := H3.out.cell c (by omega)
  go_wp2_with fail
  go_still_tail 16, (by kernel_rfl)
  still_call (quiet_of (rot12 _ _))
  repeat still_step
  refine wpStill_nil ?_
  clear cp cq
  refine wpList_store_word (by rfl) _ _ rfl Try.size35 g t L3 (H3.out.drewN _) b (by omega) (ro (xr (st L3 b) (st L3 c)) 1048576 4096) (by rfl) (by rfl) ?_
  intro W4 H C
  obtain ⟨L4, hL⟩ : ∃ L', s2 L3 b c 1048576 4096 = L' := ⟨_, rfl⟩
  have H4 := Lib.hid (show Words W4 g t L4 by rw [← hL]; exact H)
  have l4 : L4.length = 16 := by rw [← hL, s2_length L3 b c 1048576 4096]; exact l3
  have E4 := Lib.hid hL
  have C4 := Lib.hid ((C3.out.drewN _).trans C (fun _ _ h => h))
  clear H C hL
  have cp := H4.out.cell a (by omega)
  have cq := H4.out.cell b (by omega)
  go_wp2_with fail
  go_still_tail 15, (by kernel_rfl)
  clear cp cq
  refine wpList_store_word (by rfl) _ _ rfl Try.size35 g t L4 (H4.out.drewN _) a (by omega) (ad (st L4 a) (ad (st L4 b) y)) (by rfl) (by rfl) ?_
  intro W5 H C
  obtain ⟨L5, hL⟩ : ∃ L', s1 L4 a b y = L' := ⟨_, rfl⟩
  have H5 := Lib.hid (show Words W5 g t L5 by rw [← hL]; exact H)
  have l5 : L5.length = 16 := by rw [← hL, s1_length L4 a b y]; exact l4
  have E5 := Lib.hid hL
  have C5 := Lib.hid ((C4.out.drewN _).trans C (fun _ _ h => h))
  clear H C hL
  have cp := H5.out.cell d (by omega)
  have cq := H5.out.cell a (by omega)
  go_wp2_with fail
  go_still_tail 16, (by kernel_rfl)
  still_call (quiet_of (rot8 _ _))
  repeat still_step
  refine wpStill_nil ?_
  clear cp cq
  refine wpList_store_word (by rfl) _ _ rfl Try.size35 g t L5 (H5.out.drewN _) d (by omega) (ro (xr (st L5 d) (st L5 a)) 16777216 256) (by rfl) (by rfl) ?_
  intro W6 H C
  obtain ⟨L6, hL⟩ : ∃ L', s2 L5 d a 16777216 256 = L' := ⟨_, rfl⟩
  have H6 := Lib.hid (show Words W6 g t L6 by rw [← hL]; exact H)
  have l6 : L6.length = 16 := by rw [← hL, s2_length L5 d a 16777216 256]; exact l5
  have E6 := Lib.hid hL
  have C6 := Lib.hid ((C5.out.drewN _).trans C (fun _ _ h => h))
  clear H C hL
  have cp := H6.out.cell c (by omega)
  have cq := H6.out.cell d (by omega)
  go_wp2_with fail
  go_still_tail 13, (by kernel_rfl)
  clear cp cq
  refine wpList_store_word (by rfl) _ _ rfl Try.size35 g t L6 (H6.out.drewN _) c (by omega) (ad (st L6 c) (st L6 d)) (by rfl) (by rfl) ?_
  intro W7 H C
  obtain ⟨L7, hL⟩ : ∃ L', s3 L6 c d = L' := ⟨_, rfl⟩
  have H7 := Lib.hid (show Words W7 g t L7 by rw [← hL]; exact H)
  have l7 : L7.length = 16 := by rw [← hL, s3_length L6 c d]; exact l6
  have E7 := Lib.hid hL
  have C7 := Lib.hid ((C6.out.drewN _).trans C (fun _ _ h => h))
  clear H C hL
  have cp := H7.out.cell b (by omega)
  have cq := H7.out.cell c (by omega)
  go_wp2_with fail
  go_still_tail 16, (by kernel_rfl)
  still_call (quiet_of (rot7 _ _))
  repeat still_step
  refine wpStill_nil ?_
  clear cp cq
  refine wpList_store_word (by rfl) _ _ rfl Try.size35 g t L7 (H7.out.drewN _) b (by omega) (ro (xr (st L7 b) (st L7 c)) 33554432 128) (by rfl) (by rfl) ?_
  intro W8 H C
  obtain ⟨L8, hL⟩ : ∃ L', s2 L7 b c 33554432 128 = L' := ⟨_, rfl⟩
  have H8 := Lib.hid (show Words W8 g t L8 by rw [← hL]; exact H)
  have l8 : L8.length = 16 := by rw [← hL, s2_length L7 b c 33554432 128]; exact l7
  have E8 := Lib.hid hL
  have C8 := Lib.hid ((C7.out.drewN _).trans C (fun _ _ h => h))
  clear H C hL
  go_wp2
  refine bodyPost_end (results_none rfl _ _ _) rfl ?_
  refine ⟨rfl, ?_, C8.out⟩
  have e : stirS L a b c d x y = L8 := by
    unfold stirS
    rw [E0.out, E1.out, E2.out, E3.out, E4.out, E5.out, E6.out, E7.out, E8.out]
  rw [e]
  exact H8.out

end Go.Proofs.Ytnmooepmpebepaa
