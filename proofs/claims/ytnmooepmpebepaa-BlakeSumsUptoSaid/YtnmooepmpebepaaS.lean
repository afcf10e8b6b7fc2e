import Derived.Test.YtnmooepmpebepaaR
namespace Go.Proofs.Ytnmooepmpebepaa
open Go.RowKit

theorem zero42 : (Try.prog.info? 42).map (fun i => (i.zero, i.size)) = some (some (.agg (wcells (List.replicate 16 0)).toArray), 16) := by kernel_rfl
theorem wcells_set (L : List Int) (i : Nat) (x : Int) : (wcells L).set i (.int .u32 x) = wcells (L.set i x) := by simp [wcells, List.map_set]
theorem range_of {w : World} {g : Nat} {t : TypeId} {cs : List Value} (h : w.heap[g]? = some (.cells cs.toArray t (0, 0))) : w.rangeAt g 0 cs := by
  intro j u hj
  rw [Nat.zero_add, cell_of_row _ _ _ _ _ _ h]
  simpa using hj
theorem load42 {w : World} {g : Nat} {t : TypeId} {L : List Int} (h : w.heap[g]? = some (.cells (wcells L).toArray t (0, 0))) (lL : L.length = 16) : (Instr.loadAt 42 (.pointer (some ⟨g, 0, none⟩))).run Try.prog w = .ok (.agg (wcells L).toArray) w :=
  run_loadAt_mid w g 0 42 (wcells L) _ (range_of h) Try.underlying42 rfl (by simpa using size42 lL)
/-- The same, behind '&&'. -/
theorem wpList_load_arr_g {P : Program} {ops : Array Oper} {rest : List Oper} {op : Oper} {a : Act} {w : World} {Q : Exit → Act → World → Prop} (hw : Region.wanted op (yielded ops a.tmps) = true) (ty : TypeId) (x : Operand) (ho : op.op = .load ty x)
    (g : Nat) (t : TypeId) (cs : Array Value) (h : w.heap[g]? = some (.cells cs t (0, 0))) (n : Nat) (e : TypeId) (hu : P.underlying ty = some (.array n e)) (hi : (P.info? ty).map (·.size) = some cs.size) (hx : a.eval x = .pointer (some ⟨g, 0, none⟩))
    (k : wpList P ops Q rest (a.put op.dst (.agg cs)) w) : wpList P ops Q (op :: rest) a w := by
  refine wpList_step fun K hK => ?_
  rw [if_pos hw]
  exact wp_load_row ty x ho g hx t cs (0, 0) _ h hu rfl hi (hK _ _ k)
theorem stirV_good (L : List Int) (x y : Int) : stirV L 0 4 8 12 x y = stirS L 0 4 8 12 x y := by
  unfold stirV
  rw [if_pos (by decide)]
  rfl

set_option maxRecDepth 100000 in
set_option maxHeartbeats 8000000 in
theorem back_any (w : World) (V : List Int) (lV : V.length = 16) (hV : ∀ i, i < 16 → U32 (st V i)) (x y : Int) :
    Calls Try.prog 6 #[.agg (wcells V).toArray, .int .u32 x, .int .u32 y] w (Holds w) := by
  have LV := Lib.hid (fun (w' : World) => lives_true w')
  have HS := Lib.hid (bstir_any · V lV 0 4 8 12 x y)
  have hR := stirV_good V x y
  have hBk := back_stir V lV hV x y
  obtain ⟨R, hRR⟩ : ∃ R, stirS V 0 4 8 12 x y = R := ⟨_, rfl⟩
  have lR : R.length = 16 := by rw [← hRR, stirS_length]; exact lV
  rw [hRR] at hR hBk
  rw [hR] at HS
  have HB := Lib.hid hBk
  have z42 := Lib.hid (zero_of_info zero42).1
  have qE := fun (w : World) => eq42 V lV w
  clear hR hRR hBk hV
  go_enter Try.func6, Try.ntmps6
  go_wp2_with (first | (refine wpList_box_any (by rfl) 42 (.tmp 0) (by rfl) _ (wcells V).toArray (by rfl) (by rfl) ?_; intro w1 hw1 hc1) | (refine wpList_load_arr (by rfl) 42 (.tmp 3) (by rfl) w.heap.size 42 _ hw1 16 35 Try.underlying42 (size42 lV) (by rfl) ?_))
  have hl1 := (Array.getElem?_eq_some_iff.1 hw1).1
  have H1 := Lib.hid (And.intro hw1 (hc1.below (B := w.heap.size) (by simp) (Nat.le_refl _)))
  clear hw1 hc1
  refine (HS.out _).mono ?_
  rintro e w2 ⟨rfl, hb2⟩
  have hv2 := (hb2.block _ hl1).trans H1.out.1
  have hl2 := (Array.getElem?_eq_some_iff.1 hv2).1
  have H2 := Lib.hid (And.intro hv2 (H1.out.2.trans (hb2.mono H1.out.2.size)))
  clear hv2 hb2
  go_wp2_with (first | (refine wpList_alloc_any (by rfl) 42 (by rfl) (wcells (List.replicate 16 0)).toArray z42.out ?_; intro w3 hw3 hc3 hz3) | (refine wpList_store_arr (by rfl) 42 (.tmp 7) (.tmp 15) (by rfl) w2.heap.size 42 _ (wcells R).toArray hw3 (size42 lR) (by simp [wcells, lR]) (wcells_one R) (by rfl) (by rfl) ?_; intro w4 hw4 hc4))
  have hb4 := (H2.out.2.trans (hc3.below (B := w.heap.size) (by simp) H2.out.2.size)).trans (hc4.below (B := w.heap.size) (by rintro i rfl; exact H2.out.2.size) (Nat.le_trans H2.out.2.size hc3.size))
  have hv4 := (hc4.block _ (Nat.lt_trans hl2 hz3) (by omega)).trans ((hc3.block _ hl2 (by simp)).trans H2.out.1)
  have hW4 : Words w4 w2.heap.size 42 R := ⟨hw4⟩
  have c0 := hW4.cell 0 (by omega)
  have c4 := hW4.cell 4 (by omega)
  have c8 := hW4.cell 8 (by omega)
  have c12 := hW4.cell 12 (by omega)
  obtain ⟨r0, e0⟩ : ∃ r, st R 0 = r := ⟨_, rfl⟩
  obtain ⟨r4, e4⟩ : ∃ r, st R 4 = r := ⟨_, rfl⟩
  obtain ⟨r8, e8⟩ : ∃ r, st R 8 = r := ⟨_, rfl⟩
  obtain ⟨r12, e12⟩ : ∃ r, st R 12 = r := ⟨_, rfl⟩
  rw [e0] at c0
  rw [e4] at c4
  rw [e8] at c8
  rw [e12] at c12
  have H4 := Lib.hid (And.intro hW4 (And.intro hv4 hb4))
  have HE := Lib.hid (And.intro e0 (And.intro e4 (And.intro e8 e12)))
  clear hw3 hc3 hw4 hc4 hb4 hv4 hW4 e0 e4 e8 e12
  go_wp2_with fail
  go_quiet (fail)
  go_wp2_with fail
  refine (left7 _ _).mono ?_
  rintro e w5 ⟨rfl, n5, rfl⟩
  generalize g1 : ro r4 128 33554432 = t1
  have G1 := Lib.hid g1
  clear g1
  go_wp2_with fail
  generalize g1 : bits .xor .u32 t1 r8 = b1
  generalize g2 : (r8 - r12) % 4294967296 = c1
  have G2 := Lib.hid (And.intro g1 g2)
  clear g1 g2
  refine (left8 _ _).mono ?_
  rintro e w5 ⟨rfl, n6, rfl⟩
  generalize g1 : ro r12 256 16777216 = t2
  have G3 := Lib.hid g1
  clear g1
  go_wp2_with fail
  generalize g1 : bits .xor .u32 t2 r0 = d1
  generalize g2 : ((r0 - b1) % 4294967296 - y) % 4294967296 = a1
  have G4 := Lib.hid (And.intro g1 g2)
  clear g1 g2
  refine (left12 _ _).mono ?_
  rintro e w5 ⟨rfl, n7, rfl⟩
  generalize g1 : ro b1 4096 1048576 = t3
  have G5 := Lib.hid g1
  clear g1
  go_wp2_with fail
  generalize g1 : bits .xor .u32 t3 c1 = b0
  generalize g2 : (c1 - d1) % 4294967296 = k0
  have G6 := Lib.hid (And.intro g1 g2)
  clear g1 g2
  refine (left16 _ _).mono ?_
  rintro e w5 ⟨rfl, n8, rfl⟩
  generalize g1 : ro d1 65536 65536 = t4
  have G7 := Lib.hid g1
  clear g1
  have hW5 : (w4.drewN (nq + n5 + n6 + n7 + n8)).heap[w2.heap.size]? = some (.cells (wcells R).toArray 42 (0, 0)) := H4.out.1.heap
  go_wp2_with (first | (refine wpList_store_cell (by rfl) (by rfl) 35 (.tmp 60) (.tmp 56) (by rfl) Try.size35 w2.heap.size 42 (wcells R) hW5 0 (by rw [wcells_length, lR]; decide) (.int .u32 (((a1 - b0) % 4294967296 - x) % 4294967296)) (by rfl) (by rfl) (by rfl) ?_; intro y0 hy0 hd0; rw [wcells_set] at hy0) | (refine wpList_store_cell (by rfl) (by rfl) 35 (.tmp 61) (.tmp 57) (by rfl) Try.size35 w2.heap.size 42 _ hy0 4 (by rw [wcells_length, List.length_set, lR]; decide) (.int .u32 b0) (by rfl) (by rfl) (by rfl) ?_; intro y1 hy1 hd1; rw [wcells_set] at hy1) | (refine wpList_store_cell (by rfl) (by rfl) 35 (.tmp 62) (.tmp 58) (by rfl) Try.size35 w2.heap.size 42 _ hy1 8 (by rw [wcells_length, List.length_set, List.length_set, lR]; decide) (.int .u32 k0) (by rfl) (by rfl) (by rfl) ?_; intro y2 hy2 hd2; rw [wcells_set] at hy2) | (refine wpList_store_cell (by rfl) (by rfl) 35 (.tmp 63) (.tmp 59) (by rfl) Try.size35 w2.heap.size 42 _ hy2 12 (by rw [wcells_length, List.length_set, List.length_set, List.length_set, lR]; decide) (.int .u32 (bits .xor .u32 t4 a1)) (by rfl) (by rfl) (by rfl) ?_; intro y3 hy3 hd3; rw [wcells_set] at hy3))
  have hfin : (((R.set 0 (((a1 - b0) % 4294967296 - x) % 4294967296)).set 4 b0).set 8 k0).set 12 (bits .xor .u32 t4 a1) = V := by
    rw [← HB.out]
    unfold backS
    simp only [su, wrap_u32, xr, HE.out.1, HE.out.2.1, HE.out.2.2.1, HE.out.2.2.2, G1.out, G2.out.1, G2.out.2, G3.out, G4.out.1, G4.out.2, G5.out, G6.out.1, G6.out.2, G7.out]
  rw [hfin] at hy3
  have hcc : Ch (fun i => i = w2.heap.size) w4 y3 := ((Ch.refl _ w4).drewN (nq + n5 + n6 + n7 + n8)).trans (hd0.trans (hd1.trans (hd2.trans hd3 (fun _ _ h => h)) (fun _ _ h => h)) (fun _ _ h => h)) (fun _ _ h => h)
  have hl4 := (Array.getElem?_eq_some_iff.1 H4.out.2.1).1
  have hv9 := (hcc.block _ hl4 (by omega)).trans H4.out.2.1
  have hb9 := H4.out.2.2.trans (hcc.below (B := w.heap.size) (by rintro i rfl; exact H2.out.2.size) H4.out.2.2.size)
  have HY := Lib.hid (And.intro hy3 (And.intro hv9 hb9))
  clear hfin hy0 hy1 hy2 hy3 hd0 hd1 hd2 hd3 hcc hv9 hb9 hW5
  refine (LV.out _).mono ?_
  rintro e w9 ⟨rfl, hb9⟩
  have q1 := ((hb9.block _ (Array.getElem?_eq_some_iff.1 HY.out.1).1).trans HY.out.1)
  have q2 := ((hb9.block _ (Array.getElem?_eq_some_iff.1 HY.out.2.1).1).trans HY.out.2.1)
  have H9 := Lib.hid (HY.out.2.2.trans (hb9.mono HY.out.2.2.size))
  have Q := Lib.hid (And.intro q1 q2)
  clear hb9 q1 q2
  go_wp2_with (first | (refine wpList_load_arr_g (by rfl) 42 (.tmp 7) (by rfl) w2.heap.size 42 _ Q.out.1 16 35 Try.underlying42 (size42 lV) (by rfl) ?_) | (refine wpList_load_arr_g (by rfl) 42 (.tmp 3) (by rfl) w.heap.size 42 _ Q.out.2 16 35 Try.underlying42 (size42 lV) (by rfl) ?_))
  go_ret
  exact ⟨rfl, H9.out⟩

end Go.Proofs.Ytnmooepmpebepaa
