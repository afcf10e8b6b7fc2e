import Derived.Test.YtnmooepmpebepaaJ
namespace Go.Proofs.Ytnmooepmpebepaa
open Go.RowKit

theorem outB_length (H : List Int) : (outB H).length = 32 := by simp [outB]
theorem outB_at (H : List Int) (i : Nat) (hi : i < 32) : st (outB H) i = IntKind.u8.wrap (st H (i / 4) / 2 ^ (8 * (i % 4))) := by
  conv => lhs; unfold outB st
  simp only [List.getD]
  rw [List.getElem?_map, List.getElem?_range hi]
  rfl
theorem bcells_set (L : List Int) (i : Nat) (x : Int) : (bcells L).set i (.int .u8 x) = bcells (L.set i x) := by simp [bcells, List.map_set]

theorem slice38h (g n : Nat) (hn : n ≤ 64) (w : World) : (Instr.sliceAt 38 (.pointer (some ⟨g, 8, none⟩)) none (some (.int .i64 (n : Int))) none).run Try.prog w = .ok (.slice (some ⟨g, 8, none⟩) n 64) w := by
  have ha : Try.prog.arrayLen 38 = 64 := by simp [Program.arrayLen, Try.underlying38]
  have he : Try.prog.elem 38 = 5 := by simp [Program.elem, Try.underlying38]
  rw [run_sliceAt_array_h w 38 ⟨g, 8, none⟩ (by rw [ha, he]; exact Try.underlying38) .i64 _ (by omega) (by rw [ha]; omega), he, sizeOf_run Try.size5, ha]
  show Result.ok _ w = _
  unfold slicedAt
  rw [if_neg (by omega), Nat.zero_mul, Addr.add_mid]
  rfl

def BytesEnd (w : World) (L : List Int) (e : Ending) (w' : World) : Prop := e = .returned (.agg (bcells L).toArray) ∧ Below w.heap.size w w'

theorem bcells_all (L : List Int) : (bcells L).toArray.all (·.oneCell') = true := all_oneCell_toArray (bcells_one L)
theorem Try.size28 : (Try.prog.info? 28).map (·.size) = some 32 := by kernel_rfl
theorem Try.size38 : (Try.prog.info? 38).map (·.size) = some 64 := by kernel_rfl
theorem size28 {L : List Int} (h : L.length = 32) : (Try.prog.info? 28).map (·.size) = some (bcells L).toArray.size := by rw [Try.size28]; simp [bcells, h]
theorem size38 {L : List Int} (h : L.length = 64) : (Try.prog.info? 38).map (·.size) = some (bcells L).toArray.size := by rw [Try.size38]; simp [bcells, h]

theorem splice_pad (b : List Int) (_ : b.length ≤ 64) : splice (bcells (List.replicate 64 0)) 0 (bcells b) = bcells (padS b) := by
  have e : (bcells (List.replicate 64 0)).drop b.length = bcells (List.replicate (64 - b.length) 0) := by
    simp only [bcells, List.map_replicate, List.drop_replicate]
  simp only [splice, List.take_zero, List.nil_append, bcells_length, Nat.zero_add]
  rw [e]
  simp only [bcells, padS, List.map_append]
theorem padS_length (b : List Int) (hb : b.length ≤ 64) : (padS b).length = 64 := by simp [padS]; omega

theorem wpList_alloc_any {P : Program} {ops : Array Oper} {rest : List Oper} {op : Oper} {a : Act} {w : World} {Q : Exit → Act → World → Prop} (hgd : op.guard = none) (ty : TypeId) (ho : op.op = .alloc ty) (cs : Array Value)
    (hz : ∀ w, (zeroValue ty).run P w = .ok (.agg cs) w)
    (k : ∀ w', w'.heap[w.heap.size]? = some (.cells cs ty (0, 0)) → Ch (fun _ => False) w w' → w.heap.size < w'.heap.size → wpList P ops Q rest (a.put op.dst (.pointer (some ⟨w.heap.size, 0, none⟩))) w') : wpList P ops Q (op :: rest) a w := by
  refine wpList_plain hgd fun K hK => ?_
  have h1 : (Instr.alloc ty true (.tuple #[])).run P w = .ok (.pointer (some ⟨w.heap.size, 0, none⟩)) (w.alloc (.cells cs ty)) := by
    simp [Instr.alloc, newVar, newRow, Value.cells, hz, Result.andThen]
  unfold Oper.wp execOp
  simp only [ho, Sem.run_bind, Sem.run_pure, Result.andThen_ok, h1]
  exact hK _ _ (k _ (heap_alloc_new w _) ((Ch.refl _ w).alloc _) (by simp))

theorem zero28 : (Try.prog.info? 28).map (fun i => (i.zero, i.size)) = some (some (.agg (bcells (List.replicate 32 0)).toArray), 32) := by kernel_rfl
theorem zero36 : (Try.prog.info? 36).map (fun i => (i.zero, i.size)) = some (some (.agg (wcells (List.replicate 8 0)).toArray), 8) := by kernel_rfl
theorem zero38 : (Try.prog.info? 38).map (fun i => (i.zero, i.size)) = some (some (.agg (bcells (List.replicate 64 0)).toArray), 64) := by kernel_rfl

theorem mid_of {w : World} {g : Nat} {t : TypeId} {H : List Int} (h : w.heap[g]? = some (.cells (wcells H).toArray t (0, 0))) : Mid w g t [] H [] := by
  unfold Mid; simpa using h
theorem of_mid {w : World} {g : Nat} {t : TypeId} {H : List Int} (h : Mid w g t [] H []) : w.heap[g]? = some (.cells (wcells H).toArray t (0, 0)) := by
  unfold Mid at h; simpa using h
theorem bytes_of {w : World} {g : Nat} {t : TypeId} {L : List Int} (h : w.heap[g]? = some (.cells (bcells L).toArray t (0, 0))) : Bytes w g 0 L := by
  refine ⟨(Array.getElem?_eq_some_iff.1 h).1, fun i hi => ?_⟩
  rw [cell_of_row _ _ _ _ _ _ h, Nat.zero_add]
  simpa using bcells_at L i hi
theorem hash_range {w : World} {g : Nat} {s : HS} (h : HashAt w g s) : w.rangeAt g 0 (wcells s.h) := by
  intro j u hj
  rw [Nat.zero_add, cell_of_row _ _ _ _ _ _ h]
  have hjl : j < (wcells s.h).length := (List.getElem?_eq_some_iff.1 hj).1
  simp only [hcells, List.getElem?_toArray]
  rw [List.getElem?_append_left hjl]
  exact hj

set_option maxRecDepth 100000 in
set_option maxHeartbeats 16000000 in
theorem digest_any (w : World) (g : Nat) (msg : List Int) (hg : Given w g msg) : Calls Try.prog 13 #[.pointer (some ⟨g, 0, none⟩)] w (BytesEnd w (sumS msg)) := by
  obtain ⟨s, hs, hinv⟩ := hg
  have hdig := inv_digest hinv
  have HS := Lib.hid (And.intro hs (And.intro hinv hdig))
  have hlt := hs.lt
  obtain ⟨n, hn⟩ : ∃ n, s.n = n := ⟨_, rfl⟩
  obtain ⟨al, hal⟩ : ∃ al, s.all = al := ⟨_, rfl⟩
  have HN := Lib.hid (And.intro hn hal)
  have hn64 : n ≤ 64 := by rw [← hn]; exact hinv.le
  have p0 : (0 : Int) ≤ (n : Int) := by omega
  have p1 : (n : Int) ≤ 64 := by omega
  have hpl : (padS (s.held.take n)).length = 64 := padS_length _ (by simp; omega)
  have htl : (s.held.take n).length = n := by rw [List.length_take, hinv.lheld]; omega
  have z28 := Lib.hid (zero_of_info zero28).1
  have z36 := Lib.hid (zero_of_info zero36).1
  have z38 := Lib.hid (zero_of_info zero38).1
  clear hs hinv hdig hn hal
  go_enter Try.func13, Try.ntmps13
  go_wp2_with (first | (refine wpList_alloc_any (by rfl) 28 (by rfl) (bcells (List.replicate 32 0)).toArray z28.out ?_; intro w1 hw1 hc1 hz1; have H1 := Lib.hid (HS.out.1.ch hc1 (by simp))) | (refine wpList_load_mid (by rfl) 36 (.tmp 14) (by rfl) g 0 (by rfl) (wcells s.h) _ (hash_range H1.out) Try.underlying36 (by rfl) (by simpa using size36 HS.out.2.1.lh) ?_) | (refine wpList_alloc_any (by rfl) 36 (by rfl) (wcells (List.replicate 8 0)).toArray z36.out ?_; intro w2 hw2 hc2 hz2) | (refine wpList_alloc_any (by rfl) 38 (by rfl) (bcells (List.replicate 64 0)).toArray z38.out ?_; intro w3 hw3 hc3 hz3) | (refine wpList_store_arr (by rfl) 36 (.tmp 3) (.tmp 15) (by rfl) w1.heap.size 36 (wcells (List.replicate 8 0)).toArray (wcells s.h).toArray ((hc3.block _ hz2 (by simp)).trans hw2) (size36 HS.out.2.1.lh) (by simp [wcells, HS.out.2.1.lh]) (wcells_one _) (by rfl) (by rfl) ?_; intro w4 hw4 hc4) | (refine wpList_store_arr (by rfl) 38 (.tmp 4) (.tmp 16) (by rfl) w2.heap.size 38 (bcells (List.replicate 64 0)).toArray (bcells (List.replicate 64 0)).toArray ((hc4.block _ hz3 (by omega)).trans hw3) (size38 (by simp)) (by rfl) (bcells_all _) (by rfl) (by rfl) ?_; intro w5 hw5 hc5))
  have hb1 : Below w.heap.size w w1 := hc1.below (by simp) (Nat.le_refl _)
  have hb2 := hb1.trans (hc2.below (B := w.heap.size) (by simp) hb1.size)
  have hb3 := hb2.trans (hc3.below (B := w.heap.size) (by simp) hb2.size)
  have hb4 := hb3.trans (hc4.below (B := w.heap.size) (by rintro i rfl; omega) hb3.size)
  have hb5 := hb4.trans (hc5.below (B := w.heap.size) (by rintro i rfl; omega) hb4.size)
  have hs5 : HashAt w5 g s := (hb5.block g hlt).trans HS.out.1
  have hx5 : w5.heap[w1.heap.size]? = some (.cells (wcells s.h).toArray 36 (0, 0)) := (hc5.block _ (by have := hc4.size; have := hc3.size; have := hc2.size; omega) (by omega)).trans hw4
  have hr5 : w5.heap[w.heap.size]? = some (.cells (bcells (List.replicate 32 0)).toArray 28 (0, 0)) := (hc5.block _ (by have := hc4.size; have := hc3.size; have := hc2.size; omega) (by omega)).trans ((hc4.block _ (by have := hc3.size; have := hc2.size; omega) (by omega)).trans ((hc3.block _ (by have := hc2.size; omega) (by simp)).trans ((hc2.block _ (by omega) (by simp)).trans hw1)))
  have H5 := Lib.hid (And.intro hs5 (And.intro hx5 (And.intro hw5 (And.intro hb5 hr5))))
  have cn := hs5.n HS.out.2.1.lh HS.out.2.1.lheld
  rw [HN.out.1] at cn
  have qs := fun (w : World) => slice38h g n hn64 w
  have hsz5 : w2.heap.size < w5.heap.size := by have := hc5.size; have := hc4.size; omega
  clear hw1 hc1 hw2 hc2 hw3 hc3 hw4 hc4 hw5 hc5 hb1 hb2 hb3 hb4 hb5 hs5 hx5 hr5
  go_still_tail 9, (by kernel_rfl)
  clear cn qs
  refine wpList_copy_ch (by rfl) (.tmp 17) (.tmp 25) 26 26 (by rfl) 5 Try.underlying26 Try.size5 w2.heap.size 0 64 64 ⟨g, 8, none⟩ n 64 (by rfl) (by rfl) (bcells (List.replicate 64 0)) 38 H5.out.2.2.1 (bcells (s.held.take n)) (by rw [bcells_length, htl]; exact (Nat.min_eq_left hn64).symm) ?hs (by rw [bcells_length, htl, bcells_length]; simp; exact hn64) (bcells_one _) ?_
  case hs =>
    intro j u hj
    have hjn : j < n := by have := (List.getElem?_eq_some_iff.1 hj).1; rwa [bcells_length, htl] at this
    rw [Addr.add_mid]
    refine ((H5.out.1.bytes HS.out.2.1.lh).2 j (by rw [HS.out.2.1.lheld]; omega)).trans ?_
    rw [← hj, bcells_at _ _ (by rw [htl]; exact hjn)]
    simp [st, List.getD, hjn]
  intro w6 hw6 hc6
  rw [splice_pad _ (by rw [htl]; exact hn64)] at hw6
  have hc56 : Ch (fun k => k = w2.heap.size) w5 w6 := (Ch.refl _ w5).drewN 1 |>.trans hc6 (fun _ _ h => h)
  have hs6 := H5.out.1.ch hc56 (by omega)
  have hx6 := (hc56.block w1.heap.size (Array.getElem?_eq_some_iff.1 H5.out.2.1).1 (by omega)).trans H5.out.2.1
  have hr6 := (hc56.block w.heap.size (Array.getElem?_eq_some_iff.1 H5.out.2.2.2.2).1 (by omega)).trans H5.out.2.2.2.2
  have H6 := Lib.hid (And.intro hs6 (And.intro hx6 (And.intro hw6 (And.intro (H5.out.2.2.2.1.trans (hc56.below (by rintro i rfl; omega) H5.out.2.2.2.1.size)) hr6))))
  have cn := hs6.n HS.out.2.1.lh HS.out.2.1.lheld
  have ca := hs6.all HS.out.2.1.lh HS.out.2.1.lheld
  rw [HN.out.1] at cn
  rw [HN.out.2] at ca
  clear hw6 hc6 hc56 hs6 hx6 hr6
  go_wp2_with fail
  go_still_tail 10, (by kernel_rfl)
  clear cn ca
  go_wp2_with fail
  have hwk := work_any (w6.drewN 1) w1.heap.size 0 36 [] [] s.h (mid_of H6.out.2.1) rfl HS.out.2.1.lh w2.heap.size 0 (padS (s.held.take n)) (bytes_of (w := w6.drewN 1) H6.out.2.2.1) hpl (IntKind.u64.wrap (al + (n : Int))) true
  have hdg : workS s.h (padS (s.held.take n)) (IntKind.u64.wrap (al + (n : Int))) true = digestW msg := by
    rw [← HS.out.2.2, HN.out.1, HN.out.2, w64_add2]; rfl
  rw [hdg] at hwk
  have lX : (digestW msg).length = 8 := by rw [← hdg]; exact workS_length _ _ _ _
  obtain ⟨X, hX⟩ : ∃ X, digestW msg = X := ⟨_, rfl⟩
  rw [hX] at hwk lX
  have HX := Lib.hid hX
  clear hdg hX
  refine hwk.mono ?_
  rintro e w7 ⟨rfl, hm7, hc7⟩
  have hx7 := of_mid hm7
  have hc67 : Ch (fun k => k = w1.heap.size) w6 w7 := (Ch.refl _ w6).drewN 1 |>.trans hc7 (fun _ _ h => h)
  have hr7 := (hc67.block w.heap.size (Array.getElem?_eq_some_iff.1 H6.out.2.2.2.2).1 (by omega)).trans H6.out.2.2.2.2
  have H7 := Lib.hid (And.intro hx7 (And.intro (H6.out.2.2.2.1.trans (hc67.below (by rintro i rfl; omega) H6.out.2.2.2.1.size)) hr7))
  clear hm7 hc7 hx7 hc67 hr7 hwk
  go_wp2_with (first | (refine wpList_alloc_any (by rfl) 28 (by rfl) (bcells (List.replicate 32 0)).toArray z28.out ?_; intro w8 hw8 hc8 hz8; have hx8 := (hc8.block _ (Array.getElem?_eq_some_iff.1 H7.out.1).1 (by simp)).trans H7.out.1) | (refine wpList_load_arr (by rfl) 36 (.tmp 3) (by rfl) w1.heap.size 36 _ hx8 8 35 Try.underlying36 (size36 lX) (by rfl) ?_))
  have hb8 := H7.out.2.1.trans (hc8.below (B := w.heap.size) (by simp) H7.out.2.1.size)
  have hr8 := (hc8.block _ (Array.getElem?_eq_some_iff.1 H7.out.2.2).1 (by simp)).trans H7.out.2.2
  have hlo8 : w.heap.size < w7.heap.size := (Array.getElem?_eq_some_iff.1 H7.out.2.2).1
  have H8 := Lib.hid (And.intro hw8 (And.intro hb8 hr8))
  clear hw8 hc8 hx8 hb8 hr8
  go_loopw [39] (fun q wr => ∃ (i : Nat) (O : List Int), q = .int .i64 i ∧ i ≤ 8 ∧ wr.heap[w7.heap.size]? = some (.cells (bcells O).toArray 28 (0, 0)) ∧ O.length = 32 ∧ (∀ j, j < 4 * i → st O j = st (outB X) j) ∧ Ch (fun k => k = w7.heap.size) w8 wr) (fun q _ => 8 - (intOf q).toNat)
  case atStart => exact ⟨0, List.replicate 32 0, rfl, by omega, H8.out.1, by simp, fun j hj => by omega, Ch.refl _ _⟩
  case round =>
    obtain ⟨i, O, rfl, hi, hO, lO, hdone, hch⟩ := hrel
    have HO := Lib.hid (And.intro hO (And.intro hdone hch))
    clear hO hdone hch
    by_cases hi8 : i < 8
    · have e1 : decide ((i : Int) < 8) = true := by simp; omega
      have hg : (wcells X).toArray[i]? = some (.int .u32 (st X i)) := by
        simp only [wcells, st, List.getD, List.getElem?_toArray, List.getElem?_map]
        rw [List.getElem?_eq_getElem (show i < X.length by omega)]
        rfl
      have qi := fun (w : World) => idx36 w (wcells X).toArray i hi8 _ hg i rfl
      have r0 : (0 : Int) ≤ 4 * (i : Int) := by omega
      have r1 : 4 * (i : Int) < 32 := by omega
      have r2 : (0 : Int) ≤ 4 * (i : Int) + 1 := by omega
      have r3 : 4 * (i : Int) + 1 < 32 := by omega
      have r4 : (0 : Int) ≤ 4 * (i : Int) + 2 := by omega
      have r5 : 4 * (i : Int) + 2 < 32 := by omega
      have r6 : (0 : Int) ≤ 4 * (i : Int) + 3 := by omega
      have r7 : 4 * (i : Int) + 3 < 32 := by omega
      have t0 : (4 * (i : Int)).toNat = 4 * i := by omega
      have t1 : (4 * (i : Int) + 1).toNat = 4 * i + 1 := by omega
      have t2 : (4 * (i : Int) + 2).toNat = 4 * i + 2 := by omega
      have t3 : (4 * (i : Int) + 3).toNat = 4 * i + 3 := by omega
      have HT := Lib.hid (And.intro (show 4 * i < 32 by omega) (And.intro (show 4 * i + 1 < 32 by omega) (And.intro (show 4 * i + 2 < 32 by omega) (show 4 * i + 3 < 32 by omega))))
      clear hg
      go_wp2_with (first | (refine wpList_store_cell (by rfl) (by rfl) 5 (.tmp 65) (.tmp 55) (by rfl) Try.size5 w7.heap.size 28 (bcells O) HO.out.1 (4 * i) (by rw [bcells_length, lO]; exact HT.out.1) (.int .u8 (IntKind.u8.wrap (st X i))) (by rfl) (by rfl) (by rfl) ?_; intro y0 hy0 hd0; rw [bcells_set] at hy0) | (refine wpList_store_cell (by rfl) (by rfl) 5 (.tmp 66) (.tmp 58) (by rfl) Try.size5 w7.heap.size 28 _ hy0 (4 * i + 1) (by rw [bcells_length, List.length_set, lO]; exact HT.out.2.1) (.int .u8 (IntKind.u8.wrap (st X i / 256))) (by rfl) (by rfl) (by rfl) ?_; intro y1 hy1 hd1; rw [bcells_set] at hy1) | (refine wpList_store_cell (by rfl) (by rfl) 5 (.tmp 67) (.tmp 61) (by rfl) Try.size5 w7.heap.size 28 _ hy1 (4 * i + 2) (by rw [bcells_length, List.length_set, List.length_set, lO]; exact HT.out.2.2.1) (.int .u8 (IntKind.u8.wrap (st X i / 65536))) (by rfl) (by rfl) (by rfl) ?_; intro y2 hy2 hd2; rw [bcells_set] at hy2) | (refine wpList_store_cell (by rfl) (by rfl) 5 (.tmp 68) (.tmp 64) (by rfl) Try.size5 w7.heap.size 28 _ hy2 (4 * i + 3) (by rw [bcells_length, List.length_set, List.length_set, List.length_set, lO]; exact HT.out.2.2.2) (.int .u8 (IntKind.u8.wrap (st X i / 16777216))) (by rfl) (by rfl) (by rfl) ?_; intro y3 hy3 hd3; rw [bcells_set] at hy3))
      clear t0 t1 t2 t3
      go_roundw
      case rel =>
        refine ⟨i + 1, _, by go_num, by omega, hy3, by simp [lO], fun j hj => ?_, HO.out.2.2.trans (hd0.trans (hd1.trans (hd2.trans hd3 (fun _ _ h => h)) (fun _ _ h => h)) (fun _ _ h => h)) (fun _ _ h => h)⟩
        by_cases j3 : j = 4 * i + 3
        · subst j3
          rw [st_set_self (by simp [lO]; omega), outB_at _ _ (by omega), show (4 * i + 3) / 4 = i by omega, show (4 * i + 3) % 4 = 3 by omega]
          rfl
        rw [st_set_ne (fun h => j3 h.symm)]
        by_cases j2 : j = 4 * i + 2
        · subst j2
          rw [st_set_self (by simp [lO]; omega), outB_at _ _ (by omega), show (4 * i + 2) / 4 = i by omega, show (4 * i + 2) % 4 = 2 by omega]
          rfl
        rw [st_set_ne (fun h => j2 h.symm)]
        by_cases j1 : j = 4 * i + 1
        · subst j1
          rw [st_set_self (by simp [lO]; omega), outB_at _ _ (by omega), show (4 * i + 1) / 4 = i by omega, show (4 * i + 1) % 4 = 1 by omega]
          rfl
        rw [st_set_ne (fun h => j1 h.symm)]
        by_cases j0 : j = 4 * i
        · subst j0
          rw [st_set_self (by simp [lO]; omega), outB_at _ _ (by omega), show (4 * i) / 4 = i by omega, show (4 * i) % 4 = 0 by omega]
          simp
        rw [st_set_ne (fun h => j0 h.symm)]
        exact HO.out.2.1 j (by omega)
      case measure => simp [intOf]; omega
    · have e1 : decide ((i : Int) < 8) = false := by simp; omega
      have hOe : O = outB X := st_ext (by rw [lO, outB_length]) (fun j hj => HO.out.2.1 j (by rw [lO] at hj; omega))
      have HOE := Lib.hid hOe
      have hr9 := (HO.out.2.2.block w.heap.size (Array.getElem?_eq_some_iff.1 H8.out.2.2).1 (by omega)).trans H8.out.2.2
      have HR9 := Lib.hid hr9
      clear hOe hr9
      go_wp2_with (first | (refine wpList_load_arr (by rfl) 28 (.tmp 5) (by rfl) w7.heap.size 28 _ HO.out.1 32 5 Try.underlying28 (size28 lO) (by rfl) ?_) | (refine wpList_store_arr (by rfl) 28 (.tmp 2) (.tmp 70) (by rfl) w.heap.size 28 _ _ HR9.out (size28 lO) (by simp [bcells, lO]) (bcells_all _) (by rfl) (by rfl) ?_; intro y9 hy9 hd9))
      refine bodyPost_ret (ret_arr rfl w.heap.size 28 _ 32 5 (by rfl) hy9 Try.underlying28 (size28 lO)) rfl ?_
      refine ⟨?_, ?_⟩
      · rw [HOE.out, ← HX.out]; rfl
      · exact H8.out.2.1.trans ((HO.out.2.2.below (B := w.heap.size) (by rintro k rfl; omega) H8.out.2.1.size).trans (hd9.below (by rintro k rfl; exact Nat.le_refl _) (Nat.le_trans H8.out.2.1.size HO.out.2.2.size)))

end Go.Proofs.Ytnmooepmpebepaa
