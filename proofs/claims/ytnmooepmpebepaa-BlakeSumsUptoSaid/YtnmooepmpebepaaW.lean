import Derived.Test.YtnmooepmpebepaaU
import Derived.Test.YtnmooepmpebepaaS
import Derived.Deep.RegionHeld3
import Derived.Deep.MidRow
namespace Go.Proofs.Ytnmooepmpebepaa
open Go.RowKit

theorem startS_at (i : Nat) (hi : i < 8) : startS (i : Int) = st iv i := by unfold startS; rw [if_pos (by omega)]; rfl
theorem pad_at (b : List Int) (_ : b.length ≤ 64) (j : Nat) : st (padS b) j = if j < b.length then st b j else 0 := by
  unfold padS st
  simp only [List.getD]
  by_cases h : j < b.length
  · rw [if_pos h, List.getElem?_append_left h]
  · rw [if_neg h, List.getElem?_append_right (by omega)]
    by_cases h2 : j - b.length < 64 - b.length
    · rw [List.getElem?_replicate, if_pos h2]; rfl
    · rw [List.getElem?_replicate, if_neg h2]; rfl
theorem st_drop (b : List Int) (o j : Nat) : st (b.drop o) j = st b (o + j) := by simp [st, List.getD, List.getElem?_drop]
theorem st_take (b : List Int) (n j : Nat) (hj : j < n) : st (b.take n) j = st b j := by simp [st, List.getD, hj]
theorem st_out (b : List Int) (j : Nat) (hj : b.length ≤ j) : st b j = 0 := by simp [st, List.getD, List.getElem?_eq_none hj]

theorem step_load_arr {P : Program} {ops : Array Oper} {o : Oper} {a : Act} {w : World} {K : Act → World → Prop} {Q : Exit → Act → World → Prop} {E : Prop} (hw : Region.wanted o (yielded ops a.tmps) = true) (ty : TypeId) (x : Operand) (ho : o.op = .load ty x)
    (g : Nat) (t : TypeId) (cs : Array Value) (h : w.heap[g]? = some (.cells cs t (0, 0))) (n : Nat) (e : TypeId) (hu : P.underlying ty = some (.array n e)) (hi : (P.info? ty).map (·.size) = some cs.size) (hx : a.eval x = .pointer (some ⟨g, 0, none⟩))
    (k : K (a.put o.dst (.agg cs)) w) : if Region.wanted o (yielded ops a.tmps) = true then Oper.wp P o a w K Q else E := by
  rw [if_pos hw]
  exact wp_load_row ty x ho g hx t cs (0, 0) _ h hu rfl hi k

theorem fullS_last (n k : Nat) (h : k = 0 ∨ 64 * k < n) (hl : n ≤ 64 * k + 64) : fullS n = k := by unfold fullS; omega
theorem w64_small (n : Nat) (h : n ≤ 4000) : w64 (n : Int) = (n : Int) := by rw [w64, wrap_u64]; omega
theorem last_digest (b : List Int) (k m : Nat) (h : k = 0 ∨ 64 * k < b.length) (hl : b.length ≤ 64 * k + 64) (hm : b.length - 64 * k = m) (hk : 64 * k ≤ b.length) (h3 : ¬ 3000 < b.length) : workS (chainS b k) (padS (b.drop (64 * k))) (64 * (k : Int) + (m : Int)) true = digestW b := by
  unfold digestW
  rw [fullS_last _ _ h hl, w64_small _ (by omega)]
  congr 1
  omega
theorem next_chain (b : List Int) (k : Nat) (h3 : ¬ 3000 < b.length) (hk : 64 * k ≤ b.length) : workS (chainS b k) ((b.drop (64 * k)).take 64) (64 * (k : Int) + 64) false = chainS b (k + 1) := by
  simp only [chainS]
  rw [w64_small _ (by omega)]
  congr 1
theorem range_below {w w' : World} {g : Nat} {cs : List Value} (h : w.rangeAt g 0 cs) (hb : Below w.heap.size w w') : w'.rangeAt g 0 cs := fun j v hv =>
  (hb.cell (p := ⟨g, 0 + j, none⟩) (World.block_lt_of_cell? _ _ (h j v hv))).trans (h j v hv)
theorem sum_one (w0 w : World) (u : Value) (b : List Int) (hr : ReadsB w0.heap.size w0 u b) (hb : Below w0.heap.size w0 w) (g : Nat) (cs : List Value) (hg : w.rangeAt g 0 cs) :
    Calls Try.prog 14 #[.slice (some ⟨w.heap.size, 0, none⟩) 1 1] (w.alloc (.cells #[u] 26)) fun e w' => e = .returned (.agg (bcells (sumS b)).toArray) ∧ w'.rangeAt g 0 cs ∧ Below w0.heap.size w0 w' := by
  refine (sum_any _ _ [b] (parts_val _ _ b w0.heap.size (hr.new hb (Nat.le_refl _))) (by simp)).mono ?_
  rintro e w2 ⟨rfl, hb2⟩
  have hb3 := (alloc_below w _).trans (hb2.mono (by simp))
  refine ⟨?_, range_below hg hb3, hb.trans (hb3.mono hb.size)⟩
  have hf : [b].flatten = b := by simp
  rw [hf]

def BlocksLoop (w : World) (b : List Int) (k : Nat) (wr : World) : Prop := (k = 0 ∨ 64 * k < b.length) ∧ Words wr w.heap.size 36 (chainS b k) ∧ Below w.heap.size w wr

set_option maxRecDepth 100000 in
set_option maxHeartbeats 8000000 in
theorem blocks_any (w : World) (v : Value) (b : List Int) (hr : ReadsB w.heap.size w v b) : Calls Try.prog 5 #[v] w (Holds w) := by
  have HR := Lib.hid hr
  have LV := Lib.hid (fun (w' : World) => lives_true w')
  obtain ⟨av, cv, rfl, hle, hcells⟩ := hr
  have HC := Lib.hid hcells
  have z36 := Lib.hid (zero_of_info zero36).1
  have z38 := Lib.hid (zero_of_info zero38).1
  have z28 := Lib.hid (zero_of_info zero28).1
  clear hcells
  go_enter Try.func5, Try.ntmps5
  go_wp2_with (first | (refine wpList_alloc_any (by rfl) 36 (by rfl) (wcells (List.replicate 8 0)).toArray z36.out ?_; intro w1 hw1 hc1 hz1))
  have H1 := Lib.hid (And.intro (show Words w1 w.heap.size 36 (List.replicate 8 0) from ⟨hw1⟩) (hc1.below (B := w.heap.size) (by simp) (Nat.le_refl _)))
  clear hw1 hc1
  go_loopw [4] (fun q wr => ∃ (i : Nat) (L : List Int), i ≤ 8 ∧ q = .int .i64 i ∧ Words wr w.heap.size 36 L ∧ L.length = 8 ∧ (∀ j, j < i → st L j = st iv j) ∧ Below w.heap.size w wr) (fun q _ => 8 - (intOf q).toNat)
  case atStart => exact ⟨0, _, by omega, rfl, H1.out.1, by simp, fun j hj => by omega, H1.out.2⟩
  case round =>
    obtain ⟨i, L, hi, rfl, hL, lL, hst, hbel⟩ := hrel
    have HL := Lib.hid (And.intro hL (And.intro hst hbel))
    clear hL hst hbel
    by_cases hi8 : i < 8
    · have e1 : decide ((i : Int) < 8) = true := by simp; omega
      have p0 : (0 : Int) ≤ (i : Int) := by omega
      have p1 : (i : Int) < 8 := by omega
      have hS := startS_at i hi8
      have ST := Lib.hid (fun (w : World) => start_any w i)
      rw [hS] at ST
      clear hS
      go_wp2_with fail
      refine (ST.out _).mono ?_
      rintro e w2 ⟨rfl, hb2⟩
      have H2 := Lib.hid (And.intro (HL.out.1.below hb2) (HL.out.2.2.trans (hb2.mono HL.out.2.2.size)))
      clear hb2
      go_wp2_with (first | (refine wpList_store_word0 (by rfl) (by rfl) (.tmp 20) (.tmp 19) rfl Try.size35 w.heap.size 36 L H2.out.1 i (by omega) (st iv i) (by rfl) (by rfl) ?_; intro w3 hw3 hc3))
      go_roundw
      case rel =>
        refine ⟨i + 1, _, by omega, by go_num, hw3, by rw [List.length_set]; exact lL, fun j hj => ?_, H2.out.2.trans (hc3.below (B := w.heap.size) (by rintro k rfl; exact Nat.le_refl _) H2.out.2.size)⟩
        by_cases e : j = i
        · subst e; exact st_set_self (by omega)
        · rw [st_set_ne (fun h => e h.symm)]; exact HL.out.2.1 j (by omega)
      case measure => simp [intOf]; omega
    · have e1 : decide ((i : Int) < 8) = false := by simp; omega
      have hLe : L = iv := st_ext (by rw [lL]; rfl) (fun j hj => HL.out.2.1 j (by omega))
      have hWL := HL.out.1
      rw [hLe] at hWL
      have c0 := hWL.cell 0 (by decide)
      have HW := Lib.hid hWL
      clear hLe hWL
      by_cases h3000 : 3000 < b.length
      · have e2 : decide ((3000 : Int) < (b.length : Int)) = true := by simp; omega
        go_wp2_with (first | (refine wpList_store_word0 (by rfl) (by rfl) (.tmp 24) (.tmp 23) rfl Try.size35 w.heap.size 36 iv HW.out 0 (by decide) (xr (st iv 0) 16842784) (by rfl) (by rfl) ?_; intro w3 hw3 hc3))
        have hb3 := HL.out.2.2.trans (hc3.below (B := w.heap.size) (by rintro k rfl; exact Nat.le_refl _) HL.out.2.2.size)
        refine (LV.out _).mono ?_
        rintro e w4 ⟨rfl, hb4⟩
        have H4 := Lib.hid (hb3.trans (hb4.mono hb3.size))
        clear hb3 hb4
        go_wp2
        go_ret
        exact ⟨rfl, H4.out⟩
      have e2 : decide ((3000 : Int) < (b.length : Int)) = false := by simp; omega
      go_wp2_with (first | (refine wpList_store_word0 (by rfl) (by rfl) (.tmp 24) (.tmp 23) rfl Try.size35 w.heap.size 36 iv HW.out 0 (by decide) (xr (st iv 0) 16842784) (by rfl) (by rfl) ?_; intro w3 hw3 hc3))
      have hb3 := HL.out.2.2.trans (hc3.below (B := w.heap.size) (by rintro k rfl; exact Nat.le_refl _) HL.out.2.2.size)
      have H3 := Lib.hid (show BlocksLoop w b 0 w3 from ⟨.inl rfl, hw3, hb3⟩)
      clear hw3 hc3 hb3 c0
      go_wp2_with fail
      go_loopw [6] (fun q wr => ∃ k : Nat, q = .int .i64 (64 * (k : Int)) ∧ BlocksLoop w b k wr) (fun q _ => 4000 - (intOf q).toNat)
      case atStart => exact ⟨0, rfl, H3.out⟩
      case round =>
        obtain ⟨k, rfl, hB⟩ := hrel
        obtain ⟨wo, hwo⟩ : ∃ x, x = wr := ⟨_, rfl⟩
        subst hwo
        have HBL := Lib.hid hB
        have hk64 : 64 * k ≤ b.length := by rcases hB.1 with h | h <;> omega
        have hszo := hB.2.2.size
        have hlt36 := hB.2.1.lt
        clear hB
        by_cases hlast : b.length ≤ 64 * k + 64
        · obtain ⟨m, hm⟩ : ∃ m, b.length - 64 * k = m := ⟨_, rfl⟩
          have hmi : (b.length : Int) - 64 * (k : Int) = (m : Int) := by omega
          have g1 : decide ((64 : Int) < (m : Int)) = false := by simp; omega
          have g2 : decide ((b.length : Int) ≤ 64 * (k : Int) + 64) = true := by simp; omega
          go_wp2_with (first | (refine wpList_alloc_any (by rfl) 38 (by rfl) (bcells (List.replicate 64 0)).toArray z38.out ?_; intro w5 hw5 hc5 hz5))
          have hne : w.heap.size ≠ wo.heap.size := Nat.ne_of_lt hlt36
          have hlt36' : w.heap.size < w5.heap.size := Nat.lt_of_lt_of_le hlt36 hc5.size
          have HBL := Lib.hid (show BlocksLoop w b k w5 from ⟨HBL.out.1, HBL.out.2.1.ch hc5 (by simp), HBL.out.2.2.trans (hc5.below (B := w.heap.size) (by simp) hszo)⟩)
          have H5 := Lib.hid (And.intro hw5 (HBL.out.2.2))
          replace hlt36 := hlt36'
          clear hw5 hc5 hlt36' hmi
          go_loopw [9] (fun q wz => ∃ (i : Nat) (O : List Int), i ≤ m ∧ q = .int .i64 i ∧ wz.heap[wo.heap.size]? = some (.cells (bcells O).toArray 38 (0, 0)) ∧ O.length = 64 ∧ (∀ j, j < i → st O j = st b (64 * k + j)) ∧ (∀ j, i ≤ j → st O j = 0) ∧ Ch (fun x => x = wo.heap.size) w5 wz) (fun q _ => m - (intOf q).toNat)
          case atStart => exact ⟨0, List.replicate 64 0, Nat.zero_le _, rfl, H5.out.1, by simp, fun j hj => by omega, fun j _ => by simp only [st, List.getD, List.getElem?_replicate]; split <;> rfl, Ch.refl _ _⟩
          case round =>
            obtain ⟨i, O, hi, rfl, hO, lO, hO1, hO2, hch⟩ := hrel
            have HO := Lib.hid (And.intro hO (And.intro hO1 (And.intro hO2 hch)))
            clear hO hO1 hO2 hch
            by_cases hik : i < m
            · have f1 : decide ((i : Int) < (m : Int)) = true := by simp; omega
              have p0 : (0 : Int) ≤ (i : Int) := by omega
              have p1 : (i : Int) < 64 := by omega
              obtain ⟨qb, off, rfl, hqb, hqlt, hcc⟩ := HC.out (by omega)
              have hbw : Below w.heap.size w wr := H5.out.2.trans (HO.out.2.2.2.below (B := w.heap.size) (by rintro x rfl; exact hszo) H5.out.2.size)
              have cb := (hbw.cell (p := ⟨qb, off + (64 * k + i), none⟩) hqlt).trans (hcc (64 * k + i) (by omega))
              have s0 : (0 : Int) ≤ 64 * (k : Int) + (i : Int) := by omega
              have s1 : 64 * (k : Int) + (i : Int) < (b.length : Int) := by omega
              have s2 : (64 * (k : Int) + (i : Int)).toNat = 64 * k + i := by omega
              have HB := Lib.hid hbw
              clear hcc hbw
              go_wp2_with (first | (refine wpList_store_cell (by rfl) (by rfl) 5 (.tmp 49) (.tmp 48) (by rfl) Try.size5 wo.heap.size 38 (bcells O) HO.out.1 i (by rw [bcells_length, lO]; omega) (.int .u8 (st b (64 * k + i))) (by rfl) (by rfl) (by rfl) ?_; intro w6 hw6 hc6; rw [bcells_set] at hw6))
              clear s2
              go_roundw
              case rel =>
                refine ⟨i + 1, _, by omega, by go_num, hw6, by rw [List.length_set]; exact lO, fun j hj => ?_, fun j hj => ?_, HO.out.2.2.2.trans hc6 (fun _ _ h => h)⟩
                · by_cases e : j = i
                  · subst e; exact st_set_self (by omega)
                  · rw [st_set_ne (fun h => e h.symm)]; exact HO.out.2.1 j (by omega)
                · rw [st_set_ne (by omega)]; exact HO.out.2.2.1 j (by omega)
              case measure => simp [intOf]; omega
            · have f1 : decide ((i : Int) < (m : Int)) = false := by simp; omega
              have hOe : O = padS (b.drop (64 * k)) := by
                refine st_ext ?_ (fun j hj => ?_)
                · rw [lO, padS_length _ (by rw [List.length_drop]; omega)]
                · rw [pad_at _ (by rw [List.length_drop]; omega), List.length_drop]
                  split
                  · rw [HO.out.2.1 j (by omega), st_drop]
                  · exact HO.out.2.2.1 j (by omega)
              have hck := (HO.out.2.2.2.block w.heap.size hlt36 (by omega)).trans HBL.out.2.1.heap
              have lC := chainS_length b k
              have hbw : Below w.heap.size w wr := H5.out.2.trans (HO.out.2.2.2.below (B := w.heap.size) (by rintro x rfl; exact hszo) H5.out.2.size)
              have HK := Lib.hid (And.intro hck (And.intro HO.out.1 (And.intro hbw hOe)))
              clear hck hbw hOe
              go_wp2_with (first | (refine wpList_load_arr (by rfl) 36 (.tmp 3) (by rfl) w.heap.size 36 _ HK.out.1 8 35 Try.underlying36 (size36 lC) (by rfl) ?_) | (refine wpList_load_arr (by rfl) 38 (.tmp 7) (by rfl) wo.heap.size 38 _ HK.out.2.1 64 5 Try.underlying38 (size38 lO) (by rfl) ?_))
              have hdg := last_digest b k m HBL.out.1 hlast hm hk64 h3000
              have hOe := HK.out.2.2.2
              refine (bwork_any _ (chainS b k) O lC lO _ true).mono ?_
              rw [hOe, hdg]
              have lX : (digestW b).length = 8 := by rw [← hdg]; exact workS_length _ _ _ _
              have hSum : sumS b = outB (digestW b) := rfl
              obtain ⟨X, hX⟩ : ∃ X, digestW b = X := ⟨_, rfl⟩
              rw [hX] at lX hSum
              rw [hX]
              rintro e w7 ⟨rfl, hb7⟩
              have hx7 := (hb7.block _ (Array.getElem?_eq_some_iff.1 HK.out.1).1).trans HK.out.1
              have H7 := Lib.hid (And.intro hx7 (HK.out.2.2.1.trans (hb7.mono HK.out.2.2.1.size)))
              have HSM := Lib.hid hSum
              clear hx7 hb7 hdg hOe hX hSum
              go_wp2_with (first | (refine wpList_store_arr (by rfl) 36 (.tmp 3) (.tmp 61) (by rfl) w.heap.size 36 _ (wcells X).toArray H7.out.1 (size36 lX) (by simp [wcells, lX, lC]) (wcells_one X) (by rfl) (by rfl) ?_; intro w8 hw8 hc8) | (refine wpList_alloc_any (by rfl) 28 (by rfl) (bcells (List.replicate 32 0)).toArray z28.out ?_; intro w9 hw9 hc9 hz9))
              have hb8 := H7.out.2.trans (hc8.below (B := w.heap.size) (by rintro x rfl; exact Nat.le_refl _) H7.out.2.size)
              have hl8 := (Array.getElem?_eq_some_iff.1 hw8).1
              have hx9 := (hc9.block _ hl8 (by simp)).trans hw8
              have H9 := Lib.hid (And.intro hx9 (And.intro hw9 (hb8.trans (hc9.below (B := w.heap.size) (by simp) hb8.size))))
              obtain ⟨g28, hg28⟩ : ∃ x, w8.heap.size = x := ⟨_, rfl⟩
              have hlt28 : w.heap.size < g28 := by omega
              rw [hg28] at H9
              rw [hg28]
              clear hw8 hc8 hb8 hx9 hw9 hc9 hz9 hg28 hl8
              go_loopw [12] (fun q wz => ∃ (i : Nat) (O : List Int), i ≤ 32 ∧ q = .int .i64 i ∧ wz.heap[g28]? = some (.cells (bcells O).toArray 28 (0, 0)) ∧ O.length = 32 ∧ (∀ j, j < i → st O j = st (outB X) j) ∧ Ch (fun x => x = g28) w9 wz) (fun q _ => 32 - (intOf q).toNat)
              case atStart => exact ⟨0, List.replicate 32 0, Nat.zero_le _, rfl, H9.out.2.1, by simp, fun j hj => by omega, Ch.refl _ _⟩
              case round =>
                obtain ⟨i2, O2, hi2, rfl, hO2, lO2, hO2d, hch2⟩ := hrel
                have HP := Lib.hid (And.intro hO2 (And.intro hO2d hch2))
                clear hO2 hO2d hch2
                by_cases hik2 : i2 < 32
                · have f2 : decide ((i2 : Int) < 32) = true := by simp; omega
                  obtain ⟨q2, hq2⟩ : ∃ q2, i2 / 4 = q2 := ⟨_, rfl⟩
                  have q2lt : q2 < 8 := by omega
                  have t1 : Int.tdiv (i2 : Int) 4 = (q2 : Int) := by rw [Int.tdiv_eq_ediv_of_nonneg (by omega)]; omega
                  have r0 : (0 : Int) ≤ (q2 : Int) := by omega
                  have r1 : (q2 : Int) < 8 := by omega
                  have r2 : (0 : Int) ≤ (i2 : Int) := by omega
                  have r3 : (i2 : Int) < 32 := by omega
                  have hxz := (HP.out.2.2.block w.heap.size (Array.getElem?_eq_some_iff.1 H9.out.1).1 (by omega)).trans H9.out.1
                  have cx := Words.cell (L := X) ⟨hxz⟩ q2 (by omega)
                  clear hxz
                  have hoB := outB_at X i2 hik2
                  rw [hq2] at hoB
                  have hj4 : i2 % 4 = 0 ∨ i2 % 4 = 1 ∨ i2 % 4 = 2 ∨ i2 % 4 = 3 := by omega
                  rcases hj4 with hj | hj | hj | hj
                  · have t2 : Int.tmod (i2 : Int) 4 = 0 := by rw [Int.tmod_eq_emod_of_nonneg (by omega)]; omega
                    rw [hj] at hoB
                    go_wp2_with (first | (refine wpList_store_cell (by rfl) (by rfl) 5 (.tmp 77) (.tmp 76) (by rfl) Try.size5 g28 28 (bcells O2) HP.out.1 i2 (by rw [bcells_length, lO2]; omega) (.int .u8 (IntKind.u8.wrap (st X q2))) (by rfl) (by rfl) (by rfl) ?_; intro w6 hw6 hc6; rw [bcells_set] at hw6))
                    go_roundw
                    case rel =>
                      refine ⟨i2 + 1, _, by omega, by go_num, hw6, by rw [List.length_set]; exact lO2, fun j hj => ?_, HP.out.2.2.trans hc6 (fun _ _ h => h)⟩
                      by_cases e : j = i2
                      · subst e; rw [st_set_self (by omega), hoB]; simp
                      · rw [st_set_ne (fun h => e h.symm)]; exact HP.out.2.1 j (by omega)
                    case measure => simp [intOf]; omega
                  · have t2 : Int.tmod (i2 : Int) 4 = 1 := by rw [Int.tmod_eq_emod_of_nonneg (by omega)]; omega
                    rw [hj] at hoB
                    go_wp2_with (first | (refine wpList_store_cell (by rfl) (by rfl) 5 (.tmp 77) (.tmp 76) (by rfl) Try.size5 g28 28 (bcells O2) HP.out.1 i2 (by rw [bcells_length, lO2]; omega) (.int .u8 (IntKind.u8.wrap (st X q2 / 256))) (by rfl) (by rfl) (by rfl) ?_; intro w6 hw6 hc6; rw [bcells_set] at hw6))
                    go_roundw
                    case rel =>
                      refine ⟨i2 + 1, _, by omega, by go_num, hw6, by rw [List.length_set]; exact lO2, fun j hj => ?_, HP.out.2.2.trans hc6 (fun _ _ h => h)⟩
                      by_cases e : j = i2
                      · subst e; exact (st_set_self (by omega)).trans hoB.symm
                      · rw [st_set_ne (fun h => e h.symm)]; exact HP.out.2.1 j (by omega)
                    case measure => simp [intOf]; omega
                  · have t2 : Int.tmod (i2 : Int) 4 = 2 := by rw [Int.tmod_eq_emod_of_nonneg (by omega)]; omega
                    rw [hj] at hoB
                    go_wp2_with (first | (refine wpList_store_cell (by rfl) (by rfl) 5 (.tmp 77) (.tmp 76) (by rfl) Try.size5 g28 28 (bcells O2) HP.out.1 i2 (by rw [bcells_length, lO2]; omega) (.int .u8 (IntKind.u8.wrap (st X q2 / 65536))) (by rfl) (by rfl) (by rfl) ?_; intro w6 hw6 hc6; rw [bcells_set] at hw6))
                    go_roundw
                    case rel =>
                      refine ⟨i2 + 1, _, by omega, by go_num, hw6, by rw [List.length_set]; exact lO2, fun j hj => ?_, HP.out.2.2.trans hc6 (fun _ _ h => h)⟩
                      by_cases e : j = i2
                      · subst e; exact (st_set_self (by omega)).trans hoB.symm
                      · rw [st_set_ne (fun h => e h.symm)]; exact HP.out.2.1 j (by omega)
                    case measure => simp [intOf]; omega
                  · have t2 : Int.tmod (i2 : Int) 4 = 3 := by rw [Int.tmod_eq_emod_of_nonneg (by omega)]; omega
                    rw [hj] at hoB
                    go_wp2_with (first | (refine wpList_store_cell (by rfl) (by rfl) 5 (.tmp 77) (.tmp 76) (by rfl) Try.size5 g28 28 (bcells O2) HP.out.1 i2 (by rw [bcells_length, lO2]; omega) (.int .u8 (IntKind.u8.wrap (st X q2 / 16777216))) (by rfl) (by rfl) (by rfl) ?_; intro w6 hw6 hc6; rw [bcells_set] at hw6))
                    go_roundw
                    case rel =>
                      refine ⟨i2 + 1, _, by omega, by go_num, hw6, by rw [List.length_set]; exact lO2, fun j hj => ?_, HP.out.2.2.trans hc6 (fun _ _ h => h)⟩
                      by_cases e : j = i2
                      · subst e; exact (st_set_self (by omega)).trans hoB.symm
                      · rw [st_set_ne (fun h => e h.symm)]; exact HP.out.2.1 j (by omega)
                    case measure => simp [intOf]; omega
                · have f2 : decide ((i2 : Int) < 32) = false := by simp; omega
                  have lS : (sumS b).length = 32 := outB_length _
                  have hOS : O2 = sumS b := by
                    rw [HSM.out]
                    exact st_ext (by rw [lO2, outB_length]) (fun j hj => HP.out.2.1 j (by omega))
                  have hOO := HP.out.1
                  rw [hOS] at hOO
                  have hb10 : Below w.heap.size w wr := H9.out.2.2.trans (HP.out.2.2.below (B := w.heap.size) (by rintro x rfl; omega) H9.out.2.2.size)
                  obtain ⟨D, hD⟩ : ∃ D, sumS b = D := ⟨_, rfl⟩
                  rw [hD] at hOO lS
                  have HDD := Lib.hid (And.intro hD (And.intro hOO hb10))
                  have qE := fun (w : World) => eq28 D lS w
                  clear hOS hOO hb10 hD
                  obtain ⟨w10, hw10⟩ : ∃ x, x = wr := ⟨_, rfl⟩
                  subst hw10
                  have hu28 := Try.underlying28
                  have hi28 : (Try.prog.info? 28).map (·.size) = some (bcells D).length := by rw [bcells_length, lS]; exact Try.size28
                  have hr10 := range_of HDD.out.2.1
                  go_upto_region 28 with fail
                  have C11 : Hid (Calls Try.prog 11 #[] w10.drew fun e w' => e = .returned (.bool true) ∧ w'.rangeAt g28 0 (bcells D) ∧ Below w.heap.size w w') := by
                    refine Lib.hid ((LV.out _).mono ?_)
                    rintro e w11 ⟨rfl, hb11⟩
                    have hb10 : Below w10.heap.size w10 w11 := (drewN_below w10 w10.heap.size 1 (Nat.le_refl _)).trans hb11
                    exact ⟨rfl, range_below hr10 hb10, HDD.out.2.2.trans (hb10.mono HDD.out.2.2.size)⟩
                  have C14 := Lib.hid (fun (w' : World) => sum_one w w' _ b HR.out)
                  rw [HDD.out.1] at C14
                  go_region_held3 (fun w' => w'.rangeAt g28 0 (bcells D)) (first | exact hr12 | exact hr11 | exact World.rangeAt_alloc hr11 _ | exact hr10) (first | (go_at_call 11; refine C11.out.mono ?_; rintro e w11 ⟨rfl, hr11, hb11⟩) | (go_at_call 14; refine (C14.out _ hb11 g28 (bcells D) hr11).mono ?_; rintro e w12 ⟨rfl, hr12, hb12⟩))
                  go_wp2
                  go_ret
                  exact ⟨rfl, hb12⟩
        · have g2 : decide ((b.length : Int) ≤ 64 * (k : Int) + 64) = false := by simp; omega
          have g1 : decide ((64 : Int) < (b.length : Int) - 64 * (k : Int)) = true := by simp; omega
          go_wp2_with (first | (refine wpList_alloc_any (by rfl) 38 (by rfl) (bcells (List.replicate 64 0)).toArray z38.out ?_; intro w5 hw5 hc5 hz5))
          have hne : w.heap.size ≠ wo.heap.size := Nat.ne_of_lt hlt36
          have hlt36' : w.heap.size < w5.heap.size := Nat.lt_of_lt_of_le hlt36 hc5.size
          have HBL := Lib.hid (show BlocksLoop w b k w5 from ⟨HBL.out.1, HBL.out.2.1.ch hc5 (by simp), HBL.out.2.2.trans (hc5.below (B := w.heap.size) (by simp) hszo)⟩)
          have H5 := Lib.hid (And.intro hw5 (HBL.out.2.2))
          replace hlt36 := hlt36'
          clear hw5 hc5 hlt36'
          go_loopw [9] (fun q wz => ∃ (i : Nat) (O : List Int), i ≤ 64 ∧ q = .int .i64 i ∧ wz.heap[wo.heap.size]? = some (.cells (bcells O).toArray 38 (0, 0)) ∧ O.length = 64 ∧ (∀ j, j < i → st O j = st b (64 * k + j)) ∧ Ch (fun x => x = wo.heap.size) w5 wz) (fun q _ => 64 - (intOf q).toNat)
          case atStart => exact ⟨0, List.replicate 64 0, Nat.zero_le _, rfl, H5.out.1, by simp, fun j hj => by omega, Ch.refl _ _⟩
          case round =>
            obtain ⟨i, O, hi, rfl, hO, lO, hO1, hch⟩ := hrel
            have HO := Lib.hid (And.intro hO (And.intro hO1 hch))
            clear hO hO1 hch
            by_cases hik : i < 64
            · have f1 : decide ((i : Int) < 64) = true := by simp; omega
              have p0 : (0 : Int) ≤ (i : Int) := by omega
              have p1 : (i : Int) < 64 := by omega
              obtain ⟨qb, off, rfl, hqb, hqlt, hcc⟩ := HC.out (by omega)
              have hbw : Below w.heap.size w wr := H5.out.2.trans (HO.out.2.2.below (B := w.heap.size) (by rintro x rfl; exact hszo) H5.out.2.size)
              have cb := (hbw.cell (p := ⟨qb, off + (64 * k + i), none⟩) hqlt).trans (hcc (64 * k + i) (by omega))
              have s0 : (0 : Int) ≤ 64 * (k : Int) + (i : Int) := by omega
              have s1 : 64 * (k : Int) + (i : Int) < (b.length : Int) := by omega
              have s2 : (64 * (k : Int) + (i : Int)).toNat = 64 * k + i := by omega
              clear hcc hbw
              go_wp2_with (first | (refine wpList_store_cell (by rfl) (by rfl) 5 (.tmp 49) (.tmp 48) (by rfl) Try.size5 wo.heap.size 38 (bcells O) HO.out.1 i (by rw [bcells_length, lO]; omega) (.int .u8 (st b (64 * k + i))) (by rfl) (by rfl) (by rfl) ?_; intro w6 hw6 hc6; rw [bcells_set] at hw6))
              clear s2
              go_roundw
              case rel =>
                refine ⟨i + 1, _, by omega, by go_num, hw6, by rw [List.length_set]; exact lO, fun j hj => ?_, HO.out.2.2.trans hc6 (fun _ _ h => h)⟩
                by_cases e : j = i
                · subst e; exact st_set_self (by omega)
                · rw [st_set_ne (fun h => e h.symm)]; exact HO.out.2.1 j (by omega)
              case measure => simp [intOf]; omega
            · have f1 : decide ((i : Int) < 64) = false := by simp; omega
              have hOe : O = (b.drop (64 * k)).take 64 := by
                refine st_ext ?_ (fun j hj => ?_)
                · rw [lO, List.length_take, List.length_drop]; omega
                · rw [st_take _ _ _ (by omega), st_drop]
                  exact HO.out.2.1 j (by omega)
              have hck := (HO.out.2.2.block w.heap.size hlt36 (by omega)).trans HBL.out.2.1.heap
              have lC := chainS_length b k
              have hbw : Below w.heap.size w wr := H5.out.2.trans (HO.out.2.2.below (B := w.heap.size) (by rintro x rfl; exact hszo) H5.out.2.size)
              have HK := Lib.hid (And.intro hck (And.intro HO.out.1 (And.intro hbw hOe)))
              clear hck hbw hOe
              go_wp2_with (first | (refine wpList_load_arr (by rfl) 36 (.tmp 3) (by rfl) w.heap.size 36 _ HK.out.1 8 35 Try.underlying36 (size36 lC) (by rfl) ?_) | (refine wpList_load_arr (by rfl) 38 (.tmp 7) (by rfl) wo.heap.size 38 _ HK.out.2.1 64 5 Try.underlying38 (size38 lO) (by rfl) ?_))
              have hdg := next_chain b k h3000 hk64
              have hOe := HK.out.2.2.2
              refine (bwork_any _ (chainS b k) O lC lO _ false).mono ?_
              rw [hOe, hdg]
              have lX := chainS_length b (k + 1)
              obtain ⟨X, hX⟩ : ∃ X, chainS b (k + 1) = X := ⟨_, rfl⟩
              rw [hX] at lX
              rw [hX]
              rintro e w7 ⟨rfl, hb7⟩
              have hx7 := (hb7.block _ (Array.getElem?_eq_some_iff.1 HK.out.1).1).trans HK.out.1
              have H7 := Lib.hid (And.intro hx7 (HK.out.2.2.1.trans (hb7.mono HK.out.2.2.1.size)))
              have HXX := Lib.hid hX
              clear hx7 hb7 hdg hOe hX
              go_wp2_with (first | (refine wpList_store_arr (by rfl) 36 (.tmp 3) (.tmp 61) (by rfl) w.heap.size 36 _ (wcells X).toArray H7.out.1 (size36 lX) (by simp [wcells, lX, lC]) (wcells_one X) (by rfl) (by rfl) ?_; intro w8 hw8 hc8))
              have hb8 := H7.out.2.trans (hc8.below (B := w.heap.size) (by rintro x rfl; exact Nat.le_refl _) H7.out.2.size)
              go_roundw
              case rel => exact ⟨k + 1, by go_num, .inr (by omega), ⟨by rw [HXX.out]; exact hw8⟩, hb8⟩
              case measure => simp [intOf]; omega

end Go.Proofs.Ytnmooepmpebepaa
