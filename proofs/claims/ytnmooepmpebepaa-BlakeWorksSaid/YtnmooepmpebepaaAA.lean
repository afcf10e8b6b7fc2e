import Derived.Test.YtnmooepmpebepaaZ
import Derived.Test.YtnmooepmpebepaaY
namespace Go.Proofs.Ytnmooepmpebepaa
open Go.RowKit

theorem xr_val (x y : Int) : xr x y = (((BitVec.ofInt 32 x ^^^ BitVec.ofInt 32 y).toNat : Nat) : Int) := by
  unfold xr bits
  show IntKind.u32.wrap (((BitVec.ofInt 32 x ^^^ BitVec.ofInt 32 y).toNat : Nat) : Int) = _
  rw [wrap_u32]
  have := (BitVec.ofInt 32 x ^^^ BitVec.ofInt 32 y).isLt
  omega
theorem xr_assoc (x y z : Int) : xr (xr x y) z = xr x (xr y z) := by
  have k : ∀ b : BitVec 32, BitVec.ofInt 32 ((b.toNat : Nat) : Int) = b := fun b => by simp
  rw [xr_val (xr x y) z, xr_val x y, xr_val x (xr y z), xr_val y z, k, k, BitVec.xor_assoc]

theorem tmod4 (i c d : Nat) (h : (i + c) % 4 = d) : ((i : Int) + (c : Int)).tmod 4 = (d : Int) := by
  rw [Int.tmod_eq_emod_of_nonneg (by omega)]; omega

theorem wrap_add4 (c d : Nat) (hc : c ≤ 12) (hd : d < 4) : IntKind.i64.wrap ((c : Int) + (d : Int)) = (c : Int) + (d : Int) := IntWalk.i64_in _ (by omega)

/-- What lies in memory in the document's Work: the words that came in, the result, the message, the sixteen words. -/
structure RMem (w : World) (g1 g2 g3 : Nat) (H M V : List Int) (wr : World) : Prop where
  ord : w.heap.size < g1 ∧ g1 < g2 ∧ g2 < g3
  h : Words wr w.heap.size 36 H
  res : Words wr g1 36 (List.replicate 8 0)
  m : Words wr g2 42 M
  v : Words wr g3 42 V
  below : Below w.heap.size w wr
section
variable {w wr w' : World} {g1 g2 g3 : Nat} {H M V L : List Int}
theorem RMem.new (h : RMem w g1 g2 g3 H M V wr) (c : Ch (fun _ => False) wr w') : RMem w g1 g2 g3 H M V w' :=
  ⟨h.ord, h.h.ch c (by simp), h.res.ch c (by simp), h.m.ch c (by simp), h.v.ch c (by simp), h.below.trans (c.below (by simp) h.below.size)⟩
theorem RMem.drewN (h : RMem w g1 g2 g3 H M V wr) (n : Nat) : RMem w g1 g2 g3 H M V (wr.drewN n) := h.new ((Ch.refl _ _).drewN n)
theorem RMem.setM (h : RMem w g1 g2 g3 H M V wr) (k : Words w' g2 42 L) (c : Ch (fun x => x = g2) wr w') : RMem w g1 g2 g3 H L V w' := by
  have o := h.ord
  exact ⟨h.ord, h.h.ch c (by omega), h.res.ch c (by omega), k, h.v.ch c (by omega), h.below.trans (c.below (by rintro i rfl; omega) h.below.size)⟩
theorem RMem.setV (h : RMem w g1 g2 g3 H M V wr) (k : Words w' g3 42 L) (c : Ch (fun x => x = g3) wr w') : RMem w g1 g2 g3 H M L w' := by
  have o := h.ord
  exact ⟨h.ord, h.h.ch c (by omega), h.res.ch c (by omega), h.m.ch c (by omega), k, h.below.trans (c.below (by rintro i rfl; omega) h.below.size)⟩
theorem RMem.setH (h : RMem w g1 g2 g3 H M V wr) (k : Words w' w.heap.size 36 L) (c : Ch (fun x => x = w.heap.size) wr w') : RMem w g1 g2 g3 L M V w' := by
  have o := h.ord
  exact ⟨h.ord, k, h.res.ch c (by omega), h.m.ch c (by omega), h.v.ch c (by omega), h.below.trans (c.below (by rintro i rfl; omega) h.below.size)⟩
end
/-- .. and the table of orders. -/
structure RTab (w : World) (g1 g2 g3 gT : Nat) (H M V : List Int) (wr : World) : Prop where
  mem : RMem w g1 g2 g3 H M V wr
  lt : g3 < gT
  tab : wr.heap[gT]? = some (.cells (icells sig.flatten).toArray 62 (0, 0))
section
variable {w wr w' : World} {g1 g2 g3 gT : Nat} {H M V L : List Int}
theorem RTab.new (h : RTab w g1 g2 g3 gT H M V wr) (c : Ch (fun _ => False) wr w') : RTab w g1 g2 g3 gT H M V w' :=
  ⟨h.mem.new c, h.lt, (c.block gT (Array.getElem?_eq_some_iff.1 h.tab).1 (by simp)).trans h.tab⟩
theorem RTab.setV (h : RTab w g1 g2 g3 gT H M V wr) (k : Words w' g3 42 L) (c : Ch (fun x => x = g3) wr w') : RTab w g1 g2 g3 gT H M L w' :=
  ⟨h.mem.setV k c, h.lt, (c.block gT (Array.getElem?_eq_some_iff.1 h.tab).1 (by have := h.lt; omega)).trans h.tab⟩
end
/-- .. and one order. -/
structure RRow (w : World) (g1 g2 g3 gT gS : Nat) (S : List Nat) (H M V : List Int) (wr : World) : Prop where
  t : RTab w g1 g2 g3 gT H M V wr
  lt : gT < gS
  row : wr.heap[gS]? = some (.cells (icells S).toArray 61 (0, 0))
section
variable {w wr w' : World} {g1 g2 g3 gT gS : Nat} {S : List Nat} {H M V L : List Int}
theorem RRow.new (h : RRow w g1 g2 g3 gT gS S H M V wr) (c : Ch (fun _ => False) wr w') : RRow w g1 g2 g3 gT gS S H M V w' :=
  ⟨h.t.new c, h.lt, (c.block gS (Array.getElem?_eq_some_iff.1 h.row).1 (by simp)).trans h.row⟩
theorem RRow.drewN (h : RRow w g1 g2 g3 gT gS S H M V wr) (n : Nat) : RRow w g1 g2 g3 gT gS S H M V (wr.drewN n) := h.new ((Ch.refl _ _).drewN n)
theorem RRow.setV (h : RRow w g1 g2 g3 gT gS S H M V wr) (k : Words w' g3 42 L) (c : Ch (fun x => x = g3) wr w') : RRow w g1 g2 g3 gT gS S H M L w' :=
  ⟨h.t.setV k c, h.lt, (c.block gS (Array.getElem?_eq_some_iff.1 h.row).1 (by have := h.lt; have := h.t.lt; omega)).trans h.row⟩
end

set_option maxRecDepth 100000 in
set_option maxHeartbeats 16000000 in
theorem rwork_any (w : World) (H : List Int) (hH : H.length = 8) (gb ob cap : Nat) (B : List Int) (hb : Bytes w gb ob B) (hB : B.length = 64) (t : Int) (last : Bool) :
    Calls Try.prog 21 #[.agg (wcells H).toArray, .slice (some ⟨gb, ob, none⟩) 64 cap, .int .u64 t, .bool last] w (ValEnd w (workS H B t last)) := by
  have HB := Lib.hid (And.intro hb hB)
  have z36 := Lib.hid (zero_of_info zero36).1
  have z42 := Lib.hid (zero_of_info zero42).1
  have z61 := Lib.hid (zero_of_info zero61).1
  have z62 := Lib.hid (zero_of_info zero62).1
  have o62 := Lib.hid (icells_one sig.flatten)
  have hu42 := Try.underlying42
  clear hb
  go_enter Try.func21, Try.ntmps21
  go_wp2_with (first | (refine wpList_alloc_any (w := w3) (by rfl) 42 (by rfl) (wcells (List.replicate 16 0)).toArray z42.out ?_; intro w4 hw4 hc4 hz4) | (refine wpList_alloc_any (w := w2) (by rfl) 42 (by rfl) (wcells (List.replicate 16 0)).toArray z42.out ?_; intro w3 hw3 hc3 hz3) | (refine wpList_alloc_any (w := w1) (by rfl) 36 (by rfl) (wcells (List.replicate 8 0)).toArray z36.out ?_; intro w2 hw2 hc2 hz2) | (refine wpList_box_any (by rfl) 36 (.tmp 0) (by rfl) _ (wcells H).toArray (by rfl) (by rfl) ?_; intro w1 hw1 hc1))
  have hM0 : RMem w w1.heap.size w2.heap.size w3.heap.size H (List.replicate 16 0) (List.replicate 16 0) w4 :=
    ⟨⟨(Array.getElem?_eq_some_iff.1 hw1).1, hz2, hz3⟩, (((⟨hw1⟩ : Words w1 _ 36 H).ch hc2 (by simp)).ch hc3 (by simp)).ch hc4 (by simp), ((⟨hw2⟩ : Words w2 _ 36 (List.replicate 8 0)).ch hc3 (by simp)).ch hc4 (by simp), (⟨hw3⟩ : Words w3 _ 42 (List.replicate 16 0)).ch hc4 (by simp), ⟨hw4⟩,
      (((hc1.trans hc2 (fun _ _ h => h)).trans hc3 (fun _ _ h => h)).trans hc4 (fun _ _ h => h)).below (by simp) (Nat.le_refl _)⟩
  clear hw1 hc1 hw2 hc2 hz2 hw3 hc3 hz3 hw4 hc4 hz4
  generalize w1.heap.size = g1 at hM0 ⊢
  generalize w2.heap.size = g2 at hM0 ⊢
  generalize w3.heap.size = g3 at hM0 ⊢
  have HM0 := Lib.hid hM0
  clear hM0
  go_loopw [11] (fun q wr => ∃ (i : Nat) (L : List Int), q = .int .i64 i ∧ i ≤ 16 ∧ RMem w g1 g2 g3 H L (List.replicate 16 0) wr ∧ L.length = 16 ∧ ∀ j, j < i → st L j = st (mS B) j) (fun q _ => 16 - (intOf q).toNat)
  case atStart => exact ⟨0, List.replicate 16 0, rfl, by omega, HM0.out, rfl, fun j hj => by omega⟩
  case round =>
    obtain ⟨i, L, rfl, hi, hR, lL, hdn⟩ := hrel
    have HR := Lib.hid (And.intro hR (And.intro lL hdn))
    clear hR hdn
    by_cases hi16 : i < 16
    · as_aux_lemma =>
      have e0 : decide ((i : Int) < 16) = true := by simp; omega
      have p0 : (0 : Int) ≤ (i : Int) := by omega
      have p1 : (i : Int) < 16 := by omega
      have hbr := HB.out.1.ch (Ch.of_below (F := fun _ => False) HR.out.1.below) (by simp)
      have c0 := hbr.2 (4 * i) (by have := HB.out.2; omega)
      have c1 := hbr.2 (4 * i + 1) (by have := HB.out.2; omega)
      have c2 := hbr.2 (4 * i + 2) (by have := HB.out.2; omega)
      have c3 := hbr.2 (4 * i + 3) (by have := HB.out.2; omega)
      have r0 : (0 : Int) ≤ 4 * (i : Int) := by omega
      have r1 : 4 * (i : Int) < 64 := by omega
      have r2 : (0 : Int) ≤ 4 * (i : Int) + 1 := by omega
      have r3 : 4 * (i : Int) + 1 < 64 := by omega
      have r4 : (0 : Int) ≤ 4 * (i : Int) + 2 := by omega
      have r5 : 4 * (i : Int) + 2 < 64 := by omega
      have r6 : (0 : Int) ≤ 4 * (i : Int) + 3 := by omega
      have r7 : 4 * (i : Int) + 3 < 64 := by omega
      have t0 : (4 * (i : Int)).toNat = 4 * i := by omega
      have t1 : (4 * (i : Int) + 1).toNat = 4 * i + 1 := by omega
      have t2 : (4 * (i : Int) + 2).toNat = 4 * i + 2 := by omega
      have t3 : (4 * (i : Int) + 3).toNat = 4 * i + 3 := by omega
      have s0 : IntKind.i64.wrap (4 * (i : Int)) = 4 * (i : Int) := IntWalk.i64_in _ (by omega)
      have s1 : IntKind.i64.wrap (4 * (i : Int) + 1) = 4 * (i : Int) + 1 := IntWalk.i64_in _ (by omega)
      have s2 : IntKind.i64.wrap (4 * (i : Int) + 2) = 4 * (i : Int) + 2 := IntWalk.i64_in _ (by omega)
      have s3 : IntKind.i64.wrap (4 * (i : Int) + 3) = 4 * (i : Int) + 3 := IntWalk.i64_in _ (by omega)
      clear hbr
      go_wp2_with fail
      go_still_tail 35, (by kernel_rfl)
      clear c0 c1 c2 c3 t0 t1 t2 t3
      refine wpList_store_word0 (by rfl) (by rfl) _ _ rfl Try.size35 g2 42 L (HR.out.1.m.drewN _) i (by rw [HR.out.2.1]; exact hi16) (st (mS B) i) (by rfl) (by rw [mS_at B i hi16]; rfl) ?_
      intro w2 hw2 hc2
      go_wp2_with fail
      go_roundw
      case rel =>
        refine ⟨i + 1, L.set i (st (mS B) i), by go_num, by omega, (HR.out.1.drewN 1).setM hw2 hc2, by rw [List.length_set]; exact HR.out.2.1, fun j hj => ?_⟩
        by_cases e : j = i
        · subst e; exact st_set_self (by rw [HR.out.2.1]; exact hi16)
        · rw [st_set_ne (fun h => e h.symm)]; exact HR.out.2.2 j (by omega)
      case measure => simp [intOf]; omega
    · have e0 : decide ((i : Int) < 16) = false := by simp; omega
      have hLm : L = mS B := st_ext (by rw [HR.out.2.1, mS_length]) (fun j hj => HR.out.2.2 j (by rw [HR.out.2.1] at hj; omega))
      subst hLm
      obtain ⟨M, hM⟩ : ∃ M, mS B = M := ⟨_, rfl⟩
      have lM : M.length = 16 := by rw [← hM]; exact mS_length B
      have HM := Lib.hid hM
      have HR2 := Lib.hid (show RMem w g1 g2 g3 H M (List.replicate 16 0) wr by rw [← hM]; exact HR.out.1)
      clear hM HR
      go_wp2_with fail
      go_loopw [12] (fun q wq => ∃ (i : Nat) (V : List Int), q = .int .i64 i ∧ i ≤ 8 ∧ RMem w g1 g2 g3 H M V wq ∧ V.length = 16 ∧ ∀ j, j < i → st V j = st (H ++ iv) j ∧ st V (j + 8) = st (H ++ iv) (j + 8)) (fun q _ => 8 - (intOf q).toNat)
      case atStart => exact ⟨0, List.replicate 16 0, rfl, by omega, HR2.out, rfl, fun j hj => by omega⟩
      case round =>
        obtain ⟨i, V, rfl, hi, hR, lV, hdn⟩ := hrel
        have HV := Lib.hid (And.intro hR (And.intro lV hdn))
        clear hR hdn
        by_cases hi8 : i < 8
        · as_aux_lemma =>
          have e1 : decide ((i : Int) < 8) = true := by simp; omega
          have p0 : (0 : Int) ≤ (i : Int) := by omega
          have p1 : (i : Int) < 8 := by omega
          have p2 : (i : Int) < 16 := by omega
          have p3 : (0 : Int) ≤ (i : Int) + 8 := by omega
          have p4 : (i : Int) + 8 < 16 := by omega
          have s1 : IntKind.i64.wrap ((i : Int) + 8) = (i : Int) + 8 := IntWalk.i64_in _ (by omega)
          have s2 : ((i : Int) + 8).toNat = i + 8 := by omega
          have cH := HV.out.1.h.cell i (by omega)
          have K23 : Hid (Calls Try.prog 23 #[.int .i64 i] wr.drew fun e w' => e = .returned (.int .u32 (st iv i)) ∧ RMem w g1 g2 g3 H M V w') := by
            refine Lib.hid ((rstart_any _ _).mono ?_)
            rintro e w' ⟨rfl, hb'⟩
            rw [startS_iv i hi8]
            exact ⟨rfl, (HV.out.1.drewN 1).new (Ch.of_below hb')⟩
          go_wp2_with fail
          have hne : ¬ (g3 = w.heap.size) := by have := HV.out.1.ord; omega
          have cHd : wr.drew.cell? ⟨w.heap.size, i, none⟩ = some (.int .u32 (st H i)) := by simpa using cH
          go_region_held3 (fun w' => w'.cell? ⟨w.heap.size, i, none⟩ = some (.int .u32 (st H i))) (first | exact cHd | exact cH9 | (simp [cH9, World.cell?_setCell_far, hne])) (first | (go_at_call 23; refine K23.out.mono ?_; rintro e w9 ⟨rfl, hm9⟩; have HM9 := Lib.hid hm9; have cH9 := hm9.h.cell i (by omega); have cV9 := hm9.v.cell i (by omega); have fV9 := hm9.v.frozen i; have cW9 := hm9.v.cell (i + 8) (by omega); have fW9 := hm9.v.frozen (i + 8); clear hm9))
          all_goals
            clear cH9 cV9 fV9 cW9 fW9 s1 s2 cHd hne
            go_wp2_with fail
            go_roundw
            case rel =>
              refine ⟨i + 1, (V.set i (st H i)).set (i + 8) (st iv i), by go_num, by omega, HM9.out.setV ((HM9.out.v.set i _).set (i + 8) _) (((Ch.refl (fun x => x = g3) w9).setCell _ _ (fun _ => rfl)).setCell _ _ (fun _ => rfl)), by simp [HV.out.2.1], fun j hj => ?_⟩
              by_cases e : j = i
              · subst e
                refine ⟨?_, ?_⟩
                · rw [st_set_ne (by omega), st_set_self (by rw [HV.out.2.1]; omega), st_append_left (by omega)]
                · rw [st_set_self (by rw [List.length_set, HV.out.2.1]; omega), st_append_right hH]
              · refine ⟨?_, ?_⟩
                · rw [st_set_ne (by omega), st_set_ne (by omega)]; exact (HV.out.2.2 j (by omega)).1
                · rw [st_set_ne (by omega), st_set_ne (by omega)]; exact (HV.out.2.2 j (by omega)).2
            case measure => simp [intOf]; omega
        · as_aux_lemma =>
          have e1 : decide ((i : Int) < 8) = false := by simp; omega
          have hVe : V = H ++ iv := st_ext (by simp [HV.out.2.1, hH, iv]) (fun j hj => by
            rw [HV.out.2.1] at hj
            by_cases h8 : j < 8
            · exact (HV.out.2.2 j (by omega)).1
            · obtain ⟨j', rfl⟩ : ∃ j', j = j' + 8 := ⟨j - 8, by omega⟩
              exact (HV.out.2.2 j' (by omega)).2)
          obtain ⟨V0, hV0⟩ : ∃ V0, H ++ iv = V0 := ⟨_, rfl⟩
          have lV0 : V0.length = 16 := by rw [← hV0]; simp [hH, iv]
          have H4 := Lib.hid (And.intro (show RMem w g1 g2 g3 H M V0 wr by rw [← hV0, ← hVe]; exact HV.out.1) (And.intro lV0 hV0))
          have c12 := H4.out.1.v.cell 12 (by omega)
          clear hVe HV HR2 lV0 hV0
          go_upto_if 85 with ((first | (refine wpList_store_word0 (by rfl) (by rfl) (.tmp 77) (.tmp 76) rfl Try.size35 g3 42 V0 H4.out.1.v 12 (by rw [H4.out.2.1]; decide) (xr (st V0 12) (IntKind.u32.wrap t)) (by rfl) (by rfl) ?_; intro w5 hw5 hc5; have c13 := hw5.cell 13 (by rw [List.length_set, H4.out.2.1]; decide); clear c12) | (refine wpList_store_word0 (by rfl) (by rfl) (.tmp 84) (.tmp 83) rfl Try.size35 g3 42 _ hw5 13 (by rw [List.length_set, H4.out.2.1]; decide) (xr (st (V0.set 12 (xr (st V0 12) (IntKind.u32.wrap t))) 13) (IntKind.u32.wrap (t / 4294967296))) (by rfl) (by rfl) ?_; intro w6 hw6 hc6; clear c13)))
          have l6 : ((V0.set 12 (xr (st V0 12) (IntKind.u32.wrap t))).set 13 (xr (st (V0.set 12 (xr (st V0 12) (IntKind.u32.wrap t))) 13) (IntKind.u32.wrap (t / 4294967296)))).length = 16 := by rw [List.length_set, List.length_set]; exact H4.out.2.1
          obtain ⟨V2, hV2⟩ : ∃ V2, (V0.set 12 (xr (st V0 12) (IntKind.u32.wrap t))).set 13 (xr (st (V0.set 12 (xr (st V0 12) (IntKind.u32.wrap t))) 13) (IntKind.u32.wrap (t / 4294967296))) = V2 := ⟨_, rfl⟩
          rw [hV2] at hw6 l6
          have c14 := hw6.cell 14 (by omega)
          have H6 := Lib.hid (And.intro (H4.out.1.setV hw6 (hc5.trans hc6 (fun _ _ h => h))) (And.intro l6 hV2))
          clear hw5 hc5 hw6 hc6 l6 hV2
          go_cut [89] (fun _ wx => Words wx g3 42 (if last then V2.set 14 (nt (st V2 14)) else V2) ∧ Ch (fun k => k = g3) w6 wx)
          case first =>
            cases last
            · go_wp2
              go_meet
              case rel => exact ⟨H6.out.1.v, Ch.refl _ _⟩
            · go_wp2_with (first | (refine wpList_store_word0 (by rfl) (by rfl) (.tmp 89) (.tmp 88) rfl Try.size35 g3 42 V2 H6.out.1.v 14 (by rw [H6.out.2.1]; decide) (nt (st V2 14)) (by rfl) (by rfl) ?_; intro w7 hw7 hc7))
              go_meet
              case rel => exact ⟨hw7, hc7⟩
          revert hcut
          generalize wc = w8
          rintro ⟨hw8, hc8⟩
          have hv0 : (if last then V2.set 14 (nt (st V2 14)) else V2) = v0S H t last := by
            rw [← H6.out.2.2, ← H4.out.2.2]; rfl
          rw [hv0] at hw8
          obtain ⟨V9, hV9⟩ : ∃ V9, v0S H t last = V9 := ⟨_, rfl⟩
          have lV9 : V9.length = 16 := by rw [← hV9]; exact v0S_length H hH t last
          rw [hV9] at hw8
          have HV9 := Lib.hid (And.intro hV9 lV9)
          have H8 := Lib.hid (H6.out.1.setV hw8 hc8)
          clear hw8 hc8 hv0 hV9 c14 H4 H6
          go_wp2_with fail
          refine (rorders_any _).mono ?_
          rintro e w9 ⟨rfl, hb9⟩
          have H9 := Lib.hid (H8.out.new (Ch.of_below hb9))
          clear hb9
          go_wp2_with (first | (refine wpList_store_arr (by rfl) 62 (.tmp 13) (.tmp 90) (by rfl) w9.heap.size 62 (Array.replicate 160 (.int .i64 0)) (icells sig.flatten).toArray hwA Try.size62 (by rfl) o62.out (by rfl) (by rfl) ?_; intro wB hwB hcB) | (refine wpList_alloc_any (w := w9) (by rfl) 62 (by rfl) (Array.replicate 160 (.int .i64 0)) z62.out ?_; intro wA hwA hcA hzA))
          have hRT : RTab w g1 g2 g3 w9.heap.size H M V9 wB := ⟨H9.out.new (hcA.trans hcB (fun q hq h => by omega)), H9.out.v.lt, hwB⟩
          clear hwA hcA hzA hwB hcB
          generalize w9.heap.size = gT at hRT ⊢
          have HRT := Lib.hid hRT
          clear hRT H9 H8
          go_loopw [14] (fun q wr => ∃ (k : Nat) (V : List Int), q = .int .i64 k ∧ k ≤ 10 ∧ V.length = 16 ∧ V = (sig.take k).foldl (roundS M) V9 ∧ RTab w g1 g2 g3 gT H M V wr) (fun q _ => 10 - (intOf q).toNat)
          case atStart => exact ⟨0, V9, rfl, by omega, HV9.out.2, rfl, HRT.out⟩
          case round =>
            obtain ⟨k, V, rfl, hk, lV, eV, hC⟩ := hrel
            have HC := Lib.hid (And.intro hC eV)
            clear hC eV
            by_cases hk10 : k < 10
            · as_aux_lemma =>
              have e2 : decide ((k : Int) < 10) = true := by simp; omega
              have p0 : (0 : Int) ≤ (k : Int) := by omega
              have p1 : (k : Int) < 10 := by omega
              obtain ⟨S, hS⟩ : ∃ S, sig.getD k [] = S := ⟨_, rfl⟩
              have hrange := irow_range HC.out.1.tab k hk10
              have s61 := Try.size61 k hk10
              have lS := sig_len k hk10
              rw [hS] at hrange s61 lS
              have HS := Lib.hid (And.intro hS (And.intro s61 (And.intro hrange (fun j hj => hS ▸ sj_lt k hk10 j hj : ∀ j, j < 16 → sj S j < 16))))
              clear hS s61 hrange
              go_wp2_with (first | (refine wpList_store_arr (by rfl) 61 (.tmp 15) (.tmp 97) (by rfl) wr.heap.size 61 (Array.replicate 16 (.int .i64 0)) (icells S).toArray hwC HS.out.2.1 (by simp [icells, lS]) (icells_one S) (by rfl) (by rfl) ?_; intro wD hwD hcD) | (refine wpList_alloc_any (w := wr) (by rfl) 61 (by rfl) (Array.replicate 16 (.int .i64 0)) z61.out ?_; intro wC hwC hcC hzC) | (refine wpList_load_mid (by rfl) 61 (.tmp 96) (by rfl) gT (k * 16) (by rfl) (icells S) _ HS.out.2.2.1 Try.underlying61 (by rfl) (by simpa using HS.out.2.1) ?_))
              have hlt : gT < wr.heap.size := (Array.getElem?_eq_some_iff.1 HC.out.1.tab).1
              have hRR : RRow w g1 g2 g3 gT wr.heap.size S H M V wD := ⟨HC.out.1.new (hcC.trans hcD (fun q hq h => by omega)), hlt, hwD⟩
              clear hwC hcC hzC hwD hcD hlt
              obtain ⟨wo, hwo⟩ : ∃ x, x = wr := ⟨_, rfl⟩
              subst hwo
              generalize wo.heap.size = gS at hRR ⊢
              have HRR := Lib.hid hRR
              clear hRR
              go_loopw [16] (fun q wr => ∃ (i : Nat) (U : List Int), q = .int .i64 i ∧ i ≤ 4 ∧ U.length = 16 ∧ U = hf1 M V S i ∧ RRow w g1 g2 g3 gT gS S H M U wr) (fun q _ => 4 - (intOf q).toNat)
              case atStart => exact ⟨0, V, rfl, by omega, lV, rfl, HRR.out⟩
              case round =>
                obtain ⟨i, U, rfl, hi, lU, eU, hI⟩ := hrel
                have HI := Lib.hid (And.intro hI eU)
                clear hI eU
                by_cases hi4 : i < 4
                · as_aux_lemma =>
                  have e3 : decide ((i : Int) < 4) = true := by simp; omega
                  have hr10 := range_of HI.out.1.t.mem.v.heap
                  have hi42 : (Try.prog.info? 42).map (·.size) = some (wcells U).length := by exact size42 lU
                  obtain ⟨n0, hn0⟩ : ∃ n, sj S (2 * i) = n := ⟨_, rfl⟩
                  obtain ⟨n1, hn1⟩ : ∃ n, sj S (2 * i + 1) = n := ⟨_, rfl⟩
                  have b0 : n0 < 16 := by rw [← hn0]; exact HS.out.2.2.2 _ (by omega)
                  have b1 : n1 < 16 := by rw [← hn1]; exact HS.out.2.2.2 _ (by omega)
                  have q0 : (0 : Int) ≤ (n0 : Int) := by omega
                  have q1 : (n0 : Int) < 16 := by omega
                  have q2 : (0 : Int) ≤ (n1 : Int) := by omega
                  have q3 : (n1 : Int) < 16 := by omega
                  have a0 := irow_cell HI.out.1.row (2 * i) (by omega)
                  have a1 := irow_cell HI.out.1.row (2 * i + 1) (by omega)
                  rw [hn0] at a0
                  rw [hn1] at a1
                  have c0 := HI.out.1.t.mem.m.cell n0 (by omega)
                  have c1 := HI.out.1.t.mem.m.cell n1 (by omega)
                  have u0 : IntKind.i64.wrap (2 * (i : Int)) = 2 * (i : Int) := IntWalk.i64_in _ (by omega)
                  have u1 : IntKind.i64.wrap (2 * (i : Int) + 1) = 2 * (i : Int) + 1 := IntWalk.i64_in _ (by omega)
                  have u2 : IntKind.i64.wrap ((i : Int) + 4) = (i : Int) + 4 := IntWalk.i64_in _ (by omega)
                  have u3 : IntKind.i64.wrap ((i : Int) + 8) = (i : Int) + 8 := IntWalk.i64_in _ (by omega)
                  have u4 : IntKind.i64.wrap ((i : Int) + 12) = (i : Int) + 12 := IntWalk.i64_in _ (by omega)
                  have v0 : (0 : Int) ≤ 2 * (i : Int) := by omega
                  have v1 : 2 * (i : Int) < 16 := by omega
                  have v2 : (0 : Int) ≤ 2 * (i : Int) + 1 := by omega
                  have v3 : 2 * (i : Int) + 1 < 16 := by omega
                  have v4 : (2 * (i : Int)).toNat = 2 * i := by omega
                  have v5 : (2 * (i : Int) + 1).toNat = 2 * i + 1 := by omega
                  have K22 := Lib.hid (fun (w' : World) => rstir_any w' U lU (i : Int) ((i : Int) + 4) ((i : Int) + 8) ((i : Int) + 12) (st M n0) (st M n1))
                  rw [stirV_col U i hi4] at K22
                  obtain ⟨X, hX⟩ : ∃ X, stirS U i (i + 4) (i + 8) (i + 12) (st M n0) (st M n1) = X := ⟨_, rfl⟩
                  have lX : X.length = 16 := by rw [← hX, stirS_length]; exact lU
                  have HX := Lib.hid (show rq1 M U S i = X by unfold rq1; rw [hn0, hn1]; exact hX)
                  rw [hX] at K22
                  clear hX hn0 hn1
                  go_wp2_with fail
                  go_still_tail 21, (by kernel_rfl)
                  refine still_load (by rfl) rfl g3 (wcells U) rfl ((World.rangeAt_drew _ _ _ _).2 hr10) _ hu42 (by rfl) hi42 (fun K hK => ?_)
                  go_simp; refine hK _ ?_; clear hK K
                  repeat still_step
                  refine wpStill_nil ?_
                  clear a0 a1 c0 c1
                  go_wp2_with (first | (go_at_call 22; refine (K22.out _).mono ?_; rintro e x1 ⟨rfl, hbx⟩; have HX1 := Lib.hid ((HI.out.1.drewN 1).new (Ch.of_below hbx)); clear hbx) | (refine wpList_store_arr (by rfl) 42 (.tmp 10) (.tmp 123) (by rfl) g3 42 (wcells U).toArray (wcells X).toArray HX1.out.t.mem.v.heap (size42 lX) (by simp [wcells, lX, lU]) (wcells_one X) (by rfl) (by rfl) ?_; intro x2 hx2 hcx2))
                  clear u0 u1 u2 u3 u4 v4 v5
                  go_roundw
                  case rel => exact ⟨i + 1, X, by go_num, by omega, lX, by rw [hf1, ← HI.out.2, HX.out], HX1.out.setV ⟨hx2⟩ hcx2⟩
                  case measure => simp [intOf]; omega
                · as_aux_lemma =>
                  have e3 : decide ((i : Int) < 4) = false := by simp; omega
                  have e4 : i = 4 := by omega
                  obtain ⟨U1, hU1⟩ : ∃ U1, hf1 M V S 4 = U1 := ⟨_, rfl⟩
                  have lU1 : U1.length = 16 := by rw [← hU1, hf1_length]; exact lV
                  have HJ := Lib.hid (And.intro (show RRow w g1 g2 g3 gT gS S H M U1 wr by rw [← hU1, ← e4, ← HI.out.2]; exact HI.out.1) hU1)
                  clear HI e4 hU1
                  go_wp2_with fail
                  obtain ⟨wp, hwp⟩ : ∃ x, x = wr := ⟨_, rfl⟩
                  subst hwp
                  go_loopw [17] (fun q wr => ∃ (i : Nat) (U : List Int), q = .int .i64 i ∧ i ≤ 4 ∧ U.length = 16 ∧ U = hf2 M U1 S i ∧ RRow w g1 g2 g3 gT gS S H M U wr) (fun q _ => 4 - (intOf q).toNat)
                  case atStart => exact ⟨0, U1, rfl, by omega, lU1, rfl, HJ.out.1⟩
                  case round =>
                    obtain ⟨i, U, rfl, hi, lU, eU, hI⟩ := hrel
                    have HI := Lib.hid (And.intro hI eU)
                    clear hI eU e3
                    by_cases hi4 : i < 4
                    · as_aux_lemma =>
                      have e3 : decide ((i : Int) < 4) = true := by simp; omega
                      have hr10 := range_of HI.out.1.t.mem.v.heap
                      have hi42 : (Try.prog.info? 42).map (·.size) = some (wcells U).length := by exact size42 lU
                      obtain ⟨n0, hn0⟩ : ∃ n, sj S (8 + 2 * i) = n := ⟨_, rfl⟩
                      obtain ⟨n1, hn1⟩ : ∃ n, sj S (9 + 2 * i) = n := ⟨_, rfl⟩
                      have b0 : n0 < 16 := by rw [← hn0]; exact HS.out.2.2.2 _ (by omega)
                      have b1 : n1 < 16 := by rw [← hn1]; exact HS.out.2.2.2 _ (by omega)
                      have q0 : (0 : Int) ≤ (n0 : Int) := by omega
                      have q1 : (n0 : Int) < 16 := by omega
                      have q2 : (0 : Int) ≤ (n1 : Int) := by omega
                      have q3 : (n1 : Int) < 16 := by omega
                      have a0 := irow_cell HI.out.1.row (8 + 2 * i) (by omega)
                      have a1 := irow_cell HI.out.1.row (9 + 2 * i) (by omega)
                      rw [hn0] at a0
                      rw [hn1] at a1
                      have c0 := HI.out.1.t.mem.m.cell n0 (by omega)
                      have c1 := HI.out.1.t.mem.m.cell n1 (by omega)
                      have K22 := Lib.hid (fun (w' : World) => rstir_any w' U lU (i : Int) (4 + (((i + 1) % 4 : Nat) : Int)) (8 + (((i + 2) % 4 : Nat) : Int)) (12 + (((i + 3) % 4 : Nat) : Int)) (st M n0) (st M n1))
                      rw [stirV_dia U i hi4] at K22
                      obtain ⟨X, hX⟩ : ∃ X, stirS U i (4 + (i + 1) % 4) (8 + (i + 2) % 4) (12 + (i + 3) % 4) (st M n0) (st M n1) = X := ⟨_, rfl⟩
                      have lX : X.length = 16 := by rw [← hX, stirS_length]; exact lU
                      have HX := Lib.hid (show rq2 M U S i = X by unfold rq2; rw [hn0, hn1]; exact hX)
                      rw [hX] at K22
                      clear hX hn0 hn1
                      have u0 : IntKind.i64.wrap (2 * (i : Int)) = 2 * (i : Int) := IntWalk.i64_in _ (by omega)
                      have u1 : IntKind.i64.wrap (8 + 2 * (i : Int)) = 8 + 2 * (i : Int) := IntWalk.i64_in _ (by omega)
                      have u2 : IntKind.i64.wrap (9 + 2 * (i : Int)) = 9 + 2 * (i : Int) := IntWalk.i64_in _ (by omega)
                      have u3 : IntKind.i64.wrap ((i : Int) + 1) = (i : Int) + 1 := IntWalk.i64_in _ (by omega)
                      have u4 : IntKind.i64.wrap ((i : Int) + 2) = (i : Int) + 2 := IntWalk.i64_in _ (by omega)
                      have u5 : IntKind.i64.wrap ((i : Int) + 3) = (i : Int) + 3 := IntWalk.i64_in _ (by omega)
                      have v0 : (0 : Int) ≤ 8 + 2 * (i : Int) := by omega
                      have v1 : 8 + 2 * (i : Int) < 16 := by omega
                      have v2 : (0 : Int) ≤ 9 + 2 * (i : Int) := by omega
                      have v3 : 9 + 2 * (i : Int) < 16 := by omega
                      have v4 : (8 + 2 * (i : Int)).toNat = 8 + 2 * i := by omega
                      have v5 : (9 + 2 * (i : Int)).toNat = 9 + 2 * i := by omega
                      have m1 : ((i : Int) + 1).tmod 4 = (((i + 1) % 4 : Nat) : Int) := tmod4 i 1 _ rfl
                      have u6 : IntKind.i64.wrap (4 + (((i + 1) % 4 : Nat) : Int)) = 4 + (((i + 1) % 4 : Nat) : Int) := wrap_add4 4 ((i + 1) % 4) (by decide) (Nat.mod_lt _ (by decide))
                      have m2 : ((i : Int) + 2).tmod 4 = (((i + 2) % 4 : Nat) : Int) := tmod4 i 2 _ rfl
                      have u7 : IntKind.i64.wrap (8 + (((i + 2) % 4 : Nat) : Int)) = 8 + (((i + 2) % 4 : Nat) : Int) := wrap_add4 8 ((i + 2) % 4) (by decide) (Nat.mod_lt _ (by decide))
                      have m3 : ((i : Int) + 3).tmod 4 = (((i + 3) % 4 : Nat) : Int) := tmod4 i 3 _ rfl
                      have u8 : IntKind.i64.wrap (12 + (((i + 3) % 4 : Nat) : Int)) = 12 + (((i + 3) % 4 : Nat) : Int) := wrap_add4 12 ((i + 3) % 4) (by decide) (Nat.mod_lt _ (by decide))
                      generalize (i + 1) % 4 = d1 at K22 m1 u6
                      generalize (i + 2) % 4 = d2 at K22 m2 u7
                      generalize (i + 3) % 4 = d3 at K22 m3 u8
                      have hi1 : i + 1 ≤ 4 := hi4
                      have hms : 4 - (i + 1) < 4 - i := Nat.sub_lt_sub_left hi4 (Nat.lt_succ_self i)
                      go_wp2_with fail
                      go_still_tail 28, (by kernel_rfl)
                      refine still_load (by rfl) rfl g3 (wcells U) rfl ((World.rangeAt_drew _ _ _ _).2 hr10) _ hu42 (by rfl) hi42 (fun K hK => ?_)
                      go_simp; refine hK _ ?_; clear hK K
                      repeat still_step
                      refine wpStill_nil ?_
                      clear a0 a1 c0 c1
                      go_wp2_with (first | (go_at_call 22; refine (K22.out _).mono ?_; rintro e x1 ⟨rfl, hbx⟩; have HX1 := Lib.hid ((HI.out.1.drewN 1).new (Ch.of_below hbx)); clear hbx) | (refine wpList_store_arr (by rfl) 42 (.tmp 10) (.tmp 156) (by rfl) g3 42 (wcells U).toArray (wcells X).toArray HX1.out.t.mem.v.heap (size42 lX) (by simp [wcells, lX, lU]) (wcells_one X) (by rfl) (by rfl) ?_; intro x2 hx2 hcx2))
                      clear u0 u1 u2 u3 u4 u5 u6 u7 u8 m1 m2 m3 v0 v1 v2 v3 v4 v5 b0 b1 q0 q1 q2 q3
                      go_roundw
                      case rel => exact ⟨i + 1, X, by go_num, hi1, lX, by rw [hf2, ← HI.out.2, HX.out], HX1.out.setV ⟨hx2⟩ hcx2⟩
                      case measure => simpa [intOf] using hms
                    · have e5 : i = 4 := by omega
                      have e3 : decide ((i : Int) < 4) = false := by simp; omega
                      have hU2 : U = roundS M V S := by rw [HI.out.2, e5, ← HJ.out.2, round_halves]
                      have HK := Lib.hid (And.intro HI.out.1 hU2)
                      clear HI hU2 e5
                      go_wp2_with fail
                      go_roundw
                      case rel => exact ⟨k + 1, U, by go_num, by omega, lU, by rw [sig_succ M V9 k hk10, ← HC.out.2, HS.out.1]; exact HK.out.2, HK.out.1.t⟩
                      case measure => simp [intOf]; omega
            · as_aux_lemma =>
              have e2 : decide ((k : Int) < 10) = false := by simp; omega
              have hkk : k = 10 := by omega
              have hVe : V = sig.foldl (roundS (mS B)) (v0S H t last) := by
                rw [HC.out.2, hkk, HM.out, HV9.out.1]
                rw [List.take_of_length_le (show sig.length ≤ 10 from Nat.le_refl _)]
              have HO := Lib.hid (show outS H V = workS H B t last by rw [hVe]; rfl)
              clear hVe hkk
              go_wp2_with fail
              obtain ⟨wo, hwo⟩ : ∃ x, x = wr := ⟨_, rfl⟩
              subst hwo
              go_loopw [18] (fun q wr => ∃ (i : Nat) (K : List Int), q = .int .i64 i ∧ i ≤ 8 ∧ RMem w g1 g2 g3 K M V wr ∧ K.length = 8 ∧ (∀ j, j < i → st K j = st (outS H V) j) ∧ (∀ j, i ≤ j → st K j = st H j)) (fun q _ => 8 - (intOf q).toNat)
              case atStart => exact ⟨0, H, rfl, by omega, HC.out.1.mem, hH, fun j hj => by omega, fun j _ => rfl⟩
              case round =>
                obtain ⟨i, K, rfl, hi, hK, lK, hK1, hK2⟩ := hrel
                have HK := Lib.hid (And.intro hK (And.intro lK (And.intro hK1 hK2)))
                clear hK hK1 hK2
                by_cases hi8 : i < 8
                · as_aux_lemma =>
                  have e3 : decide ((i : Int) < 8) = true := by simp; omega
                  have p0 : (0 : Int) ≤ (i : Int) := by omega
                  have p1 : (i : Int) < 8 := by omega
                  have p2 : (i : Int) < 16 := by omega
                  have p3 : (0 : Int) ≤ (i : Int) + 8 := by omega
                  have p4 : (i : Int) + 8 < 16 := by omega
                  have cK := HK.out.1.h.cell i (by omega)
                  rw [HK.out.2.2.2 i (Nat.le_refl _)] at cK
                  have cV := HK.out.1.v.cell i (by omega)
                  have cW := HK.out.1.v.cell (i + 8) (by omega)
                  have s1 : IntKind.i64.wrap ((i : Int) + 8) = (i : Int) + 8 := IntWalk.i64_in _ (by omega)
                  have s2 : ((i : Int) + 8).toNat = i + 8 := by omega
                  have s3 : i < K.length := by omega
                  go_wp2_with fail
                  go_still_tail 14, (by kernel_rfl)
                  clear cK cV cW s1 s2
                  refine wpList_store_word0 (by rfl) (by rfl) _ _ rfl Try.size35 w.heap.size 36 K (HK.out.1.h.drewN _) i s3 (xr (xr (st H i) (st V i)) (st V (i + 8))) (by rfl) (by rfl) ?_
                  intro y hy hcy
                  go_wp2_with fail
                  go_roundw
                  case rel =>
                    refine ⟨i + 1, K.set i (xr (xr (st H i) (st V i)) (st V (i + 8))), by go_num, by omega, (HK.out.1.drewN 1).setH hy hcy, by rw [List.length_set]; exact HK.out.2.1, fun j hj => ?_, fun j hj => ?_⟩
                    · by_cases e : j = i
                      · subst e; rw [st_set_self (by omega), outS_at H V j hi8, xr_assoc]
                      · rw [st_set_ne (fun h => e h.symm)]; exact HK.out.2.2.1 j (by omega)
                    · rw [st_set_ne (by omega)]; exact HK.out.2.2.2 j (by omega)
                  case measure => simp [intOf]; omega
                · have e3 : decide ((i : Int) < 8) = false := by simp; omega
                  have hKe : K = workS H B t last := by
                    rw [← HO.out]
                    exact st_ext (by rw [HK.out.2.1]; simp [outS]) (fun j hj => HK.out.2.2.1 j (by rw [HK.out.2.1] at hj; omega))
                  have HKE := Lib.hid (And.intro hKe HK.out.1)
                  clear hKe
                  go_wp2_with (first | (refine wpList_load_arr (by rfl) 36 (.tmp 4) (by rfl) w.heap.size 36 _ HKE.out.2.h.heap 8 35 Try.underlying36 (size36 lK) (by rfl) ?_) | (refine wpList_store_arr (by rfl) 36 (.tmp 8) (.tmp 175) (by rfl) g1 36 (wcells (List.replicate 8 0)).toArray (wcells K).toArray HKE.out.2.res.heap (size36 lK) (by simp [wcells, lK]) (wcells_one K) (by rfl) (by rfl) ?_; intro y hy hcy))
                  refine bodyPost_ret (ret_arr rfl g1 36 _ 8 35 (by rfl) hy Try.underlying36 (size36 lK)) rfl ?_
                  rw [← HKE.out.1]
                  exact ⟨rfl, HKE.out.2.below.trans (hcy.below (by have := HKE.out.2.ord; rintro x rfl; omega) HKE.out.2.below.size)⟩
end Go.Proofs.Ytnmooepmpebepaa
