import Derived.Test.YtnmooepmpebepaaC
namespace Go.Proofs.Ytnmooepmpebepaa
open Go.RowKit

theorem wrap_u32 (x : Int) : IntKind.u32.wrap x = x % 4294967296 := by
  simp [IntKind.wrap, IntKind.bits, IntKind.signed]
theorem ad_assoc (x y z : Int) : IntKind.u32.wrap (IntKind.u32.wrap (x + y) + z) = ad x (ad y z) := by
  simp only [ad, wrap_u32]; omega

theorem drewN_below (w : World) (B n : Nat) (_ : B ≤ w.heap.size) : Below B w (w.drewN n) := ⟨rfl, rfl, rfl, Nat.le_refl _, fun _ _ => rfl⟩

theorem wpList_store_word0 {P : Program} {ops : Array Oper} {rest : List Oper} {op : Oper} {a : Act} {w : World} {Q : Exit → Act → World → Prop} (hgd : op.guard = none) (hd : op.dst = none) (x y : Operand) (ho : op.op = .store 35 x y)
    (hi : (P.info? 35).map (·.size) = some 1) (g : Nat) (t : TypeId) (L : List Int) (h : Words w g t L) (i : Nat) (hil : i < L.length) (v : Int) (hx : a.eval x = .pointer (some ⟨g, i, none⟩)) (hy : a.eval y = .int .u32 v)
    (k : ∀ w', Words w' g t (L.set i v) → Ch (fun k => k = g) w w' → wpList P ops Q rest a w') : wpList P ops Q (op :: rest) a w :=
  wpList_store_word hgd x y ho hi g t L h i hil v hx hy (fun w' h1 h2 => by rw [hd]; exact k w' h1 h2)

/-- What lies in memory while the document's Stir looks at the places. -/
structure Looked (w : World) (L : List Int) (ps : List Int) (wr : World) : Prop where
  words : Words wr w.heap.size 42 L
  res : wr.heap[w.heap.size + 1]? = some (.cells (wcells (List.replicate 16 0)).toArray 42 (0, 0))
  row : ∀ j, j < 4 → wr.cell? ⟨w.heap.size + 1 + 1, j, none⟩ = some (.int .i64 (ps.getD j 0))
  below : Below w.heap.size w wr
theorem Looked.drewN {w wr : World} {L ps : List Int} (h : Looked w L ps wr) (n : Nat) : Looked w L ps (wr.drewN n) :=
  ⟨h.words.drewN n, h.res, h.row, h.below.trans (drewN_below _ _ n h.below.size)⟩

def pre4 (ps : List Int) (i : Nat) : Prop := ∀ j, j < i → 0 ≤ ps.getD j 0 ∧ ps.getD j 0 < 16 ∧ ∀ k, k < j → ps.getD k 0 ≠ ps.getD j 0
theorem okS_iff (a b c d : Int) : okS a b c d = true ↔ pre4 [a, b, c, d] 4 := by
  unfold okS
  rw [decide_eq_true_iff]
  constructor
  · intro h j hj
    match j, hj with
    | 0, _ => exact ⟨by simp; omega, by simp; omega, fun k hk => by omega⟩
    | 1, _ => exact ⟨by simp; omega, by simp; omega, fun k hk => by obtain rfl : k = 0 := by omega
                                                                    simp; omega⟩
    | 2, _ => exact ⟨by simp; omega, by simp; omega, fun k hk => by
        match k, hk with
        | 0, _ => simp; omega
        | 1, _ => simp; omega⟩
    | 3, _ => exact ⟨by simp; omega, by simp; omega, fun k hk => by
        match k, hk with
        | 0, _ => simp; omega
        | 1, _ => simp; omega
        | 2, _ => simp; omega⟩
  · intro h
    have h0 := h 0 (by omega)
    have h1 := h 1 (by omega)
    have h2 := h 2 (by omega)
    have h3 := h 3 (by omega)
    have a1 := h1.2.2 0 (by omega)
    have a2 := h2.2.2 0 (by omega)
    have a3 := h2.2.2 1 (by omega)
    have a4 := h3.2.2 0 (by omega)
    have a5 := h3.2.2 1 (by omega)
    have a6 := h3.2.2 2 (by omega)
    simp at h0 h1 h2 h3 a1 a2 a3 a4 a5 a6
    omega

set_option maxRecDepth 100000 in
set_option maxHeartbeats 8000000 in
theorem rstir_any (w : World) (L : List Int) (hl : L.length = 16) (a b c d : Int) (x y : Int) :
    Calls Try.prog 22 #[.agg (wcells L).toArray, .int .i64 a, .int .i64 b, .int .i64 c, .int .i64 d, .int .u32 x, .int .u32 y] w (ValEnd w (stirV L a b c d x y)) := by
  have hsz : (wcells L).length = 16 := by rw [wcells_length]; exact hl
  obtain ⟨R, hR⟩ : ∃ R, stirV L a b c d x y = R := ⟨_, rfl⟩
  have HR := Lib.hid hR
  have hgood : okS a b c d = true → R = stirS L a.toNat b.toNat c.toNat d.toNat x y := fun h => by rw [← hR, stirV, if_pos h]
  have hbad : ¬ (okS a b c d = true) → R = L := fun h => by rw [← hR, stirV, if_neg h]
  rw [hR]
  have HG := Lib.hid hgood
  have HB := Lib.hid hbad
  obtain ⟨ps, hps⟩ : ∃ ps, [a, b, c, d] = ps := ⟨_, rfl⟩
  have HP := Lib.hid hps
  have HO := Lib.hid (okS_iff a b c d)
  clear hR hgood hbad hps
  go_enter Try.func22, Try.ntmps22
  go_wp2_with fail
  go_loopw [16] (fun i wr => ∃ k : Nat, k ≤ 4 ∧ i = .int .i64 k ∧ Looked w L ps wr ∧ pre4 ps k) (fun i _ => 4 - (intOf i).toNat)
  case atStart =>
    refine ⟨0, by omega, rfl, ⟨⟨?_⟩, ?_, ?_, ?_⟩, fun j hj => by omega⟩
    · rw [Below.heap_alloc _ _ _ (by simp only [World.size_alloc]; omega), Below.heap_alloc _ _ _ (by simp only [World.size_alloc]; omega)]; exact heap_alloc_new _ _
    · rw [Below.heap_alloc _ _ _ (by simp only [World.size_alloc]; omega)]
      have := heap_alloc_new (w.alloc (.cells (wcells L).toArray 42)) (.cells (wcells (List.replicate 16 0)).toArray 42)
      simp only [World.size_alloc] at this
      exact this
    · intro j hj
      have := heap_alloc_new ((w.alloc (.cells (wcells L).toArray 42)).alloc (.cells (wcells (List.replicate 16 0)).toArray 42)) (.cells #[.int .i64 a, .int .i64 b, .int .i64 c, .int .i64 d] 3)
      simp only [World.size_alloc] at this
      refine (cell_of_row _ _ j _ _ _ this).trans ?_
      rw [← HP.out]
      match j, hj with
      | 0, _ => rfl
      | 1, _ => rfl
      | 2, _ => rfl
      | 3, _ => rfl
    · exact (((Below.refl _ w).alloc (Nat.le_refl _) _).alloc (by simp only [World.size_alloc]; omega) _).alloc (by simp only [World.size_alloc]; omega) _
  case round =>
    obtain ⟨i, hi, rfl, hL, hpre⟩ := hrel
    have HL := Lib.hid hL
    have HQ := Lib.hid hpre
    clear hL hpre
    by_cases hi4 : i < 4
    · have e4 : decide ((i : Int) < 4) = true := by simp; omega
      have i0 : (0 : Int) ≤ (i : Int) := by omega
      obtain ⟨v, hv⟩ : ∃ v, ps.getD i 0 = v := ⟨_, rfl⟩
      have ci := HL.out.row i hi4
      rw [hv] at ci
      have HV := Lib.hid hv
      clear hv
      by_cases n0 : v < 0
      · have e0 : decide (v < 0) = true := by simpa using n0
        go_wp2_with (first | (refine wpList_load_arr (by rfl) 42 (.tmp 7) (by rfl) w.heap.size 42 _ HL.out.words.heap 16 35 Try.underlying42 (size42 hl) (by rfl) ?_) | (refine wpList_store_arr (by rfl) 42 (.tmp 14) _ (by rfl) (w.heap.size + 1) 42 _ _ HL.out.res (size42 hl) (by simp [wcells, hl]) (wcells_one L) (by rfl) (by rfl) ?_; intro W5 hW5 hC5))
        refine bodyPost_ret (ret_arr rfl (w.heap.size + 1) 42 _ 16 35 (by rfl) hW5 Try.underlying42 (size42 hl)) rfl ?_
        rw [HB.out (fun h => by have h5 := HO.out.1 h; rw [HP.out] at h5; have h6 := h5 i hi4; rw [HV.out] at h6; omega)]
        exact ⟨rfl, HL.out.below.trans (hC5.below (by rintro i rfl; omega) HL.out.below.size)⟩
      have e0 : decide (v < 0) = false := by simpa using n0
      by_cases n1 : 15 < v
      · have e1 : decide (15 < v) = true := by simpa using n1
        go_wp2_with (first | (refine wpList_load_arr (by rfl) 42 (.tmp 7) (by rfl) w.heap.size 42 _ HL.out.words.heap 16 35 Try.underlying42 (size42 hl) (by rfl) ?_) | (refine wpList_store_arr (by rfl) 42 (.tmp 14) _ (by rfl) (w.heap.size + 1) 42 _ _ HL.out.res (size42 hl) (by simp [wcells, hl]) (wcells_one L) (by rfl) (by rfl) ?_; intro W5 hW5 hC5))
        refine bodyPost_ret (ret_arr rfl (w.heap.size + 1) 42 _ 16 35 (by rfl) hW5 Try.underlying42 (size42 hl)) rfl ?_
        rw [HB.out (fun h => by have h5 := HO.out.1 h; rw [HP.out] at h5; have h6 := h5 i hi4; rw [HV.out] at h6; omega)]
        exact ⟨rfl, HL.out.below.trans (hC5.below (by rintro i rfl; omega) HL.out.below.size)⟩
      have e1 : decide (15 < v) = false := by simpa using n1
      go_wp2_with fail
      go_loopw [17] (fun q wq => ∃ k : Nat, k ≤ i ∧ q = .int .i64 k ∧ Looked w L ps wq ∧ ∀ k', k' < k → ps.getD k' 0 ≠ v) (fun q _ => i - (intOf q).toNat)
      case atStart => exact ⟨0, by omega, rfl, HL.out, fun k' hk' => by omega⟩
      case round =>
        obtain ⟨k, hk, rfl, hLq, hne⟩ := hrel
        have HLq := Lib.hid hLq
        have HN := Lib.hid hne
        clear hLq hne ci
        by_cases hki : k < i
        · have e5 : decide ((k : Int) < (i : Int)) = true := by simp; omega
          have k0 : (0 : Int) ≤ (k : Int) := by omega
          have k4 : (k : Int) < 4 := by omega
          have i4 : (i : Int) < 4 := by omega
          obtain ⟨u, hu⟩ : ∃ u, ps.getD k 0 = u := ⟨_, rfl⟩
          have ck := HLq.out.row k (by omega)
          have ci := HLq.out.row i hi4
          rw [hu] at ck
          rw [HV.out] at ci
          have HU := Lib.hid hu
          clear hu
          by_cases hvu : v = u
          · have e6 : (v == u) = true := by simp [hvu]
            have HVU := Lib.hid hvu
            clear hvu
            go_wp2_with fail
            go_quiet (fail)
            go_wp2_with (first | (refine wpList_load_arr (by rfl) 42 (.tmp 7) (by rfl) w.heap.size 42 _ (HLq.out.drewN _).words.heap 16 35 Try.underlying42 (size42 hl) (by rfl) ?_) | (refine wpList_store_arr (by rfl) 42 (.tmp 14) _ (by rfl) (w.heap.size + 1) 42 _ _ (HLq.out.drewN _).res (size42 hl) (by simp [wcells, hl]) (wcells_one L) (by rfl) (by rfl) ?_; intro W5 hW5 hC5))
            refine bodyPost_ret (ret_arr rfl (w.heap.size + 1) 42 _ 16 35 (by rfl) hW5 Try.underlying42 (size42 hl)) rfl ?_
            rw [HB.out (fun h => by have h5 := HO.out.1 h; rw [HP.out] at h5; have h6 := h5 i hi4; rw [HV.out] at h6; have h7 := h6.2.2 k hki; rw [HU.out] at h7; exact h7 HVU.out.symm)]
            exact ⟨rfl, (HLq.out.drewN _).below.trans (hC5.below (by rintro i rfl; omega) (HLq.out.drewN _).below.size)⟩
          · have e6 : (v == u) = false := by simp [hvu]
            have HVU := Lib.hid hvu
            clear hvu
            go_wp2_with fail
            go_quiet (fail)
            go_wp2_with fail
            go_roundw
            case rel =>
              refine ⟨k + 1, by omega, by go_num, HLq.out.drewN _, fun k' hk' => ?_⟩
              by_cases e : k' = k
              · rw [e, HU.out]; exact fun h => HVU.out h.symm
              · exact HN.out k' (by omega)
            case measure => simp [intOf]; omega
        · have e5 : decide ((k : Int) < (i : Int)) = false := by simp; omega
          go_wp2_with fail
          go_roundw
          case rel =>
            refine ⟨i + 1, by omega, by go_num, HLq.out, fun j hj => ?_⟩
            by_cases e : j = i
            · subst e; rw [HV.out]; exact ⟨by omega, by omega, fun k' hk' => HN.out k' (by omega)⟩
            · exact HQ.out j (by omega)
          case measure => simp [intOf]; omega
    · obtain rfl : i = 4 := by omega
      have e4 : decide (((4 : Nat) : Int) < 4) = false := by decide
      have hok := HO.out.2 (HP.out ▸ HQ.out)
      have hRR := HG.out hok
      unfold okS at hok
      rw [decide_eq_true_iff] at hok
      obtain ⟨an, rfl⟩ : ∃ n : Nat, a = n := ⟨a.toNat, by omega⟩
      obtain ⟨bn, rfl⟩ : ∃ n : Nat, b = n := ⟨b.toNat, by omega⟩
      obtain ⟨cn, rfl⟩ : ∃ n : Nat, c = n := ⟨c.toNat, by omega⟩
      obtain ⟨dn, rfl⟩ : ∃ n : Nat, d = n := ⟨d.toNat, by omega⟩
      simp only [Int.toNat_natCast] at hRR
      have ian : (0 : Int) ≤ (an : Int) := by omega
      have jan : (an : Int) < 16 := by omega
      have ibn : (0 : Int) ≤ (bn : Int) := by omega
      have jbn : (bn : Int) < 16 := by omega
      have icn : (0 : Int) ≤ (cn : Int) := by omega
      have jcn : (cn : Int) < 16 := by omega
      have idn : (0 : Int) ≤ (dn : Int) := by omega
      have jdn : (dn : Int) < 16 := by omega
      have HRR := Lib.hid hRR
      have hlR : R.length = 16 := by rw [hRR, stirS_length]; exact hl
      obtain ⟨L0, hL0⟩ : ∃ L0, L = L0 := ⟨_, rfl⟩
      have E0 := Lib.hid hL0
      have l0 : L0.length = 16 := by rw [← hL0]; exact hl
      have H0 := Lib.hid (show Words wr w.heap.size 42 L0 by rw [← hL0]; exact HL.out.words)
      have C0 := Lib.hid (Ch.refl (fun k => k = w.heap.size) wr)
      have ha16 : an < 16 := by omega
      have hb16 : bn < 16 := by omega
      have hc16 : cn < 16 := by omega
      have hd16 : dn < 16 := by omega
      clear hRR hok hL0
      have cp := H0.out.cell an (by omega)
      have cq := H0.out.cell bn (by omega)
      go_wp2_with fail
      go_still_tail 11, (by kernel_rfl)
      clear cp cq
      refine wpList_store_word0 (by rfl) (by rfl) _ _ rfl Try.size35 w.heap.size 42 L0 (H0.out.drewN _) an (by omega) (IntKind.u32.wrap (IntKind.u32.wrap (st L0 an + st L0 bn) + x)) (by rfl) (by rfl) ?_
      intro W1 H C
      rw [ad_assoc] at H
      replace C := (Ch.refl (fun k => k = w.heap.size) _).drewN 1 |>.trans C (fun _ _ h => h)
      obtain ⟨L1, hL⟩ : ∃ L', s1 L0 an bn x = L' := ⟨_, rfl⟩
      have H1 := Lib.hid (show Words W1 w.heap.size 42 L1 by rw [← hL]; exact H)
      have l1 : L1.length = 16 := by rw [← hL, s1_length L0 an bn x]; exact l0
      have E1 := Lib.hid hL
      have C1 := Lib.hid (C0.out.trans C (fun _ _ h => h))
      clear H C hL
      have cp := H1.out.cell dn (by omega)
      have cq := H1.out.cell an (by omega)
      go_wp2_with fail
      have fp := H1.out.frozen dn
      go_upto_region 14 with fail
      go_cut [74] (fun _ wx => Words wx w.heap.size 42 (s2 L1 dn an 65536 65536) ∧ Ch (fun k => k = w.heap.size) W1 wx)
      case first =>
        go_region_with (first | (go_at_call 28; refine (right16 _ _).mono ?_; rintro e w9 ⟨rfl, n9, rfl⟩))
        all_goals
          go_wp2_with fail
          go_meet
          case rel => exact ⟨(H1.out.drewN _).set dn _, ((Ch.refl _ _).drewN _).setCell _ _ (fun _ => rfl)⟩
      revert hcut
      generalize wc = W2
      rintro ⟨H, C⟩
      clear cp cq fp
      obtain ⟨L2, hL⟩ : ∃ L', s2 L1 dn an 65536 65536 = L' := ⟨_, rfl⟩
      have H2 := Lib.hid (show Words W2 w.heap.size 42 L2 by rw [← hL]; exact H)
      have l2 : L2.length = 16 := by rw [← hL, s2_length L1 dn an 65536 65536]; exact l1
      have E2 := Lib.hid hL
      have C2 := Lib.hid (C1.out.trans C (fun _ _ h => h))
      clear H C hL
      have cp := H2.out.cell cn (by omega)
      have cq := H2.out.cell dn (by omega)
      go_wp2_with fail
      go_still_tail 9, (by kernel_rfl)
      clear cp cq
      refine wpList_store_word0 (by rfl) (by rfl) _ _ rfl Try.size35 w.heap.size 42 L2 (H2.out.drewN _) cn (by omega) (ad (st L2 cn) (st L2 dn)) (by rfl) (by rfl) ?_
      intro W3 H C
      skip
      replace C := (Ch.refl (fun k => k = w.heap.size) _).drewN 1 |>.trans C (fun _ _ h => h)
      obtain ⟨L3, hL⟩ : ∃ L', s3 L2 cn dn = L' := ⟨_, rfl⟩
      have H3 := Lib.hid (show Words W3 w.heap.size 42 L3 by rw [← hL]; exact H)
      have l3 : L3.length = 16 := by rw [← hL, s3_length L2 cn dn]; exact l2
      have E3 := Lib.hid hL
      have C3 := Lib.hid (C2.out.trans C (fun _ _ h => h))
      clear H C hL
      have cp := H3.out.cell bn (by omega)
      have cq := H3.out.cell cn (by omega)
      go_wp2_with fail
      have fp := H3.out.frozen bn
      go_upto_region 16 with fail
      go_cut [93] (fun _ wx => Words wx w.heap.size 42 (s2 L3 bn cn 1048576 4096) ∧ Ch (fun k => k = w.heap.size) W3 wx)
      case first =>
        go_region_with (first | (go_at_call 28; refine (right12 _ _).mono ?_; rintro e w9 ⟨rfl, n9, rfl⟩))
        all_goals
          go_wp2_with fail
          go_meet
          case rel => exact ⟨(H3.out.drewN _).set bn _, ((Ch.refl _ _).drewN _).setCell _ _ (fun _ => rfl)⟩
      revert hcut
      generalize wc = W4
      rintro ⟨H, C⟩
      clear cp cq fp
      obtain ⟨L4, hL⟩ : ∃ L', s2 L3 bn cn 1048576 4096 = L' := ⟨_, rfl⟩
      have H4 := Lib.hid (show Words W4 w.heap.size 42 L4 by rw [← hL]; exact H)
      have l4 : L4.length = 16 := by rw [← hL, s2_length L3 bn cn 1048576 4096]; exact l3
      have E4 := Lib.hid hL
      have C4 := Lib.hid (C3.out.trans C (fun _ _ h => h))
      clear H C hL
      have cp := H4.out.cell an (by omega)
      have cq := H4.out.cell bn (by omega)
      go_wp2_with fail
      go_still_tail 11, (by kernel_rfl)
      clear cp cq
      refine wpList_store_word0 (by rfl) (by rfl) _ _ rfl Try.size35 w.heap.size 42 L4 (H4.out.drewN _) an (by omega) (IntKind.u32.wrap (IntKind.u32.wrap (st L4 an + st L4 bn) + y)) (by rfl) (by rfl) ?_
      intro W5 H C
      rw [ad_assoc] at H
      replace C := (Ch.refl (fun k => k = w.heap.size) _).drewN 1 |>.trans C (fun _ _ h => h)
      obtain ⟨L5, hL⟩ : ∃ L', s1 L4 an bn y = L' := ⟨_, rfl⟩
      have H5 := Lib.hid (show Words W5 w.heap.size 42 L5 by rw [← hL]; exact H)
      have l5 : L5.length = 16 := by rw [← hL, s1_length L4 an bn y]; exact l4
      have E5 := Lib.hid hL
      have C5 := Lib.hid (C4.out.trans C (fun _ _ h => h))
      clear H C hL
      have cp := H5.out.cell dn (by omega)
      have cq := H5.out.cell an (by omega)
      go_wp2_with fail
      have fp := H5.out.frozen dn
      go_upto_region 18 with fail
      go_cut [114] (fun _ wx => Words wx w.heap.size 42 (s2 L5 dn an 16777216 256) ∧ Ch (fun k => k = w.heap.size) W5 wx)
      case first =>
        go_region_with (first | (go_at_call 28; refine (right8 _ _).mono ?_; rintro e w9 ⟨rfl, n9, rfl⟩))
        all_goals
          go_wp2_with fail
          go_meet
          case rel => exact ⟨(H5.out.drewN _).set dn _, ((Ch.refl _ _).drewN _).setCell _ _ (fun _ => rfl)⟩
      revert hcut
      generalize wc = W6
      rintro ⟨H, C⟩
      clear cp cq fp
      obtain ⟨L6, hL⟩ : ∃ L', s2 L5 dn an 16777216 256 = L' := ⟨_, rfl⟩
      have H6 := Lib.hid (show Words W6 w.heap.size 42 L6 by rw [← hL]; exact H)
      have l6 : L6.length = 16 := by rw [← hL, s2_length L5 dn an 16777216 256]; exact l5
      have E6 := Lib.hid hL
      have C6 := Lib.hid (C5.out.trans C (fun _ _ h => h))
      clear H C hL
      have cp := H6.out.cell cn (by omega)
      have cq := H6.out.cell dn (by omega)
      go_wp2_with fail
      go_still_tail 9, (by kernel_rfl)
      clear cp cq
      refine wpList_store_word0 (by rfl) (by rfl) _ _ rfl Try.size35 w.heap.size 42 L6 (H6.out.drewN _) cn (by omega) (ad (st L6 cn) (st L6 dn)) (by rfl) (by rfl) ?_
      intro W7 H C
      skip
      replace C := (Ch.refl (fun k => k = w.heap.size) _).drewN 1 |>.trans C (fun _ _ h => h)
      obtain ⟨L7, hL⟩ : ∃ L', s3 L6 cn dn = L' := ⟨_, rfl⟩
      have H7 := Lib.hid (show Words W7 w.heap.size 42 L7 by rw [← hL]; exact H)
      have l7 : L7.length = 16 := by rw [← hL, s3_length L6 cn dn]; exact l6
      have E7 := Lib.hid hL
      have C7 := Lib.hid (C6.out.trans C (fun _ _ h => h))
      clear H C hL
      have cp := H7.out.cell bn (by omega)
      have cq := H7.out.cell cn (by omega)
      go_wp2_with fail
      have fp := H7.out.frozen bn
      go_upto_region 20 with fail
      go_cut [133] (fun _ wx => Words wx w.heap.size 42 (s2 L7 bn cn 33554432 128) ∧ Ch (fun k => k = w.heap.size) W7 wx)
      case first =>
        go_region_with (first | (go_at_call 28; refine (right7 _ _).mono ?_; rintro e w9 ⟨rfl, n9, rfl⟩))
        all_goals
          go_wp2_with fail
          go_meet
          case rel => exact ⟨(H7.out.drewN _).set bn _, ((Ch.refl _ _).drewN _).setCell _ _ (fun _ => rfl)⟩
      revert hcut
      generalize wc = W8
      rintro ⟨H, C⟩
      clear cp cq fp
      obtain ⟨L8, hL⟩ : ∃ L', s2 L7 bn cn 33554432 128 = L' := ⟨_, rfl⟩
      have H8 := Lib.hid (show Words W8 w.heap.size 42 L8 by rw [← hL]; exact H)
      have l8 : L8.length = 16 := by rw [← hL, s2_length L7 bn cn 33554432 128]; exact l7
      have E8 := Lib.hid hL
      have C8 := Lib.hid (C7.out.trans C (fun _ _ h => h))
      clear H C hL
      have hRL : R = L8 := by
        rw [HRR.out]
        unfold stirS
        rw [E0.out, E1.out, E2.out, E3.out, E4.out, E5.out, E6.out, E7.out, E8.out]
      subst hRL
      have hr6 := (C8.out.block _ (Array.getElem?_eq_some_iff.1 HL.out.res).1 (by omega)).trans HL.out.res
      have hb6 := HL.out.below.trans (C8.out.below (by rintro i rfl; omega) HL.out.below.size)
      have H9 := Lib.hid (And.intro hr6 hb6)
      clear hr6 hb6
      go_wp2_with (first | (refine wpList_load_arr (by rfl) 42 (.tmp 7) (by rfl) w.heap.size 42 _ H8.out.heap 16 35 Try.underlying42 (size42 hlR) (by rfl) ?_) | (refine wpList_store_arr (by rfl) 42 (.tmp 14) _ (by rfl) (w.heap.size + 1) 42 _ _ H9.out.1 (size42 hlR) (by simp [wcells, hlR]) (wcells_one R) (by rfl) (by rfl) ?_; intro W15 hW5 hC5))
      refine bodyPost_ret (ret_arr rfl (w.heap.size + 1) 42 _ 16 35 (by rfl) hW5 Try.underlying42 (size42 hlR)) rfl ?_
      exact ⟨rfl, H9.out.2.trans (hC5.below (by rintro i rfl; omega) H9.out.2.size)⟩

end Go.Proofs.Ytnmooepmpebepaa
