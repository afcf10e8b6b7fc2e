import Derived.Test.YtnmooepmpebepaaG
namespace Go.Proofs.Ytnmooepmpebepaa
open Go.RowKit

def WorkEnd (w : World) (g : Nat) (t : TypeId) (pre : List Value) (H : List Int) (post : List Value) (e : Ending) (w' : World) : Prop :=
  e = .returned (.tuple #[]) ∧ Mid w' g t pre H post ∧ Ch (fun k => k = g) w w'

/-- What lies in memory while the words are read. -/
structure Reading (w wr : World) (B : List Int) (i : Nat) (L : List Int) : Prop where
  words : Words wr w.heap.size 42 L
  len : L.length = 16
  done : ∀ j, j < i → st L j = st (mS B) j
  zero : Words wr (w.heap.size + 1) 42 (List.replicate 16 0)
  ch : Ch (fun _ => False) w wr

set_option maxRecDepth 100000 in
set_option maxHeartbeats 16000000 in
theorem work_any (w : World) (gh oh : Nat) (th : TypeId) (pre post : List Value) (H : List Int) (hh : Mid w gh th pre H post) (hpre : pre.length = oh) (hH : H.length = 8) (gb ob : Nat) (B : List Int) (hb : Bytes w gb ob B) (hB : B.length = 64) (t : Int) (last : Bool) :
    Calls Try.prog 25 #[.pointer (some ⟨gh, oh, none⟩), .pointer (some ⟨gb, ob, none⟩), .int .u64 t, .bool last] w (WorkEnd w gh th pre (workS H B t last) post) := by
  have HH := Lib.hid (And.intro hh (And.intro hpre hH))
  have HB := Lib.hid (And.intro hb hB)
  have hlth := hh.lt
  clear hh hb
  go_enter Try.func25, Try.ntmps25
  go_wp2_with fail
  go_loopw [16] (fun q wr => ∃ (i : Nat) (L : List Int), q = .int .i64 i ∧ i ≤ 16 ∧ Reading w wr B i L) (fun q _ => 16 - (intOf q).toNat)
  case atStart =>
    refine ⟨0, List.replicate 16 0, rfl, by omega, ⟨?_⟩, rfl, fun j hj => by omega, ⟨?_⟩, ((Ch.refl _ w).alloc _).alloc _⟩
    · rw [Below.heap_alloc _ _ _ (by simp only [World.size_alloc]; omega)]; exact heap_alloc_new _ _
    · have := heap_alloc_new (w.alloc (.cells (wcells (List.replicate 16 0)).toArray 42)) (.cells (wcells (List.replicate 16 0)).toArray 42)
      simp only [World.size_alloc] at this
      exact this
  case round =>
    obtain ⟨i, L, rfl, hi, hR⟩ := hrel
    have HR := Lib.hid hR
    clear hR
    by_cases hi16 : i < 16
    · have e0 : decide ((i : Int) < 16) = true := by simp; omega
      have p0 : (0 : Int) ≤ (i : Int) := by omega
      have p1 : (i : Int) < 16 := by omega
      have hbr := HB.out.1.ch (HR.out.ch) (by simp)
      have c0 := hbr.2 (4 * i) (by have := HB.out.2; omega)
      have c1 := hbr.2 (4 * i + 1) (by have := HB.out.2; omega)
      have c2 := hbr.2 (4 * i + 2) (by have := HB.out.2; omega)
      have c3 := hbr.2 (4 * i + 3) (by have := HB.out.2; omega)
      rw [← Nat.add_assoc] at c1 c2 c3
      have qs := fun (w : World) => slice38 gb ob i hi16 w
      clear hbr
      go_wp2_with fail
      go_still_tail 24, (by kernel_rfl)
      clear c0 c1 c2 c3
      refine wpList_store_word0 (by rfl) (by rfl) _ _ rfl Try.size35 w.heap.size 42 L (HR.out.words.drewN _) i (by rw [HR.out.len]; exact hi16) (st (mS B) i) (by rfl) (by rw [mS_at B i hi16]; rfl) ?_
      intro w2 hw2 hc2
      go_wp2_with fail
      go_roundw
      case rel =>
        have hcc := (Ch.refl (fun k => k = w.heap.size) wr).drewN 1 |>.trans hc2 (fun _ _ h => h)
        refine ⟨i + 1, L.set i (st (mS B) i), by go_num, by omega, hw2, by rw [List.length_set]; exact HR.out.len, fun j hj => ?_, HR.out.zero.ch hcc (by omega), HR.out.ch.trans hcc (fun k hk h => by omega)⟩
        by_cases e : j = i
        · subst e; exact st_set_self (by rw [HR.out.len]; exact hi16)
        · rw [st_set_ne (fun h => e h.symm)]; exact HR.out.done j (by omega)
      case measure => simp [intOf]; omega
    · obtain rfl : i = 16 := by omega
      have e0 : decide (((16 : Nat) : Int) < 16) = false := by decide
      have hLm : L = mS B := st_ext (by rw [HR.out.len, mS_length]) (fun j hj => HR.out.done j (by rw [HR.out.len] at hj; exact hj))
      subst hLm
      have hlr := HR.out.ch.size
      have hlv := HR.out.zero.lt
      have hmid0 := HH.out.1.ch HR.out.ch (by simp)
      go_wp2_with fail
      refine (first_any _).mono ?_
      rintro e w1 ⟨rfl, hb1⟩
      have hs1 := hb1.size
      go_wp2_with (first | (refine wpList_store_arr (by rfl) 36 (.tmp 12) (.tmp 52) (by rfl) w1.heap.size 36 _ _ (heap_alloc_new w1 _) (size36 rfl) (by rfl) (wcells_one iv) (by rfl) (by rfl) ?_; intro w2 hw2 hc2))
      have hc02 : Ch (fun _ => False) wr w2 := ((Ch.of_below (F := fun _ => False) hb1).alloc _).trans hc2 (fun k hk h => by omega)
      have hz2 := HR.out.zero.ch hc02 (by simp)
      have hm2 := HR.out.words.ch hc02 (by simp)
      have hh2 := hmid0.ch hc02 (by simp)
      have hlw2 := (Array.getElem?_eq_some_iff.1 hw2).1
      have H2 := Lib.hid (And.intro hz2 (And.intro hm2 (And.intro hh2 (And.intro hw2 hc02))))
      clear hz2 hm2 hh2 hw2 hc02 hc2 hb1 hmid0
      go_still_tail 4, (by kernel_rfl)
      refine wpList_copy_ch (by rfl) (.tmp 53) (.tmp 56) 68 68 (by rfl) 35 Try.underlying68 Try.size35 (w.heap.size + 1) 0 16 16 ⟨gh, oh, none⟩ 8 8 (by rfl) (by rfl) (wcells (List.replicate 16 0)) 42 (H2.out.1.drewN _).heap (wcells H) (by rw [wcells_length, HH.out.2.2]; rfl) ?hs1 (by rw [wcells_length, HH.out.2.2]; decide) ?ho1 ?_
      case hs1 =>
        intro j u hj
        have hjl : j < H.length := by have := (List.getElem?_eq_some_iff.1 hj).1; rwa [wcells_length] at this
        rw [Addr.add_mid]
        refine (H2.out.2.2.1.cell oh j HH.out.2.1 hjl).trans ?_
        rw [← hj]
        simp [wcells, st, List.getD, List.getElem?_eq_getElem hjl]
      case ho1 =>
        intro u hu
        simp only [wcells, List.mem_map] at hu
        obtain ⟨x, _, rfl⟩ := hu
        rfl
      intro w3 hw3 hc3
      go_wp2_with fail
      go_still_tail 2, (by kernel_rfl)
      refine wpList_copy_ch (by rfl) (.tmp 58) (.tmp 59) 68 68 (by rfl) 35 Try.underlying68 Try.size35 (w.heap.size + 1) 8 8 8 ⟨w1.heap.size, 0, none⟩ 8 8 (by rfl) (by rfl) (splice (wcells (List.replicate 16 0)) 0 (wcells H)) 42 hw3 (wcells iv) (by rfl) ?hs2 (by rw [length_splice _ _ _ (by rw [wcells_length, HH.out.2.2]; decide)]; decide) ?ho2 ?_
      case hs2 =>
        intro j u hj
        have hiv := (hc3.block w1.heap.size hlw2 (by omega)).trans H2.out.2.2.2.1
        rw [Addr.add_mid, Nat.zero_add]
        show w3.cell? _ = _
        rw [cell_of_row _ _ _ _ _ _ hiv]
        simpa using hj
      case ho2 =>
        intro u hu
        simp only [wcells, List.mem_map] at hu
        obtain ⟨x, _, rfl⟩ := hu
        rfl
      intro w4 hw4 hc4
      have hv4 : Words w4 (w.heap.size + 1) 42 (H ++ iv) := by
        refine ⟨?_⟩
        rw [hw4]
        congr 2
        have hHl := HH.out.2.2
        apply Array.toList_inj.1
        have hwl : (wcells H).length = 8 := by rw [wcells_length]; exact hHl
        simp only [splice, List.take_zero, List.nil_append]
        rw [List.take_append_of_le_length (by omega), List.take_of_length_le (by omega), List.drop_of_length_le (by simp [wcells, iv, hHl])]
        simp [wcells]
      have hc24 : Ch (fun k => k = w.heap.size + 1) w2 w4 := ((Ch.refl _ w2).drewN 1).trans (hc3.trans ((Ch.refl _ w3).drewN 1 |>.trans hc4 (fun _ _ h => h)) (fun _ _ h => h)) (fun _ _ h => h)
      obtain ⟨V0, hV0⟩ : ∃ V0, H ++ iv = V0 := ⟨_, rfl⟩
      have lV0 : V0.length = 16 := by rw [← hV0]; simp [HH.out.2.2, iv]
      have H4 := Lib.hid (And.intro (show Words w4 (w.heap.size + 1) 42 V0 by rw [← hV0]; exact hv4) (And.intro hc24 (And.intro lV0 hV0)))
      have c12 := H4.out.1.cell 12 (by omega)
      clear hw3 hc3 hw4 hc4 hv4 hc24 lV0 hV0
      go_upto_if 74 with ((first | (refine wpList_store_word0 (by rfl) (by rfl) (.tmp 66) (.tmp 65) rfl Try.size35 (w.heap.size + 1) 42 V0 H4.out.1 12 (by rw [H4.out.2.2.1]; decide) (xr (st V0 12) (IntKind.u32.wrap t)) (by rfl) (by rfl) ?_; intro w5 hw5 hc5; have c13 := hw5.cell 13 (by rw [List.length_set, H4.out.2.2.1]; decide); clear c12) | (refine wpList_store_word0 (by rfl) (by rfl) (.tmp 73) (.tmp 72) rfl Try.size35 (w.heap.size + 1) 42 _ hw5 13 (by rw [List.length_set, H4.out.2.2.1]; decide) (xr (st (V0.set 12 (xr (st V0 12) (IntKind.u32.wrap t))) 13) (IntKind.u32.wrap (t / 4294967296))) (by rfl) (by rfl) ?_; intro w6 hw6 hc6; clear c13)))
      have l6 : ((V0.set 12 (xr (st V0 12) (IntKind.u32.wrap t))).set 13 (xr (st (V0.set 12 (xr (st V0 12) (IntKind.u32.wrap t))) 13) (IntKind.u32.wrap (t / 4294967296)))).length = 16 := by rw [List.length_set, List.length_set]; exact H4.out.2.2.1
      obtain ⟨V2, hV2⟩ : ∃ V2, (V0.set 12 (xr (st V0 12) (IntKind.u32.wrap t))).set 13 (xr (st (V0.set 12 (xr (st V0 12) (IntKind.u32.wrap t))) 13) (IntKind.u32.wrap (t / 4294967296))) = V2 := ⟨_, rfl⟩
      rw [hV2] at hw6 l6
      have c14 := hw6.cell 14 (by omega)
      have H6 := Lib.hid (And.intro hw6 (And.intro l6 (And.intro hV2 (hc5.trans hc6 (fun _ _ h => h)))))
      clear hw5 hc5 hw6 hc6 l6 hV2
      go_cut [78] (fun _ wx => Words wx (w.heap.size + 1) 42 (if last then V2.set 14 (nt (st V2 14)) else V2) ∧ Ch (fun k => k = w.heap.size + 1) w6 wx)
      case first =>
        cases last
        · go_wp2
          go_meet
          case rel => exact ⟨H6.out.1, Ch.refl _ _⟩
        · go_wp2_with (first | (refine wpList_store_word0 (by rfl) (by rfl) (.tmp 78) (.tmp 77) rfl Try.size35 (w.heap.size + 1) 42 V2 H6.out.1 14 (by rw [H6.out.2.1]; decide) (nt (st V2 14)) (by rfl) (by rfl) ?_; intro w7 hw7 hc7))
          go_meet
          case rel => exact ⟨hw7, hc7⟩
      revert hcut
      generalize wc = w8
      rintro ⟨hw8, hc8⟩
      have hv0 : (if last then V2.set 14 (nt (st V2 14)) else V2) = v0S H t last := by
        rw [← H6.out.2.2.1, ← H4.out.2.2.2]; rfl
      rw [hv0] at hw8
      have hc28 : Ch (fun k => k = w.heap.size + 1) w2 w8 := H4.out.2.1.trans (H6.out.2.2.2.trans hc8 (fun _ _ h => h)) (fun _ _ h => h)
      have hc2w := H2.out.2.2.2.2
      have hlt2 := hc2w.size
      have hm8 := H2.out.2.1.ch hc28 (by omega)
      have hh8 := H2.out.2.2.1.ch hc28 (by omega)
      have hcw8 : Ch (fun _ => False) w w8 := HR.out.ch.trans ((hc2w.mono (F' := fun k => k = w.heap.size + 1) (fun _ h => h.elim)).trans hc28 (fun _ _ h => h)) (fun i hi h => by omega)
      have H8 := Lib.hid (And.intro hw8 (And.intro hm8 (And.intro hh8 hcw8)))
      clear hw8 hc8 hv0 hc28 hm8 hh8 hc2w hcw8 c14
      go_wp2_with fail
      refine (orders_any _).mono ?_
      rintro e w9 ⟨rfl, hw9⟩
      have hT9 : w9.heap[w8.heap.size]? = some (.cells (ucells sig.flatten).toArray 72 (0, 0)) := by rw [hw9]; exact heap_alloc_new _ _
      have hc89 : Ch (fun _ => False) w8 w9 := by rw [hw9]; exact (Ch.refl _ w8).alloc _
      have H9 := Lib.hid (And.intro hT9 hc89)
      have hl8 := H8.out.1.lt
      obtain ⟨V9, hV9⟩ : ∃ V9, v0S H t last = V9 := ⟨_, rfl⟩
      have HV9 := Lib.hid hV9
      have hw9' : Words w9 (w.heap.size + 1) 42 V9 := by rw [← hV9]; exact H8.out.1.ch hc89 (by simp)
      have hm9 : Words w9 w.heap.size 42 (mS B) := H8.out.2.1.ch hc89 (by simp)
      have l9 : V9.length = 16 := by rw [← hV9]; exact v0S_length H HH.out.2.2 t last
      have HA := Lib.hid (And.intro hw9' (And.intro hm9 l9))
      obtain ⟨M, hM⟩ : ∃ M, mS B = M := ⟨_, rfl⟩
      have lM : M.length = 16 := by rw [← hM]; exact mS_length B
      have HM := Lib.hid hM
      clear hw9 hT9 hc89 hV9 hw9' hm9 hM l9
      go_wp2_with fail
      go_loopw [81] (fun q wr => ∃ (k : Nat) (V : List Int), q = .int .i64 k ∧ k ≤ 10 ∧ Words wr (w.heap.size + 1) 42 V ∧ V.length = 16 ∧ V = (sig.take k).foldl (roundS M) V9 ∧ Ch (fun g => g = w.heap.size + 1) w9 wr) (fun q _ => 10 - (intOf q).toNat)
      case atStart => exact ⟨0, V9, rfl, by omega, HA.out.1, HA.out.2.2, rfl, Ch.refl _ _⟩
      case round =>
        obtain ⟨k, V, rfl, hk, hV, lV, eV, hC⟩ := hrel
        have HR1 := Lib.hid (And.intro hV (And.intro eV hC))
        have hlt9 := HA.out.2.1.lt
        have hlT := (Array.getElem?_eq_some_iff.1 H9.out.1).1
        have hsz := hC.size
        have hTr : wr.heap[w8.heap.size]? = some (.cells (ucells sig.flatten).toArray 72 (0, 0)) := (hC.block w8.heap.size hlT (by omega)).trans H9.out.1
        have hmr : Words wr w.heap.size 42 M := by rw [← HM.out]; exact HA.out.2.1.ch hC (by omega)
        clear hV eV hC
        by_cases hk10 : k < 10
        · have e1 : decide ((k : Int) < 10) = true := by simp; omega
          have p0 : (0 : Int) ≤ (k : Int) := by omega
          have p1 : (k : Int) < 10 := by omega
          obtain ⟨S, hS⟩ : ∃ S, sig.getD k [] = S := ⟨_, rfl⟩
          have hrange := table_range hTr k hk10
          have s71 := Try.size71 k hk10
          have lS := sig_len k hk10
          rw [hS] at hrange s71 lS
          have HS := Lib.hid (And.intro hS (And.intro s71 (And.intro hmr (And.intro hTr (And.intro (fun j hj => hS ▸ sj_lt k hk10 j hj : ∀ j, j < 16 → sj S j < 16) hrange)))))
          clear hS hmr hTr s71 hrange
          go_wp2_with (first | (refine wpList_load_mid (by rfl) 71 (.tmp 84) (by rfl) w8.heap.size (k * 16) (by rfl) (ucells S) _ HS.out.2.2.2.2.2 Try.underlying71 (by rfl) (by simpa using HS.out.2.1) ?_) | (refine wpList_store_arr (by rfl) 71 (.tmp 14) (.tmp 85) (by rfl) _ 71 _ (ucells S).toArray (heap_alloc_new _ _) HS.out.2.1 (by simp [ucells, lS]) (ucells_one S) (by rfl) (by rfl) ?_; intro x0 hx0 hcx0))
          have hx1 : Ch (fun g => g = w.heap.size + 1) w9 x0 := (HR1.out.2.2.alloc _).trans hcx0 (fun q hq h => by omega)
          have hxw : Ch (fun _ => False) wr x0 := ((Ch.refl (fun _ => False) wr).alloc _).trans hcx0 (fun q hq h => by omega)
          have X0 := Lib.hid (And.intro (HR1.out.1.ch hxw (by simp)) (And.intro (HS.out.2.2.1.ch hxw (by simp)) (And.intro hx0 hx1)))
          obtain ⟨V0', hV0'⟩ : ∃ V', V = V' := ⟨_, rfl⟩
          have E0 := Lib.hid hV0'
          have lV0 : V0'.length = 16 := by rw [← hV0']; exact lV
          have gr : w.heap.size + 1 < wr.heap.size := HR1.out.1.lt
          rw [hV0'] at X0
          clear hx0 hcx0 hx1 hxw hV0'
          obtain ⟨n0, hn0⟩ : ∃ n, sj S 0 = n := ⟨_, rfl⟩
          obtain ⟨n1, hn1⟩ : ∃ n, sj S 1 = n := ⟨_, rfl⟩
          have b0 : n0 < 16 := by rw [← hn0]; exact HS.out.2.2.2.2.1 0 (by decide)
          have b1 : n1 < 16 := by rw [← hn1]; exact HS.out.2.2.2.2.1 1 (by decide)
          have q0 : (0 : Int) ≤ (n0 : Int) := by omega
          have q1 : (n0 : Int) < 16 := by omega
          have q2 : (0 : Int) ≤ (n1 : Int) := by omega
          have q3 : (n1 : Int) < 16 := by omega
          have a0 := row_cell X0.out.2.2.1 0 (by omega)
          have a1 := row_cell X0.out.2.2.1 1 (by omega)
          rw [hn0] at a0
          rw [hn1] at a1
          have c0 := X0.out.2.1.cell n0 (by omega)
          have c1 := X0.out.2.1.cell n1 (by omega)
          have N := Lib.hid (And.intro hn0 hn1)
          clear hn0 hn1
          go_wp2_with fail
          go_still_tail 8, (by kernel_rfl)
          clear a0 a1 c0 c1
          go_wp2_with (first | (go_at_call 26; refine (stir_any _ (w.heap.size + 1) 42 V0' (X0.out.1.drewN _) lV0 0 4 8 12 (by decide) (by decide) (by decide) (by decide) (st M n0) (st M n1)).mono ?_; rintro e x1 ⟨rfl, hv, hc⟩))
          obtain ⟨V1', hV'⟩ : ∃ V', stirS V0' 0 4 8 12 (st M n0) (st M n1) = V' := ⟨_, rfl⟩
          have E1 := Lib.hid (show stirS V0' 0 4 8 12 (st M (sj S 0)) (st M (sj S 1)) = V1' by rw [N.out.1, N.out.2]; exact hV')
          have lV1 : V1'.length = 16 := by rw [← hV', stirS_length]; exact lV0
          rw [hV'] at hv
          have hcc := (Ch.refl (fun g => g = w.heap.size + 1) x0).drewN 1 |>.trans hc (fun _ _ h => h)
          have X1 := Lib.hid (And.intro hv (And.intro (X0.out.2.1.ch hcc (by omega)) (And.intro ((hcc.block wr.heap.size (Array.getElem?_eq_some_iff.1 X0.out.2.2.1).1 (by omega)).trans X0.out.2.2.1) (X0.out.2.2.2.trans hcc (fun _ _ h => h)))))
          clear hv hc hcc hV' N b0 b1 q0 q1 q2 q3
          obtain ⟨n0, hn0⟩ : ∃ n, sj S 2 = n := ⟨_, rfl⟩
          obtain ⟨n1, hn1⟩ : ∃ n, sj S 3 = n := ⟨_, rfl⟩
          have b0 : n0 < 16 := by rw [← hn0]; exact HS.out.2.2.2.2.1 2 (by decide)
          have b1 : n1 < 16 := by rw [← hn1]; exact HS.out.2.2.2.2.1 3 (by decide)
          have q0 : (0 : Int) ≤ (n0 : Int) := by omega
          have q1 : (n0 : Int) < 16 := by omega
          have q2 : (0 : Int) ≤ (n1 : Int) := by omega
          have q3 : (n1 : Int) < 16 := by omega
          have a0 := row_cell X1.out.2.2.1 2 (by omega)
          have a1 := row_cell X1.out.2.2.1 3 (by omega)
          rw [hn0] at a0
          rw [hn1] at a1
          have c0 := X1.out.2.1.cell n0 (by omega)
          have c1 := X1.out.2.1.cell n1 (by omega)
          have N := Lib.hid (And.intro hn0 hn1)
          clear hn0 hn1
          go_wp2_with fail
          go_still_tail 8, (by kernel_rfl)
          clear a0 a1 c0 c1
          go_wp2_with (first | (go_at_call 26; refine (stir_any _ (w.heap.size + 1) 42 V1' (X1.out.1.drewN _) lV1 1 5 9 13 (by decide) (by decide) (by decide) (by decide) (st M n0) (st M n1)).mono ?_; rintro e x2 ⟨rfl, hv, hc⟩))
          obtain ⟨V2', hV'⟩ : ∃ V', stirS V1' 1 5 9 13 (st M n0) (st M n1) = V' := ⟨_, rfl⟩
          have E2 := Lib.hid (show stirS V1' 1 5 9 13 (st M (sj S 2)) (st M (sj S 3)) = V2' by rw [N.out.1, N.out.2]; exact hV')
          have lV2 : V2'.length = 16 := by rw [← hV', stirS_length]; exact lV1
          rw [hV'] at hv
          have hcc := (Ch.refl (fun g => g = w.heap.size + 1) x1).drewN 1 |>.trans hc (fun _ _ h => h)
          have X2 := Lib.hid (And.intro hv (And.intro (X1.out.2.1.ch hcc (by omega)) (And.intro ((hcc.block wr.heap.size (Array.getElem?_eq_some_iff.1 X1.out.2.2.1).1 (by omega)).trans X1.out.2.2.1) (X1.out.2.2.2.trans hcc (fun _ _ h => h)))))
          clear hv hc hcc hV' N b0 b1 q0 q1 q2 q3
          obtain ⟨n0, hn0⟩ : ∃ n, sj S 4 = n := ⟨_, rfl⟩
          obtain ⟨n1, hn1⟩ : ∃ n, sj S 5 = n := ⟨_, rfl⟩
          have b0 : n0 < 16 := by rw [← hn0]; exact HS.out.2.2.2.2.1 4 (by decide)
          have b1 : n1 < 16 := by rw [← hn1]; exact HS.out.2.2.2.2.1 5 (by decide)
          have q0 : (0 : Int) ≤ (n0 : Int) := by omega
          have q1 : (n0 : Int) < 16 := by omega
          have q2 : (0 : Int) ≤ (n1 : Int) := by omega
          have q3 : (n1 : Int) < 16 := by omega
          have a0 := row_cell X2.out.2.2.1 4 (by omega)
          have a1 := row_cell X2.out.2.2.1 5 (by omega)
          rw [hn0] at a0
          rw [hn1] at a1
          have c0 := X2.out.2.1.cell n0 (by omega)
          have c1 := X2.out.2.1.cell n1 (by omega)
          have N := Lib.hid (And.intro hn0 hn1)
          clear hn0 hn1
          go_wp2_with fail
          go_still_tail 8, (by kernel_rfl)
          clear a0 a1 c0 c1
          go_wp2_with (first | (go_at_call 26; refine (stir_any _ (w.heap.size + 1) 42 V2' (X2.out.1.drewN _) lV2 2 6 10 14 (by decide) (by decide) (by decide) (by decide) (st M n0) (st M n1)).mono ?_; rintro e x3 ⟨rfl, hv, hc⟩))
          obtain ⟨V3', hV'⟩ : ∃ V', stirS V2' 2 6 10 14 (st M n0) (st M n1) = V' := ⟨_, rfl⟩
          have E3 := Lib.hid (show stirS V2' 2 6 10 14 (st M (sj S 4)) (st M (sj S 5)) = V3' by rw [N.out.1, N.out.2]; exact hV')
          have lV3 : V3'.length = 16 := by rw [← hV', stirS_length]; exact lV2
          rw [hV'] at hv
          have hcc := (Ch.refl (fun g => g = w.heap.size + 1) x2).drewN 1 |>.trans hc (fun _ _ h => h)
          have X3 := Lib.hid (And.intro hv (And.intro (X2.out.2.1.ch hcc (by omega)) (And.intro ((hcc.block wr.heap.size (Array.getElem?_eq_some_iff.1 X2.out.2.2.1).1 (by omega)).trans X2.out.2.2.1) (X2.out.2.2.2.trans hcc (fun _ _ h => h)))))
          clear hv hc hcc hV' N b0 b1 q0 q1 q2 q3
          obtain ⟨n0, hn0⟩ : ∃ n, sj S 6 = n := ⟨_, rfl⟩
          obtain ⟨n1, hn1⟩ : ∃ n, sj S 7 = n := ⟨_, rfl⟩
          have b0 : n0 < 16 := by rw [← hn0]; exact HS.out.2.2.2.2.1 6 (by decide)
          have b1 : n1 < 16 := by rw [← hn1]; exact HS.out.2.2.2.2.1 7 (by decide)
          have q0 : (0 : Int) ≤ (n0 : Int) := by omega
          have q1 : (n0 : Int) < 16 := by omega
          have q2 : (0 : Int) ≤ (n1 : Int) := by omega
          have q3 : (n1 : Int) < 16 := by omega
          have a0 := row_cell X3.out.2.2.1 6 (by omega)
          have a1 := row_cell X3.out.2.2.1 7 (by omega)
          rw [hn0] at a0
          rw [hn1] at a1
          have c0 := X3.out.2.1.cell n0 (by omega)
          have c1 := X3.out.2.1.cell n1 (by omega)
          have N := Lib.hid (And.intro hn0 hn1)
          clear hn0 hn1
          go_wp2_with fail
          go_still_tail 8, (by kernel_rfl)
          clear a0 a1 c0 c1
          go_wp2_with (first | (go_at_call 26; refine (stir_any _ (w.heap.size + 1) 42 V3' (X3.out.1.drewN _) lV3 3 7 11 15 (by decide) (by decide) (by decide) (by decide) (st M n0) (st M n1)).mono ?_; rintro e x4 ⟨rfl, hv, hc⟩))
          obtain ⟨V4', hV'⟩ : ∃ V', stirS V3' 3 7 11 15 (st M n0) (st M n1) = V' := ⟨_, rfl⟩
          have E4 := Lib.hid (show stirS V3' 3 7 11 15 (st M (sj S 6)) (st M (sj S 7)) = V4' by rw [N.out.1, N.out.2]; exact hV')
          have lV4 : V4'.length = 16 := by rw [← hV', stirS_length]; exact lV3
          rw [hV'] at hv
          have hcc := (Ch.refl (fun g => g = w.heap.size + 1) x3).drewN 1 |>.trans hc (fun _ _ h => h)
          have X4 := Lib.hid (And.intro hv (And.intro (X3.out.2.1.ch hcc (by omega)) (And.intro ((hcc.block wr.heap.size (Array.getElem?_eq_some_iff.1 X3.out.2.2.1).1 (by omega)).trans X3.out.2.2.1) (X3.out.2.2.2.trans hcc (fun _ _ h => h)))))
          clear hv hc hcc hV' N b0 b1 q0 q1 q2 q3
          obtain ⟨n0, hn0⟩ : ∃ n, sj S 8 = n := ⟨_, rfl⟩
          obtain ⟨n1, hn1⟩ : ∃ n, sj S 9 = n := ⟨_, rfl⟩
          have b0 : n0 < 16 := by rw [← hn0]; exact HS.out.2.2.2.2.1 8 (by decide)
          have b1 : n1 < 16 := by rw [← hn1]; exact HS.out.2.2.2.2.1 9 (by decide)
          have q0 : (0 : Int) ≤ (n0 : Int) := by omega
          have q1 : (n0 : Int) < 16 := by omega
          have q2 : (0 : Int) ≤ (n1 : Int) := by omega
          have q3 : (n1 : Int) < 16 := by omega
          have a0 := row_cell X4.out.2.2.1 8 (by omega)
          have a1 := row_cell X4.out.2.2.1 9 (by omega)
          rw [hn0] at a0
          rw [hn1] at a1
          have c0 := X4.out.2.1.cell n0 (by omega)
          have c1 := X4.out.2.1.cell n1 (by omega)
          have N := Lib.hid (And.intro hn0 hn1)
          clear hn0 hn1
          go_wp2_with fail
          go_still_tail 8, (by kernel_rfl)
          clear a0 a1 c0 c1
          go_wp2_with (first | (go_at_call 26; refine (stir_any _ (w.heap.size + 1) 42 V4' (X4.out.1.drewN _) lV4 0 5 10 15 (by decide) (by decide) (by decide) (by decide) (st M n0) (st M n1)).mono ?_; rintro e x5 ⟨rfl, hv, hc⟩))
          obtain ⟨V5', hV'⟩ : ∃ V', stirS V4' 0 5 10 15 (st M n0) (st M n1) = V' := ⟨_, rfl⟩
          have E5 := Lib.hid (show stirS V4' 0 5 10 15 (st M (sj S 8)) (st M (sj S 9)) = V5' by rw [N.out.1, N.out.2]; exact hV')
          have lV5 : V5'.length = 16 := by rw [← hV', stirS_length]; exact lV4
          rw [hV'] at hv
          have hcc := (Ch.refl (fun g => g = w.heap.size + 1) x4).drewN 1 |>.trans hc (fun _ _ h => h)
          have X5 := Lib.hid (And.intro hv (And.intro (X4.out.2.1.ch hcc (by omega)) (And.intro ((hcc.block wr.heap.size (Array.getElem?_eq_some_iff.1 X4.out.2.2.1).1 (by omega)).trans X4.out.2.2.1) (X4.out.2.2.2.trans hcc (fun _ _ h => h)))))
          clear hv hc hcc hV' N b0 b1 q0 q1 q2 q3
          obtain ⟨n0, hn0⟩ : ∃ n, sj S 10 = n := ⟨_, rfl⟩
          obtain ⟨n1, hn1⟩ : ∃ n, sj S 11 = n := ⟨_, rfl⟩
          have b0 : n0 < 16 := by rw [← hn0]; exact HS.out.2.2.2.2.1 10 (by decide)
          have b1 : n1 < 16 := by rw [← hn1]; exact HS.out.2.2.2.2.1 11 (by decide)
          have q0 : (0 : Int) ≤ (n0 : Int) := by omega
          have q1 : (n0 : Int) < 16 := by omega
          have q2 : (0 : Int) ≤ (n1 : Int) := by omega
          have q3 : (n1 : Int) < 16 := by omega
          have a0 := row_cell X5.out.2.2.1 10 (by omega)
          have a1 := row_cell X5.out.2.2.1 11 (by omega)
          rw [hn0] at a0
          rw [hn1] at a1
          have c0 := X5.out.2.1.cell n0 (by omega)
          have c1 := X5.out.2.1.cell n1 (by omega)
          have N := Lib.hid (And.intro hn0 hn1)
          clear hn0 hn1
          go_wp2_with fail
          go_still_tail 8, (by kernel_rfl)
          clear a0 a1 c0 c1
          go_wp2_with (first | (go_at_call 26; refine (stir_any _ (w.heap.size + 1) 42 V5' (X5.out.1.drewN _) lV5 1 6 11 12 (by decide) (by decide) (by decide) (by decide) (st M n0) (st M n1)).mono ?_; rintro e x6 ⟨rfl, hv, hc⟩))
          obtain ⟨V6', hV'⟩ : ∃ V', stirS V5' 1 6 11 12 (st M n0) (st M n1) = V' := ⟨_, rfl⟩
          have E6 := Lib.hid (show stirS V5' 1 6 11 12 (st M (sj S 10)) (st M (sj S 11)) = V6' by rw [N.out.1, N.out.2]; exact hV')
          have lV6 : V6'.length = 16 := by rw [← hV', stirS_length]; exact lV5
          rw [hV'] at hv
          have hcc := (Ch.refl (fun g => g = w.heap.size + 1) x5).drewN 1 |>.trans hc (fun _ _ h => h)
          have X6 := Lib.hid (And.intro hv (And.intro (X5.out.2.1.ch hcc (by omega)) (And.intro ((hcc.block wr.heap.size (Array.getElem?_eq_some_iff.1 X5.out.2.2.1).1 (by omega)).trans X5.out.2.2.1) (X5.out.2.2.2.trans hcc (fun _ _ h => h)))))
          clear hv hc hcc hV' N b0 b1 q0 q1 q2 q3
          obtain ⟨n0, hn0⟩ : ∃ n, sj S 12 = n := ⟨_, rfl⟩
          obtain ⟨n1, hn1⟩ : ∃ n, sj S 13 = n := ⟨_, rfl⟩
          have b0 : n0 < 16 := by rw [← hn0]; exact HS.out.2.2.2.2.1 12 (by decide)
          have b1 : n1 < 16 := by rw [← hn1]; exact HS.out.2.2.2.2.1 13 (by decide)
          have q0 : (0 : Int) ≤ (n0 : Int) := by omega
          have q1 : (n0 : Int) < 16 := by omega
          have q2 : (0 : Int) ≤ (n1 : Int) := by omega
          have q3 : (n1 : Int) < 16 := by omega
          have a0 := row_cell X6.out.2.2.1 12 (by omega)
          have a1 := row_cell X6.out.2.2.1 13 (by omega)
          rw [hn0] at a0
          rw [hn1] at a1
          have c0 := X6.out.2.1.cell n0 (by omega)
          have c1 := X6.out.2.1.cell n1 (by omega)
          have N := Lib.hid (And.intro hn0 hn1)
          clear hn0 hn1
          go_wp2_with fail
          go_still_tail 8, (by kernel_rfl)
          clear a0 a1 c0 c1
          go_wp2_with (first | (go_at_call 26; refine (stir_any _ (w.heap.size + 1) 42 V6' (X6.out.1.drewN _) lV6 2 7 8 13 (by decide) (by decide) (by decide) (by decide) (st M n0) (st M n1)).mono ?_; rintro e x7 ⟨rfl, hv, hc⟩))
          obtain ⟨V7', hV'⟩ : ∃ V', stirS V6' 2 7 8 13 (st M n0) (st M n1) = V' := ⟨_, rfl⟩
          have E7 := Lib.hid (show stirS V6' 2 7 8 13 (st M (sj S 12)) (st M (sj S 13)) = V7' by rw [N.out.1, N.out.2]; exact hV')
          have lV7 : V7'.length = 16 := by rw [← hV', stirS_length]; exact lV6
          rw [hV'] at hv
          have hcc := (Ch.refl (fun g => g = w.heap.size + 1) x6).drewN 1 |>.trans hc (fun _ _ h => h)
          have X7 := Lib.hid (And.intro hv (And.intro (X6.out.2.1.ch hcc (by omega)) (And.intro ((hcc.block wr.heap.size (Array.getElem?_eq_some_iff.1 X6.out.2.2.1).1 (by omega)).trans X6.out.2.2.1) (X6.out.2.2.2.trans hcc (fun _ _ h => h)))))
          clear hv hc hcc hV' N b0 b1 q0 q1 q2 q3
          obtain ⟨n0, hn0⟩ : ∃ n, sj S 14 = n := ⟨_, rfl⟩
          obtain ⟨n1, hn1⟩ : ∃ n, sj S 15 = n := ⟨_, rfl⟩
          have b0 : n0 < 16 := by rw [← hn0]; exact HS.out.2.2.2.2.1 14 (by decide)
          have b1 : n1 < 16 := by rw [← hn1]; exact HS.out.2.2.2.2.1 15 (by decide)
          have q0 : (0 : Int) ≤ (n0 : Int) := by omega
          have q1 : (n0 : Int) < 16 := by omega
          have q2 : (0 : Int) ≤ (n1 : Int) := by omega
          have q3 : (n1 : Int) < 16 := by omega
          have a0 := row_cell X7.out.2.2.1 14 (by omega)
          have a1 := row_cell X7.out.2.2.1 15 (by omega)
          rw [hn0] at a0
          rw [hn1] at a1
          have c0 := X7.out.2.1.cell n0 (by omega)
          have c1 := X7.out.2.1.cell n1 (by omega)
          have N := Lib.hid (And.intro hn0 hn1)
          clear hn0 hn1
          go_wp2_with fail
          go_still_tail 8, (by kernel_rfl)
          clear a0 a1 c0 c1
          go_wp2_with (first | (go_at_call 26; refine (stir_any _ (w.heap.size + 1) 42 V7' (X7.out.1.drewN _) lV7 3 4 9 14 (by decide) (by decide) (by decide) (by decide) (st M n0) (st M n1)).mono ?_; rintro e x8 ⟨rfl, hv, hc⟩))
          obtain ⟨V8', hV'⟩ : ∃ V', stirS V7' 3 4 9 14 (st M n0) (st M n1) = V' := ⟨_, rfl⟩
          have E8 := Lib.hid (show stirS V7' 3 4 9 14 (st M (sj S 14)) (st M (sj S 15)) = V8' by rw [N.out.1, N.out.2]; exact hV')
          have lV8 : V8'.length = 16 := by rw [← hV', stirS_length]; exact lV7
          rw [hV'] at hv
          have hcc := (Ch.refl (fun g => g = w.heap.size + 1) x7).drewN 1 |>.trans hc (fun _ _ h => h)
          have X8 := Lib.hid (And.intro hv (And.intro (X7.out.2.1.ch hcc (by omega)) (And.intro ((hcc.block wr.heap.size (Array.getElem?_eq_some_iff.1 X7.out.2.2.1).1 (by omega)).trans X7.out.2.2.1) (X7.out.2.2.2.trans hcc (fun _ _ h => h)))))
          clear hv hc hcc hV' N b0 b1 q0 q1 q2 q3
          go_roundw
          case rel =>
            refine ⟨k + 1, V8', by go_num, by omega, X8.out.1, lV8, ?_, X8.out.2.2.2⟩
            rw [sig_succ M V9 k hk10, ← HR1.out.2.1, HS.out.1]
            unfold roundS
            rw [E0.out, E1.out, E2.out, E3.out, E4.out, E5.out, E6.out, E7.out, E8.out]
          case measure => simp [intOf]; omega
        · have hkk : k = 10 := by omega
          have e1 : decide ((k : Int) < 10) = false := by simp; omega
          have hVe : V = sig.foldl (roundS (mS B)) (v0S H t last) := by
            rw [HV9.out, HM.out, HR1.out.2.1, hkk]
            rw [List.take_of_length_le (show sig.length ≤ 10 from Nat.le_refl _)]
          have hout : outS H V = workS H B t last := by rw [hVe]; rfl
          have HO := Lib.hid hout
          have hh9 : Mid wr gh th pre H post := (H8.out.2.2.1.ch H9.out.2 (by simp)).ch HR1.out.2.2 (by omega)
          have HH9 := Lib.hid hh9
          have hcall : Ch (fun _ => False) w wr := (H8.out.2.2.2.trans (H9.out.2.mono (F' := fun _ => False) (fun _ h => h)) (fun _ _ h => h)).trans HR1.out.2.2 (fun q hq h => by omega)
          have HCA := Lib.hid hcall
          clear hVe hout hh9 hcall hTr hmr hkk
          go_wp2_with fail
          go_loopw [159] (fun q wq => ∃ (i : Nat) (K : List Int), q = .int .i64 i ∧ i ≤ 8 ∧ Mid wq gh th pre K post ∧ K.length = 8 ∧ (∀ j, j < i → st K j = st (outS H V) j) ∧ (∀ j, i ≤ j → st K j = st H j) ∧ Ch (fun g => g = gh) wr wq) (fun q _ => 8 - (intOf q).toNat)
          case atStart => exact ⟨0, H, rfl, by omega, HH9.out, HH.out.2.2, fun j hj => by omega, fun j _ => rfl, Ch.refl _ _⟩
          case round =>
            obtain ⟨i, K, rfl, hi, hK, lK, hK1, hK2, hCK⟩ := hrel
            have HK := Lib.hid (And.intro hK (And.intro lK (And.intro hK1 (And.intro hK2 hCK))))
            have hVq := HR1.out.1.ch hCK (by omega)
            have HVQ := Lib.hid hVq
            clear hK hK1 hK2 hCK hVq
            by_cases hi8 : i < 8
            · have e2 : decide ((i : Int) < 8) = true := by simp; omega
              have p0 : (0 : Int) ≤ (i : Int) := by omega
              have p1 : (i : Int) < 8 := by omega
              have p2 : (i : Int) < 16 := by omega
              have p3 : (0 : Int) ≤ (i : Int) + 8 := by omega
              have p4 : (i : Int) + 8 < 16 := by omega
              have cK := HK.out.1.cell oh i HH.out.2.1 (by omega)
              rw [HK.out.2.2.2.1 i (Nat.le_refl _)] at cK
              have cV := HVQ.out.cell i (by omega)
              have cW := HVQ.out.cell (i + 8) (by omega)
              have s1 : IntKind.i64.wrap ((i : Int) + 8) = (i : Int) + 8 := IntWalk.i64_in _ (by omega)
              have s2 : ((i : Int) + 8).toNat = i + 8 := by omega
              have s3 : i < K.length := by omega
              go_wp2_with fail
              go_still_tail 16, (by kernel_rfl)
              clear cK cV cW s1 s2
              refine wpList_store_mid1 (by rfl) (by rfl) _ _ rfl Try.size35 gh th pre post K HK.out.1 oh HH.out.2.1 i s3 (xr (st H i) (xr (st V i) (st V (i + 8)))) (by rfl) (by rfl) ?_
              intro y hy hcy
              go_wp2_with fail
              go_roundw
              case rel =>
                refine ⟨i + 1, K.set i (xr (st H i) (xr (st V i) (st V (i + 8)))), by go_num, by omega, hy, by rw [List.length_set]; exact HK.out.2.1, fun j hj => ?_, fun j hj => ?_, HK.out.2.2.2.2.trans ((Ch.refl _ _).drewN 1 |>.trans hcy (fun _ _ h => h)) (fun _ _ h => h)⟩
                · by_cases e : j = i
                  · subst e; rw [st_set_self (by omega), outS_at H V j hi8]
                  · rw [st_set_ne (fun h => e h.symm)]; exact HK.out.2.2.1 j (by omega)
                · rw [st_set_ne (by omega)]; exact HK.out.2.2.2.1 j (by omega)
              case measure => simp [intOf]; omega
            · obtain rfl : i = 8 := by omega
              have e2 : decide (((8 : Nat) : Int) < 8) = false := by decide
              have hKe : K = workS H B t last := by
                rw [← HO.out]
                exact st_ext (by rw [HK.out.2.1]; simp [outS]) (fun j hj => HK.out.2.2.1 j (by rw [HK.out.2.1] at hj; exact hj))
              have HKE := Lib.hid hKe
              clear hKe
              go_wp2
              go_end0
              refine ⟨rfl, ?_, (HCA.out.mono (F' := fun k => k = gh) (fun _ h => h.elim)).trans HK.out.2.2.2.2 (fun _ _ h => h)⟩
              rw [← HKE.out]
              exact HK.out.1

end Go.Proofs.Ytnmooepmpebepaa
