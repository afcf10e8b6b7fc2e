import Derived.Test.YtnmooepmpebepaaAA
import Derived.Test.YtnmooepmpebepaaAC
namespace Go.Proofs.Ytnmooepmpebepaa
open Go.RowKit

/-- The rest of a slice that came in: a nil one has no places. -/
theorem slice26n {g : Nat} {w : World} {v : Value} {b : List Int} (h : ReadsB g w v b) (hn : ∀ a n c, v = .slice a n c → a = none → v = .slice none 0 0) (c : Nat) (hc : c ≤ b.length) :
    ∃ v', (∀ w0, (Instr.slice 26 v (some (.int .i64 (c : Int))) none none).run Try.prog w0 = .ok v' w0) ∧ ReadsB g w v' (b.drop c) ∧ ∀ a n c, v' = .slice a n c → a = none → v' = .slice none 0 0 := by
  obtain ⟨v', h1, h2⟩ := slice26 h c hc
  refine ⟨v', h1, h2, ?_⟩
  obtain ⟨a, cap, rfl, hle, hr⟩ := h
  have he : Try.prog.elem 26 = 5 := by simp [Program.elem, Try.underlying26]
  have h3 := h1 w
  rw [run_slice_l w 26 a b.length cap (by rw [he]; exact Try.underlying26) .i64 _ (by omega) (by omega), he, sizeOf_run Try.size5] at h3
  have h4 : sliced a c b.length cap 1 = v' := by
    have h5 : Result.ok (sliced a (c : Int).toNat b.length cap 1) w = Result.ok v' w := h3
    rw [Int.toNat_natCast] at h5
    injection h5
  intro a' n' c' hv ha
  subst ha
  rw [← h4] at hv ⊢
  unfold sliced at hv ⊢
  simp only [Value.slice.injEq] at hv
  cases a with
  | none =>
    have := hn none b.length cap rfl rfl
    simp only [Value.slice.injEq, true_and] at this
    simp
    omega
  | some x =>
    split at hv <;> simp at hv
/-- A part of it. -/
theorem slice26p (q off n cap l : Nat) (h1 : l + 64 ≤ n) (hn : n ≤ cap) (z : Int) (hz : z = (l : Int)) (w : World) :
    (Instr.slice 26 (.slice (some ⟨q, off, none⟩) n cap) (some (.int .i64 z)) (some (.int .i64 (z + 64))) none).run Try.prog w = .ok (.slice (some ⟨q, off + l, none⟩) 64 (cap - l)) w := by
  subst hz
  have he : Try.prog.elem 26 = 5 := by simp [Program.elem, Try.underlying26]
  rw [run_slice_lh w 26 (some ⟨q, off, none⟩) n cap (by rw [he]; exact Try.underlying26) .i64 .i64 _ _ (by omega) (by omega) (by omega), he, sizeOf_run Try.size5]
  show Result.ok _ w = _
  unfold sliced
  rw [show ((l : Int) + 64).toNat = l + 64 by omega, Int.toNat_natCast, if_neg (by omega), Nat.mul_one]
  simp [Addr.add_mid]
theorem w64_in (n : Nat) (h : n ≤ 4294967296) : w64 (n : Int) = (n : Int) := by rw [w64, wrap_u64]; omega
theorem final_digest (b : List Int) (k : Nat) (h : k = 0 ∨ 64 * k < b.length) (hl : b.length ≤ 64 * k + 64) (hb : b.length ≤ 4294967296) : workS (chainS b k) (padS (b.drop (64 * k))) (b.length : Int) true = digestW b := by
  unfold digestW
  rw [fullS_last b.length k h hl, w64_in _ hb]
theorem chain_next (b : List Int) (k : Nat) (hb : 64 * k + 64 ≤ 4294967296) : workS (chainS b k) ((b.drop (64 * k)).take 64) (64 * (k : Int) + 64) false = chainS b (k + 1) := by
  show _ = workS (chainS b k) ((b.drop (64 * k)).take 64) (w64 ((64 * (k + 1) : Nat) : Int)) false
  rw [w64_in _ (by omega)]
  congr 1

/-- What lies in memory in the document's Sum. -/
structure SMem (w : World) (g3 : Nat) (H : List Int) (wr : World) : Prop where
  lt : w.heap.size < g3
  res : wr.heap[w.heap.size]? = some (.cells (bcells (List.replicate 32 0)).toArray 28 (0, 0))
  h : Words wr g3 36 H
  below : Below w.heap.size w wr
section
variable {w wr w' : World} {g3 : Nat} {H L : List Int}
theorem SMem.new (h : SMem w g3 H wr) (c : Ch (fun _ => False) wr w') : SMem w g3 H w' :=
  ⟨h.lt, (c.block _ (Array.getElem?_eq_some_iff.1 h.res).1 (by simp)).trans h.res, h.h.ch c (by simp), h.below.trans (c.below (by simp) h.below.size)⟩
theorem SMem.drewN (h : SMem w g3 H wr) (n : Nat) : SMem w g3 H (wr.drewN n) := h.new ((Ch.refl _ _).drewN n)
theorem SMem.setH (h : SMem w g3 H wr) (k : Words w' g3 36 L) (c : Ch (fun x => x = g3) wr w') : SMem w g3 L w' := by
  have o := h.lt
  exact ⟨h.lt, (c.block _ (Array.getElem?_eq_some_iff.1 h.res).1 (by omega)).trans h.res, k, h.below.trans (c.below (by rintro i rfl; omega) h.below.size)⟩
end

set_option maxRecDepth 100000 in
set_option maxHeartbeats 16000000 in
theorem rsum_any (w : World) (v : Value) (b : List Int) (hr : ReadsB w.heap.size w v b) (hn : ∀ a n c, v = .slice a n c → a = none → v = .slice none 0 0) (hbl : b.length ≤ 4194304) :
    Calls Try.prog 20 #[v] w (BytesEnd w (sumS b)) := by
  have HR := Lib.hid (And.intro hr hn)
  obtain ⟨av, cv, rfl, hle, hcells⟩ := hr
  have HC := Lib.hid (And.intro hle hcells)
  have z36 := Lib.hid (zero_of_info zero36).1
  have z28 := Lib.hid (zero_of_info zero28).1
  obtain ⟨i0, hi0, hz0, hz1, hz2⟩ := info_parts Try.infoU8
  clear hcells hle hn
  go_enter Try.func20, Try.ntmps20
  go_wp2_with (first | (refine wpList_alloc_any (w := w) (by rfl) 28 (by rfl) (bcells (List.replicate 32 0)).toArray z28.out ?_; intro w1 hw1 hc1 hz1') | (refine wpList_alloc_any (w := w1) (by rfl) 36 (by rfl) (wcells (List.replicate 8 0)).toArray z36.out ?_; intro w2 hw2 hc2 hz2'))
  have hM0 : SMem w w1.heap.size (List.replicate 8 0) w2 := ⟨hz1', (hc2.block _ hz1' (by simp)).trans hw1, ⟨hw2⟩, (hc1.trans hc2 (fun _ _ h => h)).below (by simp) (Nat.le_refl _)⟩
  clear hw1 hc1 hw2 hc2 hz2' hz1'
  generalize w1.heap.size = g3 at hM0 ⊢
  have HM0 := Lib.hid hM0
  clear hM0
  go_loopw [4] (fun q wr => ∃ (i : Nat) (L : List Int), q = .int .i64 i ∧ i ≤ 8 ∧ SMem w g3 L wr ∧ L.length = 8 ∧ (∀ j, j < i → st L j = st iv j)) (fun q _ => 8 - (intOf q).toNat)
  case atStart => exact ⟨0, _, rfl, by omega, HM0.out, by simp, fun j hj => by omega⟩
  case round =>
    obtain ⟨i, L, rfl, hi, hL, lL, hst⟩ := hrel
    have HL := Lib.hid (And.intro hL hst)
    clear hL hst
    by_cases hi8 : i < 8
    · have e1 : decide ((i : Int) < 8) = true := by simp; omega
      have p0 : (0 : Int) ≤ (i : Int) := by omega
      have p1 : (i : Int) < 8 := by omega
      have ST := Lib.hid (fun (w : World) => rstart_any w i)
      rw [startS_iv i hi8] at ST
      go_wp2_with fail
      refine (ST.out _).mono ?_
      rintro e w2 ⟨rfl, hb2⟩
      have H2 := Lib.hid (HL.out.1.new (Ch.of_below hb2))
      clear hb2
      go_wp2_with (first | (refine wpList_store_word0 (by rfl) (by rfl) (.tmp 17) (.tmp 16) rfl Try.size35 g3 36 L H2.out.h i (by omega) (st iv i) (by rfl) (by rfl) ?_; intro w3 hw3 hc3))
      go_roundw
      case rel =>
        refine ⟨i + 1, _, by go_num, by omega, H2.out.setH hw3 hc3, by rw [List.length_set]; exact lL, fun j hj => ?_⟩
        by_cases e : j = i
        · subst e; exact st_set_self (by omega)
        · rw [st_set_ne (fun h => e h.symm)]; exact HL.out.2 j (by omega)
      case measure => simp [intOf]; omega
    · have e1 : decide ((i : Int) < 8) = false := by simp; omega
      have hLe : L = iv := st_ext (by rw [lL]; rfl) (fun j hj => HL.out.2 j (by omega))
      obtain ⟨L0, hL0⟩ : ∃ L0, iv = L0 := ⟨_, rfl⟩
      have l0 : L0.length = 8 := by rw [← hL0]; rfl
      have H3 := Lib.hid (And.intro (show SMem w g3 L0 wr by rw [← hL0, ← hLe]; exact HL.out.1) hL0)
      have c0 := H3.out.1.h.cell 0 (by omega)
      clear hLe hL0 HL HM0
      obtain ⟨wo, hwo⟩ : ∃ x, x = wr := ⟨_, rfl⟩
      subst hwo
      go_wp2_with (first | (refine wpList_store_word0 (by rfl) (by rfl) (.tmp 21) (.tmp 20) rfl Try.size35 g3 36 L0 H3.out.1.h 0 (by omega) (xr (st L0 0) 16842784) (by rfl) (by rfl) ?_; intro w3 hw3 hc3; clear c0))
      have hh0 : L0.set 0 (xr (st L0 0) 16842784) = chainS b 0 := by rw [← H3.out.2]; rfl
      rw [hh0] at hw3
      have H4 := Lib.hid (H3.out.1.setH hw3 hc3)
      clear hw3 hc3 hh0 H3
      go_loopw [6] (fun q wr => ∃ (k : Nat), q = .int .i64 (64 * (k : Int)) ∧ (k = 0 ∨ 64 * k < b.length) ∧ 64 * k ≤ b.length ∧ SMem w g3 (chainS b k) wr) (fun q _ => b.length - (intOf q).toNat)
      case atStart => exact ⟨0, by simp, .inl rfl, by omega, H4.out⟩
      case round =>
        obtain ⟨k, rfl, hk0, hkl, hK⟩ := hrel
        obtain ⟨C, hC⟩ : ∃ C, chainS b k = C := ⟨_, rfl⟩
        have lC : C.length = 8 := by rw [← hC]; exact chainS_length b k
        rw [hC] at hK
        have HK := Lib.hid (And.intro hK hC)
        clear hK hC H4
        have hu36 := Try.underlying36
        have hi36 : (Try.prog.info? 36).map (·.size) = some (wcells C).length := by simpa using size36 lC
        by_cases hk64 : 64 * k + 64 < b.length
        · have e2 : decide ((64 : Int) < (b.length : Int) - 64 * (k : Int)) = true := by simp; omega
          obtain ⟨q, off, rfl, hq, hqlt, hcc⟩ := HC.out.2 (by omega)
          obtain ⟨B, hB⟩ : ∃ B, (b.drop (64 * k)).take 64 = B := ⟨_, rfl⟩
          have lB : B.length = 64 := by rw [← hB]; simp; omega
          have hby : Bytes wr.drew q (off + 64 * k) B := by
            refine ⟨Nat.lt_of_lt_of_le hqlt HK.out.1.below.size, fun j hj => ?_⟩
            rw [lB] at hj
            have h1 := (HK.out.1.below.cell (p := ⟨q, off + (64 * k + j), none⟩) hqlt).trans (hcc (64 * k + j) (by omega))
            rw [← hB, st_take _ _ _ hj, st_drop]
            simpa [Nat.add_assoc] using h1
          obtain ⟨C', hC'⟩ : ∃ C', chainS b (k + 1) = C' := ⟨_, rfl⟩
          have lC' : C'.length = 8 := by rw [← hC']; exact chainS_length b (k + 1)
          have K21 := Lib.hid (rwork_any wr.drew C lC q (off + 64 * k) (cv - 64 * k) B hby lB (64 * (k : Int) + 64) false)
          have hcn := chain_next b k (by omega)
          rw [HK.out.2, hB, hC'] at hcn
          rw [hcn] at K21
          have HC' := Lib.hid hC'
          have qs := fun (w0 : World) => slice26p q off b.length cv (64 * k) (by omega) HC.out.1 (64 * (k : Int)) (by omega) w0
          have s1 : IntKind.i64.wrap ((b.length : Int) - 64 * (k : Int)) = (b.length : Int) - 64 * (k : Int) := IntWalk.i64_in _ (by omega)
          have s2 : IntKind.i64.wrap (64 * (k : Int) + 64) = 64 * (k : Int) + 64 := IntWalk.i64_in _ (by omega)
          have s3 : IntKind.u64.wrap (64 * (k : Int) + 64) = 64 * (k : Int) + 64 := by rw [wrap_u64]; omega
          have hrg := range_of HK.out.1.h.heap
          have hk1 : 64 * (k + 1) ≤ b.length := by omega
          have hk2 : 64 * (k + 1) < b.length := by omega
          clear hcn hC' hB hby hcc hqlt hq
          go_wp2_with fail
          go_still_tail 9, (by kernel_rfl)
          refine still_load (by rfl) rfl g3 (wcells C) rfl ((World.rangeAt_drew _ _ _ _).2 hrg) _ hu36 (by rfl) hi36 (fun K hK => ?_)
          go_simp; refine hK _ ?_; clear hK K
          repeat still_step
          refine wpStill_nil ?_
          go_wp2_with (first | (go_at_call 21; refine K21.out.mono ?_; rintro e x1 ⟨rfl, hbx⟩; have HX := Lib.hid ((HK.out.1.drewN 1).new (Ch.of_below hbx)); clear hbx) | (refine wpList_store_arr (by rfl) 36 (.tmp 3) (.tmp 37) (by rfl) g3 36 (wcells C).toArray (wcells C').toArray HX.out.h.heap (size36 lC') (by simp [wcells, lC, lC']) (wcells_one C') (by rfl) (by rfl) ?_; intro x2 hx2 hcx2))
          go_roundw
          case rel => exact ⟨k + 1, by go_num, .inr hk2, hk1, by rw [HC'.out]; exact HX.out.setH ⟨hx2⟩ hcx2⟩
          case measure => simp [intOf]; omega
        · obtain ⟨D, hD⟩ : ∃ D, b.drop (64 * k) = D := ⟨_, rfl⟩
          have lD : D.length = b.length - 64 * k := by rw [← hD]; simp
          have hD64 : D.length ≤ 64 := by omega
          have e2 : decide ((64 : Int) < (D.length : Int)) = false := by simp; omega
          obtain ⟨pz, hpz⟩ : ∃ pz, 64 - D.length = pz := ⟨_, rfl⟩
          have h64 : D.length + pz = 64 := by omega
          have s1 : IntKind.i64.wrap ((b.length : Int) - 64 * (k : Int)) = (D.length : Int) := by rw [IntWalk.i64_in _ (by omega)]; omega
          have s2 : IntKind.i64.wrap (64 - (D.length : Int)) = (pz : Int) := by rw [IntWalk.i64_in _ (by omega)]; omega
          have s3 : IntKind.u64.wrap (b.length : Int) = (b.length : Int) := by rw [wrap_u64]; omega
          obtain ⟨vr, hvr, hrd, hrn⟩ := slice26n HR.out.1 HR.out.2 (64 * k) hkl
          have e64 : ((64 * k : Nat) : Int) = 64 * (k : Int) := by omega
          rw [hD] at hrd
          simp only [e64] at hvr
          have hszr := HK.out.1.below.size
          have hb3 : Below w.heap.size w (wr.alloc (.cells #[] 5)) := HK.out.1.below.alloc hszr _
          have HU := Lib.hid (And.intro (hrd.new hb3 (Nat.le_refl _)) hrn)
          have hfin := final_digest b k hk0 (by omega) (by omega)
          rw [HK.out.2, hD] at hfin
          obtain ⟨X, hX⟩ : ∃ X, digestW b = X := ⟨_, rfl⟩
          rw [hX] at hfin
          have lX : X.length = 8 := by rw [← hfin]; exact workS_length _ _ _ _
          have HX := Lib.hid (And.intro hfin hX)
          have HP := Lib.hid (And.intro hpz (And.intro hD64 h64))
          clear hrd hrn hb3 e64 hD hfin hX hpz lD hD64 h64
          go_upto_region 13 with (first | (at_builtin; refine wpList_append_bytes rfl (.tmp 40) (.tmp 43) 26 rfl w.heap.size i0 (.int .u8 0) Try.underlying26 hi0 hz0 hz1 hz2 rfl _ [] rfl (World.ownsRow_made (base := w.heap.size) (e := 5) (size := 1) wr #[] 0 hszr (Nat.zero_le _) rfl) _ rfl D w.heap.size HU.out.1 HU.out.2 (by have := HP.out.2.1; simp; omega) (by simp; omega) ?_; intro vp w4 hown4 hg4 hloc4) | (at_builtin; refine wpList_append_zeros rfl (.tmp 44) (.tmp 48) 26 3 rfl w.heap.size 5 .i64 i0 (.int .u8 0) (.int .u8 0) Try.underlying26 Try.underlying3 hi0 hz0 hz1 hz2 rfl rfl vp D.length (bcells D) rfl hown4 pz rfl (by have := HP.out.2.2; omega) (Nat.le_trans hszr (Nat.le_trans (by simp) hg4.size)) ?_; intro vz w5 hown5 hg5 hloc5))
          have h64 := HP.out.2.2
          have hown4' : w4.ownsRow w.heap.size 5 1 vp D.length (bcells D) := hown4
          have hcz : bcells D ++ List.replicate pz (.int .u8 0) = bcells (padS D) := by
            rw [← HP.out.1]
            simp [bcells, padS]
          rw [hcz, h64] at hown5
          have hloc : ∀ x, vp.ownBlock = some x → wr.heap.size ≤ x := by
            intro x hx
            rcases hloc4 with e | e
            · rw [e] at hx; cases hx; exact Nat.le_refl _
            · rw [e] at hx; simp at hx; omega
          have hc4 : Ch (fun _ => False) wr w4 := ((Ch.refl (fun _ => False) wr).alloc (.cells #[] 5)).grownB hg4 (fun x hx hlt' => absurd hlt' (by have h9 : some wr.heap.size = some x := hx; cases h9; exact Nat.lt_irrefl _))
          have hc5 : Ch (fun _ => False) wr w5 := hc4.grownB hg5 (fun x hx hlt' => absurd hlt' (Nat.not_lt.2 (hloc x hx)))
          obtain ⟨q', cap', rfl⟩ : ∃ q cap, vz = .slice (some ⟨q, 0, none⟩) 64 cap := by
            rcases hown5.2 with ⟨_, h0⟩ | ⟨q, cap, cur, hv, _⟩
            · omega
            · exact ⟨q, cap, hv⟩
          have lP : (padS D).length = 64 := padS_length D HP.out.2.1
          have hby : Bytes w5 q' 0 (padS D) := by
            refine ⟨World.block_lt_of_cell? w5 ⟨q', 0, none⟩ (own_cellB hown5 0 (by omega)).1, fun j hj => ?_⟩
            rw [Nat.zero_add]
            exact (own_cellB hown5 j (by omega)).1
          have K21 := Lib.hid (rwork_any w5 C lC q' 0 cap' (padS D) hby lP (b.length : Int) true)
          rw [HX.out.1] at K21
          have H5 := Lib.hid (HK.out.1.new hc5)
          clear hown4 hown4' hown5 hg4 hg5 hloc4 hloc5 hcz hloc hc4 hc5 hby lP h64
          go_wp2_with (first | (refine wpList_load_arr (by rfl) 36 (.tmp 3) (by rfl) g3 36 _ H5.out.h.heap 8 35 Try.underlying36 (size36 lC) (by rfl) ?_))
          refine K21.out.mono ?_
          rintro e x1 ⟨rfl, hbx⟩
          have H6 := Lib.hid (H5.out.new (Ch.of_below hbx))
          clear hbx
          go_wp2_with (first | (refine wpList_store_arr (by rfl) 36 (.tmp 3) (.tmp 54) (by rfl) g3 36 (wcells C).toArray (wcells X).toArray H6.out.h.heap (size36 lX) (by simp [wcells, lC, lX]) (wcells_one X) (by rfl) (by rfl) ?_; intro x2 hx2 hcx2) | (refine wpList_alloc_any (w := x2) (by rfl) 28 (by rfl) (bcells (List.replicate 32 0)).toArray z28.out ?_; intro x3 hx3 hcx3 hzx3))
          have H7 := Lib.hid (And.intro ((H6.out.setH ⟨hx2⟩ hcx2).new hcx3) hx3)
          have hg8 : g3 < x2.heap.size := (Array.getElem?_eq_some_iff.1 hx2).1
          clear hx2 hcx2 hx3 hcx3 hzx3 H6 H5 K21
          generalize x2.heap.size = g8 at H7 hg8 ⊢
          obtain ⟨wq, hwq⟩ : ∃ x, x = wr := ⟨_, rfl⟩
          subst hwq
          go_loopw [9] (fun q wr => ∃ (i : Nat) (O : List Int), q = .int .i64 i ∧ i ≤ 32 ∧ SMem w g3 X wr ∧ wr.heap[g8]? = some (.cells (bcells O).toArray 28 (0, 0)) ∧ O.length = 32 ∧ (∀ j, j < i → st O j = st (outB X) j)) (fun q _ => 32 - (intOf q).toNat)
          case atStart => exact ⟨0, List.replicate 32 0, rfl, by omega, H7.out.1, H7.out.2, by simp, fun j hj => by omega⟩
          case round =>
            obtain ⟨i, O, rfl, hi, hS, hO, lO, hdn⟩ := hrel
            have HO := Lib.hid (And.intro hS (And.intro hO hdn))
            clear hS hO hdn
            by_cases hi32 : i < 32
            · have e3 : decide ((i : Int) < 32) = true := by simp; omega
              have p0 : (0 : Int) ≤ (i : Int) := by omega
              have p1 : (i : Int) < 32 := by omega
              obtain ⟨j, hj⟩ : ∃ j, i / 4 = j := ⟨_, rfl⟩
              have hj8 : j < 8 := by omega
              have q0 : (0 : Int) ≤ (j : Int) := by omega
              have q1 : (j : Int) < 8 := by omega
              have t1 : Int.tdiv (i : Int) 4 = (j : Int) := by rw [Int.tdiv_eq_ediv_of_nonneg (by omega)]; omega
              have t3 : IntKind.i64.wrap (j : Int) = (j : Int) := IntWalk.i64_in _ (by omega)
              have cX := HO.out.1.h.cell j (by omega)
              have hst : st (outB X) i = IntKind.u8.wrap (st X j / 2 ^ (8 * (i % 4))) := by rw [outB_at X i hi32, hj]
              have HST := Lib.hid hst
              have HJ := Lib.hid hj
              clear hst hj
              by_cases hr0 : i % 4 = 0
              · have t2 : Int.tmod (i : Int) 4 = 0 := by rw [Int.tmod_eq_emod_of_nonneg (by omega)]; omega
                have hv : st (outB X) i = IntKind.u8.wrap (st X j) := by rw [HST.out, hr0]; simp
                have HV := Lib.hid hv
                clear hv hr0
                go_wp2_with (first | (refine wpList_store_cell (by rfl) (by rfl) 5 (.tmp 69) (.tmp 68) (by rfl) Try.size5 g8 28 (bcells O) HO.out.2.1 i (by rw [bcells_length, lO]; exact hi32) (.int .u8 (IntKind.u8.wrap (st X j))) (by rfl) (by rfl) (by rfl) ?_; intro y0 hy0 hd0; rw [bcells_set] at hy0))
                go_roundw
                case rel =>
                  refine ⟨i + 1, _, by go_num, by omega, ⟨HO.out.1.lt, (hd0.block _ (Array.getElem?_eq_some_iff.1 HO.out.1.res).1 (by have := HO.out.1.lt; omega)).trans HO.out.1.res, HO.out.1.h.ch hd0 (by omega), HO.out.1.below.trans (hd0.below (by have := HO.out.1.lt; rintro x rfl; omega) HO.out.1.below.size)⟩, hy0, by rw [List.length_set]; exact lO, fun x hx => ?_⟩
                  by_cases e : x = i
                  · subst e; rw [st_set_self (by omega), HV.out]
                  · rw [st_set_ne (fun h => e h.symm)]; exact HO.out.2.2 x (by omega)
                case measure => simp [intOf]; omega
              by_cases hr1 : i % 4 = 1
              · have t2 : Int.tmod (i : Int) 4 = 1 := by rw [Int.tmod_eq_emod_of_nonneg (by omega)]; omega
                have hv : st (outB X) i = IntKind.u8.wrap (st X j / 256) := by rw [HST.out, hr1]; rfl
                have HV := Lib.hid hv
                clear hv hr0 hr1
                go_wp2_with (first | (refine wpList_store_cell (by rfl) (by rfl) 5 (.tmp 69) (.tmp 68) (by rfl) Try.size5 g8 28 (bcells O) HO.out.2.1 i (by rw [bcells_length, lO]; exact hi32) (.int .u8 (IntKind.u8.wrap (st X j / 256))) (by rfl) (by rfl) (by rfl) ?_; intro y0 hy0 hd0; rw [bcells_set] at hy0))
                go_roundw
                case rel =>
                  refine ⟨i + 1, _, by go_num, by omega, ⟨HO.out.1.lt, (hd0.block _ (Array.getElem?_eq_some_iff.1 HO.out.1.res).1 (by have := HO.out.1.lt; omega)).trans HO.out.1.res, HO.out.1.h.ch hd0 (by omega), HO.out.1.below.trans (hd0.below (by have := HO.out.1.lt; rintro x rfl; omega) HO.out.1.below.size)⟩, hy0, by rw [List.length_set]; exact lO, fun x hx => ?_⟩
                  by_cases e : x = i
                  · subst e; rw [st_set_self (by omega), HV.out]
                  · rw [st_set_ne (fun h => e h.symm)]; exact HO.out.2.2 x (by omega)
                case measure => simp [intOf]; omega
              by_cases hr2 : i % 4 = 2
              · have t2 : Int.tmod (i : Int) 4 = 2 := by rw [Int.tmod_eq_emod_of_nonneg (by omega)]; omega
                have hv : st (outB X) i = IntKind.u8.wrap (st X j / 65536) := by rw [HST.out, hr2]; rfl
                have HV := Lib.hid hv
                clear hv hr0 hr1 hr2
                go_wp2_with (first | (refine wpList_store_cell (by rfl) (by rfl) 5 (.tmp 69) (.tmp 68) (by rfl) Try.size5 g8 28 (bcells O) HO.out.2.1 i (by rw [bcells_length, lO]; exact hi32) (.int .u8 (IntKind.u8.wrap (st X j / 65536))) (by rfl) (by rfl) (by rfl) ?_; intro y0 hy0 hd0; rw [bcells_set] at hy0))
                go_roundw
                case rel =>
                  refine ⟨i + 1, _, by go_num, by omega, ⟨HO.out.1.lt, (hd0.block _ (Array.getElem?_eq_some_iff.1 HO.out.1.res).1 (by have := HO.out.1.lt; omega)).trans HO.out.1.res, HO.out.1.h.ch hd0 (by omega), HO.out.1.below.trans (hd0.below (by have := HO.out.1.lt; rintro x rfl; omega) HO.out.1.below.size)⟩, hy0, by rw [List.length_set]; exact lO, fun x hx => ?_⟩
                  by_cases e : x = i
                  · subst e; rw [st_set_self (by omega), HV.out]
                  · rw [st_set_ne (fun h => e h.symm)]; exact HO.out.2.2 x (by omega)
                case measure => simp [intOf]; omega
              have hr3 : i % 4 = 3 := by omega
              have t2 : Int.tmod (i : Int) 4 = 3 := by rw [Int.tmod_eq_emod_of_nonneg (by omega)]; omega
              have hv : st (outB X) i = IntKind.u8.wrap (st X j / 16777216) := by rw [HST.out, hr3]; rfl
              have HV := Lib.hid hv
              clear hv hr0 hr1 hr2 hr3
              go_wp2_with (first | (refine wpList_store_cell (by rfl) (by rfl) 5 (.tmp 69) (.tmp 68) (by rfl) Try.size5 g8 28 (bcells O) HO.out.2.1 i (by rw [bcells_length, lO]; exact hi32) (.int .u8 (IntKind.u8.wrap (st X j / 16777216))) (by rfl) (by rfl) (by rfl) ?_; intro y0 hy0 hd0; rw [bcells_set] at hy0))
              go_roundw
              case rel =>
                refine ⟨i + 1, _, by go_num, by omega, ⟨HO.out.1.lt, (hd0.block _ (Array.getElem?_eq_some_iff.1 HO.out.1.res).1 (by have := HO.out.1.lt; omega)).trans HO.out.1.res, HO.out.1.h.ch hd0 (by omega), HO.out.1.below.trans (hd0.below (by have := HO.out.1.lt; rintro x rfl; omega) HO.out.1.below.size)⟩, hy0, by rw [List.length_set]; exact lO, fun x hx => ?_⟩
                by_cases e : x = i
                · subst e; rw [st_set_self (by omega), HV.out]
                · rw [st_set_ne (fun h => e h.symm)]; exact HO.out.2.2 x (by omega)
              case measure => simp [intOf]; omega
            · have e3 : decide ((i : Int) < 32) = false := by simp; omega
              have hOe : O = outB X := st_ext (by rw [lO, outB_length]) (fun j hj => HO.out.2.2 j (by rw [lO] at hj; omega))
              have HOE := Lib.hid hOe
              clear hOe
              go_wp2_with (first | (refine wpList_load_arr (by rfl) 28 (.tmp 8) (by rfl) g8 28 _ HO.out.2.1 32 5 Try.underlying28 (size28 lO) (by rfl) ?_) | (refine wpList_store_arr (by rfl) 28 (.tmp 2) (.tmp 70) (by rfl) w.heap.size 28 _ _ HO.out.1.res (size28 lO) (by simp [bcells, lO]) (bcells_all _) (by rfl) (by rfl) ?_; intro y9 hy9 hd9))
              refine bodyPost_ret (ret_arr rfl w.heap.size 28 _ 32 5 (by rfl) hy9 Try.underlying28 (size28 lO)) rfl ?_
              refine ⟨?_, HO.out.1.below.trans (hd9.below (by rintro x rfl; exact Nat.le_refl _) HO.out.1.below.size)⟩
              rw [HOE.out, ← HX.out.2]; rfl
end Go.Proofs.Ytnmooepmpebepaa
