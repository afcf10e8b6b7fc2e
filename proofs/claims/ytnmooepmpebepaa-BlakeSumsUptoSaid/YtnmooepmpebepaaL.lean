import Derived.Test.YtnmooepmpebepaaK
namespace Go.Proofs.Ytnmooepmpebepaa
open Go.RowKit

theorem digest_nil (w : World) : Calls Try.prog 13 #[.pointer none] w (BytesEnd w (sumS [])) := by
  have z28 := Lib.hid (zero_of_info zero28).1
  go_enter Try.func13, Try.ntmps13
  go_wp2_with (first | (refine wpList_alloc_any (by rfl) 28 (by rfl) (bcells (List.replicate 32 0)).toArray z28.out ?_; intro w1 hw1 hc1 hz1))
  have H1 := Lib.hid (And.intro hw1 hc1)
  clear hw1 hc1
  refine (new_any _).mono ?_
  rintro e w2 ⟨g, rfl, hg, hh, hb⟩
  have H2 := Lib.hid (And.intro hh (And.intro hg hb))
  clear hh hg hb
  go_wp2_with fail
  refine (digest_any _ g [] ⟨_, H2.out.1, inv_new⟩).mono ?_
  rintro e w3 ⟨rfl, hb3⟩
  have hr3 := (hb3.block w.heap.size (by have := H2.out.2.2.size; omega)).trans ((H2.out.2.2.block w.heap.size hz1).trans H1.out.1)
  have H3 := Lib.hid (And.intro hr3 hb3)
  have hl : (sumS []).length = 32 := outB_length _
  clear hr3 hb3
  go_wp2_with (first | (refine wpList_store_arr (by rfl) 28 (.tmp 2) (.tmp 11) (by rfl) w.heap.size 28 _ _ H3.out.1 (size28 hl) (by simp [bcells, hl]) (bcells_all _) (by rfl) (by rfl) ?_; intro y9 hy9 hd9))
  refine bodyPost_ret (ret_arr rfl w.heap.size 28 _ 32 5 (by rfl) hy9 Try.underlying28 (size28 hl)) rfl ?_
  have hb1 : Below w.heap.size w w1 := H1.out.2.below (by simp) (Nat.le_refl _)
  have hb2 := hb1.trans (H2.out.2.2.mono hb1.size)
  have hb3 := hb2.trans (H3.out.2.mono hb2.size)
  exact ⟨rfl, hb3.trans (hd9.below (by rintro k rfl; exact Nat.le_refl _) hb3.size)⟩

/-- Slices of bytes, in a slice. -/
def Parts (w : World) (v : Value) (ps : List (List Int)) : Prop :=
  ∃ a cap, v = .slice a ps.length cap ∧ (0 < ps.length → ∃ q off, a = some ⟨q, off, none⟩ ∧ q < w.heap.size ∧ ∀ k, k < ps.length → ∃ u, w.cell? ⟨q, off + k, none⟩ = some u ∧ u.oneCell' = true ∧ ReadsB w.heap.size w u (ps.getD k []))
theorem ReadsB.new {w w' : World} {g : Nat} {v : Value} {b : List Int} (h : ReadsB w.heap.size w v b) (hb : Below w.heap.size w w') (hg : w.heap.size ≤ g) : ReadsB g w' v b := by
  obtain ⟨a, cap, hv, hle, hr⟩ := h
  refine ⟨a, cap, hv, hle, fun h0 => ?_⟩
  obtain ⟨q, off, ha, hq, hlt, hcell⟩ := hr h0
  exact ⟨q, off, ha, by omega, Nat.lt_of_lt_of_le hlt hb.size, fun j hj => (hb.cell (p := ⟨q, off + j, none⟩) hlt).trans (hcell j hj)⟩

set_option maxRecDepth 100000 in
set_option maxHeartbeats 8000000 in
theorem sum_any (w : World) (v : Value) (ps : List (List Int)) (hp : Parts w v ps) (hlen : ps.length ≤ 4611686018427387904) : Calls Try.prog 14 #[v] w (BytesEnd w (sumS ps.flatten)) := by
  obtain ⟨a, cap, rfl, hps⟩ := hp
  have HP := Lib.hid hps
  have z28 := Lib.hid (zero_of_info zero28).1
  clear hps
  go_enter Try.func14, Try.ntmps14
  go_wp2_with (first | (refine wpList_alloc_any (by rfl) 28 (by rfl) (bcells (List.replicate 32 0)).toArray z28.out ?_; intro w1 hw1 hc1 hz1))
  have hb1 : Below w.heap.size w w1 := hc1.below (by simp) (Nat.le_refl _)
  have H1 := Lib.hid (And.intro hw1 hb1)
  clear hw1 hc1 hb1
  refine (new_any _).mono ?_
  rintro e w2 ⟨g, rfl, hg, hh, hb⟩
  have hb2 := H1.out.2.trans (hb.mono H1.out.2.size)
  have hr2 := (hb.block w.heap.size hz1).trans H1.out.1
  have H2 := Lib.hid (And.intro hh (And.intro hb2 hr2))
  clear hh hb hb2 hr2
  go_wp2_with fail
  go_loopw [9] (fun q wr => ∃ k : Nat, k ≤ ps.length ∧ q = .int .i64 k ∧ Given wr g (ps.take k).flatten ∧ Ch (fun i => i = g) w2 wr) (fun q _ => ps.length - (intOf q).toNat)
  case atStart => exact ⟨0, Nat.zero_le _, rfl, ⟨_, H2.out.1, inv_new⟩, Ch.refl _ _⟩
  case round =>
    obtain ⟨k, hk, rfl, hgv, hch⟩ := hrel
    have HK := Lib.hid (And.intro hgv hch)
    clear hgv hch
    by_cases hkl : k < ps.length
    · have e1 : decide ((k : Int) < (ps.length : Int)) = true := by simp; omega
      have p0 : (0 : Int) ≤ (k : Int) := by omega
      have p1 : (k : Int) < (ps.length : Int) := by omega
      obtain ⟨q, off, rfl, hq, hcells⟩ := HP.out (by omega)
      obtain ⟨u, hu, hu1, hur⟩ := hcells k hkl
      have hbr := H2.out.2.1.trans (HK.out.2.below (B := w.heap.size) (by rintro i rfl; omega) H2.out.2.1.size)
      have cu := (hbr.cell (p := ⟨q, off + k, none⟩) hq).trans hu
      have hrd := hur.new hbr (show w.heap.size ≤ g by omega)
      obtain ⟨au, nu, cu', hv⟩ : ∃ a n c, u = .slice a n c := by
        obtain ⟨a, c, h, _⟩ := hur
        exact ⟨_, _, _, h⟩
      subst hv
      have HR := Lib.hid (And.intro hrd hbr)
      clear hcells hu hu1 hur hrd hbr
      go_wp2_with fail
      refine (add_any _ g _ _ _ HK.out.1 HR.out.1).mono ?_
      rintro e w5 ⟨rfl, hgv, hc5⟩
      go_wp2_with fail
      go_roundw
      case rel =>
        refine ⟨k + 1, by omega, by go_num, ?_, HK.out.2.trans hc5 (fun _ _ h => h)⟩
        have e : (ps.take (k + 1)).flatten = (ps.take k).flatten ++ ps.getD k [] := by
          rw [List.take_succ_eq_append_getElem hkl, List.flatten_append]
          simp [List.getD, List.getElem?_eq_getElem hkl]
        rw [e]
        exact hgv
      case measure => simp [intOf]; omega
    · have e1 : decide ((k : Int) < (ps.length : Int)) = false := by simp; omega
      have hfl : (ps.take k).flatten = ps.flatten := by rw [List.take_of_length_le (by omega)]
      have hgf := HK.out.1
      rw [hfl] at hgf
      have hl : (sumS ps.flatten).length = 32 := outB_length _
      have HGF := Lib.hid hgf
      clear hgf hfl
      go_wp2_with fail
      refine (digest_any _ g _ HGF.out).mono ?_
      rintro e w5 ⟨rfl, hb5⟩
      have hlr : w.heap.size < w2.heap.size := (Array.getElem?_eq_some_iff.1 H2.out.2.2).1
      have hr5 := (hb5.block w.heap.size (by have := HK.out.2.size; omega)).trans ((HK.out.2.block w.heap.size hlr (by omega)).trans H2.out.2.2)
      have hbr := H2.out.2.1.trans (HK.out.2.below (B := w.heap.size) (by rintro i rfl; omega) H2.out.2.1.size)
      have H5 := Lib.hid (And.intro hr5 (hbr.trans (hb5.mono hbr.size)))
      clear hr5 hb5 hbr
      go_wp2_with (first | (refine wpList_store_arr (by rfl) 28 (.tmp 2) (.tmp 18) (by rfl) w.heap.size 28 _ _ H5.out.1 (size28 hl) (by simp [bcells, hl]) (bcells_all _) (by rfl) (by rfl) ?_; intro y9 hy9 hd9))
      refine bodyPost_ret (ret_arr rfl w.heap.size 28 _ 32 5 (by rfl) hy9 Try.underlying28 (size28 hl)) rfl ?_
      exact ⟨rfl, H5.out.2.trans (hd9.below (by rintro k rfl; exact Nat.le_refl _) H5.out.2.size)⟩

set_option maxHeartbeats 2000000 in
theorem bwork_any (w : World) (H B : List Int) (hH : H.length = 8) (hB : B.length = 64) (t : Int) (last : Bool) :
    Calls Try.prog 17 #[.agg (wcells H).toArray, .agg (bcells B).toArray, .int .u64 t, .bool last] w (ValEnd w (workS H B t last)) := by
  have z36 := Lib.hid (zero_of_info zero36).1
  go_enter Try.func17, Try.ntmps17
  go_wp2_with (first | (refine wpList_box_any (by rfl) 36 (.tmp 0) (by rfl) _ (wcells H).toArray (by rfl) (by rfl) ?_; intro w1 hw1 hc1; have hl1 := (Array.getElem?_eq_some_iff.1 hw1).1) | (refine wpList_box_any (by rfl) 38 (.tmp 1) (by rfl) _ (bcells B).toArray (by rfl) (by rfl) ?_; intro w2 hw2 hc2; have hl2 := (Array.getElem?_eq_some_iff.1 hw2).1) | (refine wpList_alloc_any (by rfl) 36 (by rfl) (wcells (List.replicate 8 0)).toArray z36.out ?_; intro w3 hw3 hc3 hz3))
  have hx3 := (hc3.block _ (Nat.lt_of_lt_of_le hl1 hc2.size) (by simp)).trans ((hc2.block _ hl1 (by simp)).trans hw1)
  have hy3 := (hc3.block _ hl2 (by simp)).trans hw2
  have hb1 : Below w.heap.size w w1 := hc1.below (by simp) (Nat.le_refl _)
  have hb2 := hb1.trans (hc2.below (B := w.heap.size) (by simp) hb1.size)
  have hb3 := hb2.trans (hc3.below (B := w.heap.size) (by simp) hb2.size)
  have hl13 : w.heap.size < w2.heap.size := Nat.lt_of_lt_of_le hl1 hc2.size
  have H3 := Lib.hid (And.intro hx3 (And.intro hy3 (And.intro hw3 hb3)))
  clear hx3 hy3 hw3 hw1 hw2 hc1 hc2 hc3 hb1 hb2 hb3
  refine (work_any w3 w.heap.size 0 36 [] [] H (mid_of H3.out.1) rfl hH w1.heap.size 0 B (bytes_of H3.out.2.1) hB t last).mono ?_
  rintro e w4 ⟨rfl, hm4, hc4⟩
  have lW := workS_length H B t last
  have hr4 := (hc4.block w2.heap.size hz3 (by omega)).trans H3.out.2.2.1
  have H4 := Lib.hid (And.intro (of_mid hm4) (And.intro hr4 (H3.out.2.2.2.trans (hc4.below (by rintro k rfl; exact Nat.le_refl _) H3.out.2.2.2.size))))
  clear hm4 hc4 hr4
  go_wp2_with (first | (refine wpList_load_arr (by rfl) 36 (.tmp 4) (by rfl) w.heap.size 36 _ H4.out.1 8 35 Try.underlying36 (size36 lW) (by rfl) ?_) | (refine wpList_store_arr (by rfl) 36 (.tmp 8) (.tmp 12) (by rfl) w2.heap.size 36 _ _ H4.out.2.1 (size36 lW) (by simp [wcells, lW]) (wcells_one _) (by rfl) (by rfl) ?_; intro y9 hy9 hd9))
  refine bodyPost_ret (ret_arr rfl w2.heap.size 36 _ 8 35 (by rfl) hy9 Try.underlying36 (size36 lW)) rfl ?_
  exact ⟨rfl, H4.out.2.2.trans (hd9.below (by rintro k rfl; omega) H4.out.2.2.size)⟩

end Go.Proofs.Ytnmooepmpebepaa
