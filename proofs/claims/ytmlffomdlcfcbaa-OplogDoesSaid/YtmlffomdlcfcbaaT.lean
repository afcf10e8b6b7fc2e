import Derived.Test.YtmlffomdlcfcbaaS
namespace Go.Proofs.Ytmlffomdlcfcbaa
open Go.RowKit

set_option maxRecDepth 100000 in
/-- The calls with a number that no log may have, or with a list that is too long. -/
theorem does_bad (w : World) (v0 : Value) (base c : Int) (a1 : Option Addr) (len cap : Nat)
    (h6 : Calls Try.prog 6 #[.int .i64 base, v0] w fun e w' => e = .returned (.tuple #[.pointer none, .int .i64 c]) ∧ w = w')
    (h7 : Calls Try.prog 7 #[.int .i64 base, v0] w fun e w' => e = .returned (.tuple #[.pointer none, .int .i64 c]) ∧ w = w') :
    Calls Try.prog 3 #[.int .i64 base, v0, .slice a1 len cap] w (Holds w) := by
  have H6 := Lib.hid h6
  have H7 := Lib.hid h7
  clear h6 h7
  go_enter Try.func3, Try.ntmps3
  go_wp2_with fail
  refine H6.out.mono ?_
  rintro e w1 ⟨rfl, rfl⟩
  go_wp2_with fail
  refine H7.out.mono ?_
  rintro e w1 ⟨rfl, rfl⟩
  clear H6 H7
  go_wp2_with fail
  refine (lives_any _).mono ?_
  rintro e w2 ⟨rfl, hb2⟩
  go_wp2
  go_loopw [11] (fun i wr => i = .int .i64 0 ∧ Below w.heap.size w wr) (fun _ _ => 0)
  case atStart => exact ⟨rfl, hb2⟩
  case round =>
    obtain ⟨rfl, hbel⟩ := hrel
    clear hb2
    by_cases hl : 0 < len
    · have d1 : decide ((0 : Int) < (len : Int)) = true := by simp; omega
      go_wp2
      go_ret
      exact ⟨rfl, hbel⟩
    · have d1 : decide ((0 : Int) < (len : Int)) = false := by simp; omega
      go_wp2
      go_ret
      exact ⟨rfl, hbel⟩

theorem Reads.below {w w' : World} {v : Value} {vs : List Value} (h : Reads w v vs) (hb : Below w.heap.size w w') : Reads w' v vs := by
  rcases h with h | ⟨a, cap, h1, h2⟩
  · exact .inl h
  · exact .inr ⟨a, cap, h1, fun j u hj => (hb.cell (World.block_lt_of_cell? _ _ (h2 j u hj))).trans (h2 j u hj)⟩

/-- What stood among the first k. -/
def seenB (base : Int) (k : Nat) (n : Int) : Bool := decide (base < n ∧ n ≤ base + k)
def seenS (base : Int) (xs : List ByteArray) (k : Nat) (n : Int) : ByteArray := if base < n ∧ n ≤ base + k then xs.getD (n - base - 1).toNat ByteArray.empty else ⟨#[]⟩

theorem seenB_zero (base n : Int) : seenB base 0 n = false := by unfold seenB; rw [decide_eq_false_iff_not]; omega
theorem seenS_zero (base n : Int) (xs : List ByteArray) : seenS base xs 0 n = ⟨#[]⟩ := by unfold seenS; rw [if_neg (by omega)]
theorem seenB_hit (base n : Int) (q : Nat) (h : base + 1 + q = n) : seenB base (q + 1) n = true := by unfold seenB; rw [decide_eq_true_iff]; omega
theorem seenS_hit (base n : Int) (xs : List ByteArray) (q : Nat) (h : base + 1 + q = n) : seenS base xs (q + 1) n = xs.getD q ByteArray.empty := by
  unfold seenS; rw [if_pos (by omega), show (n - base - 1).toNat = q by omega]
theorem seenB_miss (base n : Int) (q : Nat) (h : ¬ base + 1 + q = n) : seenB base (q + 1) n = seenB base q n := by
  unfold seenB; congr 1; apply propext; omega
theorem seenS_miss (base n : Int) (xs : List ByteArray) (q : Nat) (h : ¬ base + 1 + q = n) : seenS base xs (q + 1) n = seenS base xs q n := by
  unfold seenS
  by_cases c : base < n ∧ n ≤ base + q
  · rw [if_pos c, if_pos (by omega)]
  · rw [if_neg c, if_neg (by omega)]

set_option maxRecDepth 100000 in
set_option maxHeartbeats 8000000 in
theorem does_ok (w : World) (v0 : Value) (first : List ByteArray) (base : Int) (hr : Reads w v0 (first.map Value.string)) (ob off len cap : Nat) (K N : Nat → Int) (X : Nat → ByteArray)
    (h0 : 0 ≤ base) (h1 : base ≤ 1099511627776) (hl : first.length ≤ 4096)
    (hlen : len ≤ 140737488355328) (hob : 0 < len → ob < w.heap.size) (hN : ∀ i, i < len → N i ≤ 9223372036854775807)
    (hk : ∀ i, i < len → w.cell? ⟨ob, off + i * 3, none⟩ = some (.int .i64 (K i))) (hn : ∀ i, i < len → w.cell? ⟨ob, off + i * 3 + 1, none⟩ = some (.int .i64 (N i))) (hx : ∀ i, i < len → w.cell? ⟨ob, off + i * 3 + 2, none⟩ = some (.string (X i))) :
    Calls Try.prog 3 #[.int .i64 base, v0, .slice (some ⟨ob, off, none⟩) len cap] w (Holds w) := by
  have Hk := Lib.hid hk; have Hn := Lib.hid hn; have Hx := Lib.hid hx; have Hob := Lib.hid hob; have HNb := Lib.hid hN
  clear hk hn hx hob hN
  have HR := Lib.hid hr
  obtain ⟨a0, c0, rfl⟩ := hr.slice
  simp only [List.length_map] at *
  clear hr
  go_enter Try.func3, Try.ntmps3
  go_wp2_with fail
  refine (new_ok w _ first HR.out base h0 h1 hl).mono ?_
  rintro e w1 ⟨b, v, rfl, hl1, hb1⟩
  go_wp2_with fail
  refine (rnew_ok w1 _ first (HR.out.below hb1) base h0 h1 hl).mono ?_
  rintro e w2 ⟨b2, v2, rfl, hr2, hb2⟩
  have hT2 : Two w w.heap.size b b2 base base first first w2 :=
    ⟨⟨v, hl1.ch (F := fun _ => False) (Ch.of_below_size hb2) (by simp) (by simp)⟩, ⟨v2, ⟨Nat.le_trans hb1.size hr2.lo, hr2.heap, ownsRow_lower hr2.own hb1.size⟩⟩, Nat.le_refl _, hb1.trans (hb2.mono hb1.size)⟩
  clear HR hl1 hr2 hb1 hb2
  go_wp2_with fail
  refine (lives_any _).mono ?_
  rintro e w3 ⟨rfl, hb3⟩
  have hT3 := hT2.above hb3
  clear hT2 hb3
  have q5 : decide ((first.length : Int) ≤ 5000) = true := by simp; omega
  go_wp2
  go_loopw [11] (fun i wr => ∃ (j : Nat) (bs : Int) (ys : List ByteArray), j ≤ len ∧ i = .int .i64 j ∧ Two w w.heap.size b b2 bs bs ys ys wr ∧ 0 ≤ bs ∧ bs + ys.length ≤ 1099511631872 + j ∧ ys.length ≤ 4096) (fun i _ => len - (intOf i).toNat)
  case atStart => exact ⟨0, base, first, Nat.zero_le _, rfl, hT3, h0, by omega, hl⟩
  case round =>
    obtain ⟨j, bs, ys, hj, rfl, hT, hb0, hbl, hyl⟩ := hrel
    clear hT3 h0 h1 hl
    by_cases hjl : j < len
    · have ck := (hT.below.cell (p := ⟨ob, off + j * 3, none⟩) (Hob.out (by omega))).trans (Hk.out j hjl)
      have cn := (hT.below.cell (p := ⟨ob, off + j * 3 + 1, none⟩) (Hob.out (by omega))).trans (Hn.out j hjl)
      have cx := (hT.below.cell (p := ⟨ob, off + j * 3 + 2, none⟩) (Hob.out (by omega))).trans (Hx.out j hjl)
      have d1 : decide ((j : Int) < (len : Int)) = true := by simp; omega
      have p0 : (0 : Int) ≤ (j : Int) := by omega
      have p1 : (j : Int) < (len : Int) := by omega
      go_upto_block 2 with fail
      obtain ⟨W1, hW1⟩ : ∃ W1, wr.alloc (.cells #[.int .i64 (K j), .int .i64 (N j), .string (X j)] 33) = W1 := ⟨_, rfl⟩
      have hT1 : Two w w.heap.size b b2 bs bs ys ys W1 := by rw [← hW1]; exact hT.above ((Below.refl _ wr).alloc (Nat.le_refl _) _)
      have hbox : W1.heap[wr.heap.size]? = some (.cells #[.int .i64 (K j), .int .i64 (N j), .string (X j)] 33 (0, 0)) := by rw [← hW1]; exact heap_alloc_new wr _
      obtain ⟨o, ho⟩ : ∃ o, wr.heap.size = o := ⟨_, rfl⟩
      rw [hW1]
      rw [ho] at hbox ⊢
      clear hW1 ho hT ck cn cx p0 p1
      have hNj := HNb.out j hjl
      obtain ⟨k, hk⟩ : ∃ k, K j = k := ⟨_, rfl⟩
      obtain ⟨n, hn⟩ : ∃ n, N j = n := ⟨_, rfl⟩
      obtain ⟨x, hx⟩ : ∃ x, X j = x := ⟨_, rfl⟩
      rw [hk, hn, hx] at hbox
      rw [hk]
      rw [hn] at hNj
      clear hk hn hx
      go_cut [13, 14, 15, 16, 17] (fun ok _ _ _ _ wx => ok = .bool true ∧ ∃ bs' ys', Two w w.heap.size b b2 bs' bs' ys' ys' wx ∧ wx.heap[o]? = some (.cells #[.int .i64 k, .int .i64 n, .string x] 33 (0, 0)) ∧ 0 ≤ bs' ∧ bs' + ys'.length ≤ 1099511631872 + j + 1 ∧ ys'.length ≤ 4096)
      case first =>
        have c0 : W1.cell? ⟨o, 0, none⟩ = some (.int .i64 k) := by simp [World.cell?, hbox]
        have c1 : W1.cell? ⟨o, 1, none⟩ = some (.int .i64 n) := by simp [World.cell?, hbox]
        have c2 : W1.cell? ⟨o, 2, none⟩ = some (.string x) := by simp [World.cell?, hbox]
        by_cases k1 : k = 1
        · subst k1
          have HT := Lib.hid hT1
          have HB := Lib.hid hbox
          clear hT1 hbox
          go_wp2_with fail
          refine (two_append HT.out hb0 (by omega) x).mono ?_
          rintro e W2 ⟨rfl, hT2, hB2⟩
          have hbox2 := hB2 _ _ _ HB.out
          have c2 : W2.cell? ⟨o, 2, none⟩ = some (.string x) := by simp [World.cell?, hbox2]
          have HT2 := Lib.hid hT2
          have HB2 := Lib.hid hbox2
          clear hT2 hbox2 hB2 HT HB
          go_wp2_with fail
          refine (two_rappend HT2.out hb0 (by omega) x).mono ?_
          rintro e W3 ⟨rfl, hT3, hB3⟩
          have hbox3 := hB3 _ _ _ HB2.out
          have hl3 := appX_length ys x hyl
          obtain ⟨nn, hnn⟩ : ∃ nn, appN bs ys = nn := ⟨_, rfl⟩
          obtain ⟨ee, hee⟩ : ∃ ee, appE ys = ee := ⟨_, rfl⟩
          obtain ⟨zs, hzs⟩ : ∃ zs, appX ys x = zs := ⟨_, rfl⟩
          rw [hnn, hee]
          rw [hzs] at hl3 hT3
          clear hnn hee hzs HT2 HB2 hB3 c2
          go_wp2_with fail
          go_meet
          case rel => exact ⟨rfl, bs, zs, hT3, hbox3, hb0, by omega, hl3.1⟩
        have kb1 : (k == 1) = false := by simpa using k1
        by_cases k2 : k = 2
        · subst k2
          have hl3 := cutX_length bs ys n
          obtain ⟨ee, hee⟩ : ∃ ee, inE bs ys n = ee := ⟨_, rfl⟩
          obtain ⟨zs, hzs⟩ : ∃ zs, cutX bs ys n = zs := ⟨_, rfl⟩
          have HT := Lib.hid (fun (W : World) (us : List ByteArray) (h : Two w w.heap.size b b2 bs bs ys us W) => two_cut h hb0 (by omega) hyl n)
          have HR := Lib.hid (fun (W : World) (us : List ByteArray) (h : Two w w.heap.size b b2 bs bs us ys W) => two_rcut h hb0 (by omega) hyl n)
          rw [hee, hzs] at HT HR
          rw [hzs] at hl3
          clear hee hzs
          have hT1' : Two w w.heap.size b b2 bs bs ys ys W1.drew := hT1.drewN 1
          have hbox' : W1.drew.heap[o]? = some (.cells #[.int .i64 2, .int .i64 n, .string x] 33 (0, 0)) := hbox
          have c1' : W1.drew.cell? ⟨o, 1, none⟩ = some (.int .i64 n) := c1
          go_wp2_with fail
          go_region_with (first | (go_at_call 11; refine (HT.out _ _ (by assumption)).mono ?_; rintro e W' ⟨rfl, hT', hB'⟩; have hb' := hB' _ _ _ (by assumption); have c1' : W'.cell? ⟨o, 1, none⟩ = some (.int .i64 n) := by simp [World.cell?, hb']) | (go_at_call 12; refine (HR.out _ _ (by assumption)).mono ?_; rintro e W' ⟨rfl, hT', hB'⟩; have hb' := hB' _ _ _ (by assumption); have c1' : W'.cell? ⟨o, 1, none⟩ = some (.int .i64 n) := by simp [World.cell?, hb']))
          all_goals
            go_wp2_with fail
            go_meet
            case rel => exact ⟨by simp, bs, zs, by assumption, by assumption, hb0, by omega, by omega⟩
        have kb2 : (k == 2) = false := by simpa using k2
        by_cases k3 : k = 3
        · subst k3
          have hl3 := reb_length bs ys n hb0
          obtain ⟨ee, hee⟩ : ∃ ee, inE bs ys n = ee := ⟨_, rfl⟩
          obtain ⟨zs, hzs⟩ : ∃ zs, rebX bs ys n = zs := ⟨_, rfl⟩
          obtain ⟨zb, hzb⟩ : ∃ zb, rebB bs ys n = zb := ⟨_, rfl⟩
          have HT := Lib.hid (fun (W : World) (us : List ByteArray) (ub : Int) (h : Two w w.heap.size b b2 bs ub ys us W) => two_rebase h hb0 (by omega) hyl n)
          have HR := Lib.hid (fun (W : World) (us : List ByteArray) (ub : Int) (h : Two w w.heap.size b b2 ub bs us ys W) => two_rrebase h hb0 (by omega) hyl n)
          rw [hee, hzs, hzb] at HT HR
          rw [hzs, hzb] at hl3
          clear hee hzs hzb
          have hT1' : Two w w.heap.size b b2 bs bs ys ys W1.drew := hT1.drewN 1
          have hbox' : W1.drew.heap[o]? = some (.cells #[.int .i64 3, .int .i64 n, .string x] 33 (0, 0)) := hbox
          have c1' : W1.drew.cell? ⟨o, 1, none⟩ = some (.int .i64 n) := c1
          go_wp2_with fail
          go_region_with (first | (go_at_call 13; refine (HT.out _ _ _ (by assumption)).mono ?_; rintro e W' ⟨rfl, hT', hB'⟩; have hb' := hB' _ _ _ (by assumption); have c1' : W'.cell? ⟨o, 1, none⟩ = some (.int .i64 n) := by simp [World.cell?, hb']) | (go_at_call 14; refine (HR.out _ _ _ (by assumption)).mono ?_; rintro e W' ⟨rfl, hT', hB'⟩; have hb' := hB' _ _ _ (by assumption); have c1' : W'.cell? ⟨o, 1, none⟩ = some (.int .i64 n) := by simp [World.cell?, hb']))
          all_goals
            go_wp2_with fail
            go_meet
            case rel => exact ⟨by simp, zb, zs, by assumption, by assumption, by omega, by omega, by omega⟩
        have kb3 : (k == 3) = false := by simpa using k3
        go_wp2
        go_meet
        case rel => exact ⟨rfl, bs, ys, hT1, hbox, hb0, by omega, hyl⟩
      case rest =>
        obtain ⟨rfl, bs', ys', hT, hbx, hb0', hbl', hyl'⟩ := hcut
        clear hT1 hbox hb0 hbl hyl
        have c1 : wc.cell? ⟨o, 1, none⟩ = some (.int .i64 n) := by simp [World.cell?, hbx]
        go_wp2_with fail
        refine (two_at hT hb0' (by omega) n).mono ?_
        rintro e w' ⟨rfl, m1, rfl⟩
        have hT := hT.drewN m1
        obtain ⟨sA, hsA⟩ : ∃ sA, atS bs' ys' n = sA := ⟨_, rfl⟩
        obtain ⟨bA, hbA⟩ : ∃ bA, atB bs' ys' n = bA := ⟨_, rfl⟩
        rw [hsA, hbA]
        have HA := Lib.hid (And.intro hsA hbA)
        clear hsA hbA
        have hbx4 : (wc.drewN m1).heap[o]? = some (.cells #[.int .i64 k, .int .i64 n, .string x] 33 (0, 0)) := hbx
        obtain ⟨W4, hW4⟩ : ∃ W4, wc.drewN m1 = W4 := ⟨_, rfl⟩
        rw [hW4] at hT hbx4 ⊢
        clear hW4 hbx c1
        go_wp2
        go_loopw [20, 21, 22] (fun st sb i wr => ∃ (q : Nat), q ≤ ys'.length ∧ i = .int .i64 q ∧ st = .string (seenS bs' ys' q n) ∧ sb = .bool (seenB bs' q n) ∧ Two w w.heap.size b b2 bs' bs' ys' ys' wr ∧ wr.heap[o]? = some (.cells #[.int .i64 k, .int .i64 n, .string x] 33 (0, 0))) (fun _ _ i _ => ys'.length - (intOf i).toNat)
        case atStart => exact ⟨0, Nat.zero_le _, rfl, by rw [seenS_zero], by rw [seenB_zero], hT, hbx4⟩
        case round =>
          obtain ⟨q, hq, rfl, rfl, rfl, hTr, hbr⟩ := hrel
          obtain ⟨v3, hR⟩ := hTr.ref
          have c1 : wr.cell? ⟨o, 1, none⟩ = some (.int .i64 n) := by simp [World.cell?, hbr]
          have d0 := hR.c0
          by_cases hql : q < ys'.length
          · rcases hR.shape with ⟨_, hx⟩ | ⟨g, cap3, rfl, _, _, _, h5, h6⟩
            · rw [hx] at hql; simp at hql
            have d2 := h5 q hql
            have d3 := h6 q hql
            obtain ⟨y, hy⟩ : ∃ y, ys'.getD q ByteArray.empty = y := ⟨_, rfl⟩
            rw [hy] at d3
            have HY := Lib.hid hy
            clear hy
            have e1 : decide ((q : Int) < (ys'.length : Int)) = true := by simp; omega
            have p0 : (0 : Int) ≤ (q : Int) := by omega
            have p1 : (q : Int) < (ys'.length : Int) := by omega
            have HRR := Lib.hid hR
            have HTT := Lib.hid hTr
            have HBB := Lib.hid hbr
            clear h5 h6 hR hT hbx4 hTr hbr
            by_cases hn : bs' + 1 + (q : Int) = n
            · have hn1 : (bs' + 1 + (q : Int) == n) = true := by simp [hn]
              have f1 := (seenS_hit bs' n ys' q hn).trans HY.out
              have f2 := seenB_hit bs' n q hn
              have HF := Lib.hid (And.intro f1 f2)
              clear f1 f2 hn
              go_wp2_with fail
              go_quiet (fail)
              go_wp2
              go_roundw
              case rel => exact ⟨q + 1, by omega, by go_num, by rw [HF.out.1], by rw [HF.out.2], HTT.out.drewN _, HBB.out⟩
              case measure => simp [intOf]; omega
            · have hn1 : (bs' + 1 + (q : Int) == n) = false := by simp [hn]
              have f1 := seenS_miss bs' n ys' q hn
              have f2 := seenB_miss bs' n q hn
              have HF := Lib.hid (And.intro f1 f2)
              clear f1 f2 hn
              go_wp2_with fail
              go_quiet (fail)
              go_wp2
              go_roundw
              case rel => exact ⟨q + 1, by omega, by go_num, by rw [HF.out.1], by rw [HF.out.2], HTT.out.drewN _, HBB.out⟩
              case measure => simp [intOf]; omega
          · obtain rfl : q = ys'.length := by omega
            have e1 : decide ((ys'.length : Int) < (ys'.length : Int)) = false := by simp
            have s1 : seenS bs' ys' ys'.length n = sA := by rw [← HA.out.1]; rfl
            have s2 : seenB bs' ys'.length n = bA := by rw [← HA.out.2]; rfl
            rw [s1, s2]
            obtain ⟨a3, c3, hv3⟩ : ∃ a c, v3 = .slice a ys'.length c := (ownsRow_slice hR.own).elim fun a h => h.elim fun c h => ⟨a, c, h.1⟩
            subst hv3
            have HTT := Lib.hid hTr
            have HBB := Lib.hid hbr
            clear hR hT hbx4 hTr hbr s1 s2
            have es : (!sA.toList == sA.toList) = false := by simp
            have eb : (bA != bA) = false := by simp
            go_wp2_with fail
            refine (two_looks HTT.out hb0' (by omega) hyl' n (-1) hNj).mono ?_
            rintro e W5 ⟨rfl, hT5, hB5⟩
            clear hB5
            go_wp2_with fail
            refine (two_looks hT5 hb0' (by omega) hyl' 0 1 (by omega)).mono ?_
            rintro e W6 ⟨rfl, hT6, hB6⟩
            clear hB6
            go_wp2
            go_roundw
            case rel => exact ⟨j + 1, bs', ys', by omega, by go_num, hT6, hb0', by omega, hyl'⟩
            case measure => simp [intOf]; omega
    · have d1 : decide ((j : Int) < (len : Int)) = false := by simp; omega
      go_wp2
      go_ret
      exact ⟨rfl, hT.below⟩

end Go.Proofs.Ytmlffomdlcfcbaa
