import Derived.Test.YtmlffomdlcfcbaaI
import Derived.Test.YtmlffomdlcfcbaaF
namespace Go.Proofs.Ytmlffomdlcfcbaa
open Go.RowKit

def Holds (w : World) (e : Ending) (w' : World) : Prop := e = .returned (.bool true) ∧ Below w.heap.size w w'

set_option maxRecDepth 100000 in
set_option maxHeartbeats 4000000 in
theorem keeps_any (w : World) (v0 : Value) (xs : List ByteArray) (hr : Reads w v0 (xs.map Value.string)) (ob off len cap : Nat) (K N : Nat → Int) (X : Nat → ByteArray)
    (hlen : len ≤ 9223372036854775807) (hob : 0 < len → ob < w.heap.size)
    (hk : ∀ i, i < len → w.cell? ⟨ob, off + i * 3, none⟩ = some (.int .i64 (K i))) (hn : ∀ i, i < len → w.cell? ⟨ob, off + i * 3 + 1, none⟩ = some (.int .i64 (N i))) (hx : ∀ i, i < len → w.cell? ⟨ob, off + i * 3 + 2, none⟩ = some (.string (X i))) :
    Calls Try.prog 5 #[v0, .slice (some ⟨ob, off, none⟩) len cap] w (Holds w) := by
  have Hk := Lib.hid hk; have Hn := Lib.hid hn; have Hx := Lib.hid hx; have Hob := Lib.hid hob
  clear hk hn hx hob
  have HR := Lib.hid hr
  obtain ⟨a0, c0, rfl⟩ := hr.slice
  simp only [List.length_map] at *
  clear hr
  by_cases hl : 1000 < xs.length
  · have e1 : decide ((1000 : Int) < (xs.length : Int)) = true := by simp; omega
    go_enter Try.func5, Try.ntmps5
    go_wp2_with (first | (go_at_call 8; ((refine (lives_any _).mono ?_); rintro e w1 ⟨rfl, hb1⟩)))
    go_ret
    exact ⟨rfl, hb1⟩
  have e1 : decide ((1000 : Int) < (xs.length : Int)) = false := by simp; omega
  have HN := Lib.hid (new_ok w _ xs HR.out 0 (by omega) (by omega) (by omega))
  go_enter Try.func5, Try.ntmps5
  go_wp2_with fail
  refine HN.out.mono ?_
  rintro e w1 ⟨b, v, rfl, hl1, hb1⟩
  clear HN HR
  go_wp2_with fail
  refine (lives_any _).mono ?_
  rintro e w2 ⟨rfl, hb2⟩
  have hl2 : LogAt w2 w.heap.size b 0 xs v := hl1.ch (F := fun _ => False) (Ch.of_below_size hb2) (by simp) (by simp)
  have hb3 : Below w.heap.size w w2 := hb1.trans (hb2.mono hb1.size)
  clear hl1 hb1 hb2
  go_wp2
  go_loopw [7] (fun i wr => ∃ (j : Nat) (base : Int) (ys : List ByteArray) (u : Value), j ≤ len ∧ i = .int .i64 j ∧ LogAt wr w.heap.size b base ys u ∧ Below w.heap.size w wr ∧ 0 ≤ base ∧ base + ys.length ≤ 1000 + j ∧ ys.length ≤ 1000 + j ∧ j ≤ 100) (fun i _ => len - (intOf i).toNat)
  case atStart => exact ⟨0, 0, xs, v, Nat.zero_le _, rfl, hl2, hb3, by omega, by omega, by omega, by omega⟩
  case round =>
    obtain ⟨j, base, ys, u, hj, rfl, hlog, hbel, hb0, hbl, hyl, hj1⟩ := hrel
    clear hl2 hb3
    by_cases hjl : j < len
    · by_cases hj2 : j < 100
      · have ck := (hbel.cell (p := ⟨ob, off + j * 3, none⟩) (Hob.out (by omega))).trans (Hk.out j hjl)
        have cn := (hbel.cell (p := ⟨ob, off + j * 3 + 1, none⟩) (Hob.out (by omega))).trans (Hn.out j hjl)
        have cx := (hbel.cell (p := ⟨ob, off + j * 3 + 2, none⟩) (Hob.out (by omega))).trans (Hx.out j hjl)
        have d1 : decide ((j : Int) < (len : Int)) = true := by simp; omega
        have d2 : decide ((j : Int) < 100) = true := by simp; omega
        go_wp2_with fail
        refine (base_at b base wr hlog.c0).mono ?_
        rintro e w' ⟨rfl, rfl⟩
        go_wp2_with fail
        refine (last_at hlog hb0 (by omega)).mono ?_
        rintro e w' ⟨rfl, m1, rfl⟩
        go_wp2_with fail
        refine (at_any (hlog.drewN m1) hb0 (by omega) _).mono ?_
        rintro e w' ⟨rfl, m2, rfl⟩
        obtain ⟨W2, hW2⟩ : ∃ W, (wr.drewN m1).drewN m2 = W := ⟨_, rfl⟩
        have hlog2 : LogAt W2 w.heap.size b base ys u := by rw [← hW2]; exact (hlog.drewN m1).drewN m2
        have hbel2 : Below w.heap.size w W2 := by rw [← hW2]; exact (hbel.trans (drewN_below _ _ m1)).trans (drewN_below _ _ m2)
        rw [hW2]
        clear hW2 hlog hbel ck cn cx
        have ck := (hbel2.cell (p := ⟨ob, off + j * 3, none⟩) (Hob.out (by omega))).trans (Hk.out j hjl)
        have cn := (hbel2.cell (p := ⟨ob, off + j * 3 + 1, none⟩) (Hob.out (by omega))).trans (Hn.out j hjl)
        have cx := (hbel2.cell (p := ⟨ob, off + j * 3 + 2, none⟩) (Hob.out (by omega))).trans (Hx.out j hjl)
        go_wp2_with fail
        refine (at_any hlog2 hb0 (by omega) _).mono ?_
        rintro e w' ⟨rfl, m3, rfl⟩
        have hlog3 := hlog2.drewN m3
        have hbel3 := hbel2.trans (drewN_below _ _ m3)
        clear hlog2 hbel2
        go_upto_block 2 with fail
        go_cut [14, 15] (fun _ _ wx => ∃ base' ys' u', LogAt wx w.heap.size b base' ys' u' ∧ Below w.heap.size w wx ∧ Stays base ys base' ys')
        case first =>
          have hA := append_ok hlog3 hbel3.size hb0 (by omega) (by omega) (X j)
          rw [show base + ((ys.length + 1 : Nat) : Int) = base + ys.length + 1 by omega] at hA
          have HA := Lib.hid hA
          clear hA
          have HC := Lib.hid (cut_any hlog3 hbel3.size hb0 (by omega) (by omega) (N j))
          have HB := Lib.hid (rebase_any hlog3 hbel3.size hb0 (by omega) (by omega) (N j))
          have HL := Lib.hid hlog3
          have HBel := Lib.hid hbel3
          clear hlog3 hbel3
          by_cases k1 : K j = 1
          · have b1 : (K j == 1) = true := by simp [k1]
            clear k1
            go_wp2_with (first | (go_at_call 9; ((refine HA.out.mono ?_); intro e W5 hp5; obtain ⟨rfl, u5, hlog5, hbel5⟩ := LogPost.below HL.out HBel.out.size hp5; clear hp5)))
            go_meet
            case rel => exact ⟨_, _, u5, hlog5, HBel.out.trans hbel5, Stays.append _ _ _⟩
          have b1 : (K j == 1) = false := by simpa using k1
          clear k1 HA
          by_cases k2 : K j = 2
          · have b2 : (K j == 2) = true := by simp [k2]
            clear k2
            go_wp2_with (first | (go_at_call 11; ((refine HC.out.mono ?_); rintro e W5 ⟨cc, base5, ys5, u5, rfl, hlog5, hbel5, hst5⟩)))
            go_meet
            case rel => exact ⟨_, _, u5, hlog5, HBel.out.trans hbel5, hst5⟩
          have b2 : (K j == 2) = false := by simpa using k2
          clear k2 HC
          by_cases k3 : K j = 3
          · have b3 : (K j == 3) = true := by simp [k3]
            clear k3
            go_wp2_with (first | (go_at_call 13; ((refine HB.out.mono ?_); rintro e W5 ⟨cc, base5, ys5, u5, rfl, hlog5, hbel5, hst5⟩)))
            go_meet
            case rel => exact ⟨_, _, u5, hlog5, HBel.out.trans hbel5, hst5⟩
          have b3 : (K j == 3) = false := by simpa using k3
          clear k3
          go_wp2
          go_meet
          case rel => exact ⟨_, _, u, HL.out, HBel.out, Stays.refl _ _⟩
        case rest =>
          obtain ⟨base', ys', u', hlog4, hbel4, hst⟩ := hcut
          have l1 := hst.lo
          have l2 := hst.last
          have l3 := hst.len
          have q1 : decide (base' < base) = false := by simp; omega
          have q2 : decide (base' + (ys'.length : Int) < base') = false := by simp; omega
          have q3 : atB base' ys' (N j) = true → atB base ys (N j) = true → atS base' ys' (N j) = atS base ys (N j) := hst.same _
          have q4 : atB base' ys' (base + ys.length) = true → atB base ys (base + ys.length) = true → atS base' ys' (base + ys.length) = atS base ys (base + ys.length) := hst.same _
          have Q3 := Lib.hid q3
          have Q4 := Lib.hid q4
          clear hst q3 q4 hlog3 hbel3 ck cn cx
          have cn := (hbel4.cell (p := ⟨ob, off + j * 3 + 1, none⟩) (Hob.out (by omega))).trans (Hn.out j hjl)
          go_wp2_with fail
          refine (base_at b base' wc hlog4.c0).mono ?_
          rintro e w' ⟨rfl, rfl⟩
          go_wp2_with fail
          refine (last_at hlog4 (by omega) (by omega)).mono ?_
          rintro e w' ⟨rfl, m5, rfl⟩
          have hlog5 := hlog4.drewN m5
          have hbel5 := hbel4.trans (drewN_below _ _ m5)
          clear hlog4 hbel4
          go_wp2_with fail
          refine (base_at b base' _ hlog5.c0).mono ?_
          rintro e w' ⟨rfl, rfl⟩
          go_wp2_with fail
          refine (at_any hlog5 (by omega) (by omega) _).mono ?_
          rintro e w' ⟨rfl, m6, rfl⟩
          have hlog6 := hlog5.drewN m6
          have hbel6 := hbel5.trans (drewN_below _ _ m6)
          clear hlog5 hbel5
          have hz6 : ∃ W6, wc.drewN (m5 + m6) = W6 := ⟨_, rfl⟩
          obtain ⟨W6, hW6⟩ := hz6
          have hD6 : (wc.drewN m5).drewN m6 = W6 := by rw [← hW6]; simp
          rw [hD6] at hlog6 hbel6 ⊢
          clear hD6 hW6 cn
          go_upto_region 24 with fail
          go_cut [11, 17, 141] (fun _ _ s wx => s = .bool false ∧ wx = W6)
          case first =>
            cases h1 : atB base' ys' (N j)
            · go_wp2
              go_meet
              case rel => exact ⟨rfl, rfl⟩
            · cases h2 : atB base ys (N j)
              · go_wp2
                go_meet
                case rel => exact ⟨rfl, rfl⟩
              · have q5 := Q3.out h1 h2
                go_wp2
                go_meet
                case rel => exact ⟨rfl, rfl⟩
          case rest =>
            obtain ⟨rfl, rfl⟩ := hcut
            go_wp2_with fail
            refine (at_any hlog6 (by omega) (by omega) _).mono ?_
            rintro e w' ⟨rfl, m7, rfl⟩
            have hz7 : ∃ W7, wc.drewN m7 = W7 := ⟨_, rfl⟩
            obtain ⟨W7, hW7⟩ := hz7
            have hlog7 : LogAt W7 w.heap.size b base' ys' u' := by rw [← hW7]; exact hlog6.drewN m7
            have hbel7 : Below w.heap.size w W7 := by rw [← hW7]; exact hbel6.trans (drewN_below _ _ m7)
            rw [hW7]
            clear hW7 hlog6 hbel6
            go_upto_region 27 with fail
            go_cut [13, 19, 156] (fun _ _ s wx => s = .bool false ∧ wx = W7)
            case first =>
              cases h1 : atB base' ys' (base + ys.length)
              · go_wp2
                go_meet
                case rel => exact ⟨rfl, rfl⟩
              · cases h2 : atB base ys (base + ys.length)
                · go_wp2
                  go_meet
                  case rel => exact ⟨rfl, rfl⟩
                · have q5 := Q4.out h1 h2
                  go_wp2
                  go_meet
                  case rel => exact ⟨rfl, rfl⟩
            case rest =>
              obtain ⟨rfl, rfl⟩ := hcut
              go_wp2
              go_roundw
              case rel => exact ⟨j + 1, base', ys', u', by omega, by go_num, hlog7, hbel7, by omega, by omega, by omega, by omega⟩
              case measure => simp [intOf]; omega
      · have d1 : decide ((j : Int) < (len : Int)) = true := by simp; omega
        have d2 : decide ((j : Int) < 100) = false := by simp; omega
        go_wp2
        go_ret
        exact ⟨rfl, hbel⟩
    · have d1 : decide ((j : Int) < (len : Int)) = false := by simp; omega
      go_wp2
      go_ret
      exact ⟨rfl, hbel⟩

end Go.Proofs.Ytmlffomdlcfcbaa
