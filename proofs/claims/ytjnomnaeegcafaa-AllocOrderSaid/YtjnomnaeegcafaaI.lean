import Derived.Test.YtjnomnaeegcafaaH
import Derived.Maps.AppendAt
namespace Go.Proofs.Ytjnomnaeegcafaa
open Go.RowKit Go.Shelf

set_option maxRecDepth 100000 in
set_option maxHeartbeats 8000000 in
theorem order_good (w : World) (v : Value) (xs : List Mv) (spare : Int) (hr : ReadsM w v xs) (hl : xs.length * 16 ≤ 140737488355328) (hm : mayB xs spare = true) :
    Calls Try.prog 8 #[v, .int .i64 spare] w fun e w' => ∃ vo, e = .returned (.tuple #[vo, .int .i64 0]) ∧ w'.ownsRow w.heap.size 28 2 vo (orderAll xs spare).length (cellsM (orderAll xs spare)) ∧ Below w.heap.size w w' := by
  have L := Lib.hid (may_any w v xs spare hr (by omega))
  rw [hm] at L
  obtain ⟨-, -, -, hx31⟩ := may_facts hm
  have hwf := realM_wf hm
  have HM := Lib.hid (And.intro hm hwf)
  have HR := Lib.hid hr
  clear hr hm hwf
  go_enter Try.func8, Try.ntmps8
  go_wp2_with (first | (go_at_call 17; refine L.out.mono ?_; rintro e w1 ⟨rfl, hb1⟩))
  refine (clone_any w1 v xs (HR.out.below hb1) hl).mono ?_
  rintro e w2 ⟨a2, c2, rfl, hown2, hb2⟩
  have hbw2 := hb1.trans (hb2.mono hb1.size)
  have hD : Calls Try.prog 18 #[.slice a2 xs.length c2, .func (.func 20) #[] #[]] w2 fun e w' => ∃ v3, e = .returned v3 ∧ Below w.heap.size w w' ∧ 
      ((v3 = .slice none 0 0 ∧ realM xs = []) ∨ ∃ g cap rest zs, v3 = .slice (some ⟨g, 0, none⟩) (realM xs).length cap ∧ Row w' g cap zs rest ∧ zs.take (realM xs).length = realM xs ∧ (realM xs).length ≤ zs.length ∧ zs.length ≤ 31 ∧ cap ≤ maxLen ∧ w.heap.size ≤ g) := by
    rcases row_of_own hown2 with ⟨hv, hn, hx⟩ | ⟨g, cap, rest, hv, hg, hcap, hlen, hR⟩
    · rw [hv]
      refine (deleteFunc_nil w2 _).mono ?_
      rintro e w' ⟨rfl, rfl⟩
      exact ⟨_, rfl, hbw2, .inl ⟨rfl, by rw [hx]; rfl⟩⟩
    · rw [hv]
      refine (deleteFunc_row w2 g cap rest xs hR (by omega) 20 #[] (fun m => m.1 == m.2) (fun w' => tells_same w') (enters_of Try.func20 (by kernel_rfl) rfl)).mono ?_
      rintro e w' ⟨ys, rfl, hR', hyl, hyt, hC⟩
      refine ⟨_, rfl, hbw2.trans (hC.below (by rintro i rfl; have := hb1.size; omega) hbw2.size), .inr ⟨g, cap, rest, ys, rfl, hR', hyt, ?_, by omega, hcap, by have := hb1.size; omega⟩⟩
      rw [hyl]; exact List.length_filter_le _ _
  have HD := Lib.hid hD
  clear hD hown2 hb2 hb1 L hbw2
  go_wp2_with fail
  refine HD.out.mono ?_
  rintro e w3 ⟨v3, rfl, hb3, hrow3⟩
  clear HD
  obtain ⟨a3, c3, rfl⟩ : ∃ a3 c3, v3 = .slice a3 (realM xs).length c3 := by
    rcases hrow3 with ⟨rfl, h⟩ | ⟨g, cap, rest, zs, rfl, _⟩
    · exact ⟨none, 0, by rw [h]; rfl⟩
    · exact ⟨_, _, rfl⟩
  have HW := Lib.hid hrow3
  clear hrow3
  go_wp2
  obtain ⟨i0, hi, hz0, hz1, hz2⟩ := info_parts Try.infoMv
  go_loopg [8] (2 * xs.length + 1) (fun k vo wr => ∃ left out v, Going w w3.heap.size (w3.heap.size + 1) spare (orderAll xs spare) k vo wr left out v)
  case atStart =>
    refine ⟨realM xs, [], .slice a3 (realM xs).length c3, ?_⟩
    have hch : Ch (fun _ => False) w3 ((w3.alloc (.cells #[.slice a3 (realM xs).length c3] 22)).alloc (.cells #[.func (.func 21) #[] #[.pointer (some ⟨w3.heap.size, 0, none⟩)]] 41)) := ((Ch.refl _ w3).alloc _).alloc _
    refine ⟨⟨?_, ?_⟩, ?_, World.ownsRow_nil _ _ _ _, hb3.trans (hch.below (by simp) hb3.size), hb3.size, Nat.le_trans hb3.size (Nat.le_succ _), HM.out.2, realM_mu xs spare, rfl, by simp; omega⟩
    · rw [Below.heap_alloc _ _ _ (by simp)]; exact heap_alloc_new w3 _
    · rcases HW.out with h' | ⟨g, cap, rest, zs, h1, h2, h3, h4, h5, h6, h7⟩
      · exact .inl h'
      · exact .inr ⟨g, cap, rest, zs, h1, h2.ch hch (by simp), h3, h4, h5, h6, h7, by simp [Value.ownBlock]⟩
    · have := heap_alloc_new (w3.alloc (.cells #[.slice a3 (realM xs).length c3] 22)) (.cells #[.func (.func 21) #[] #[.pointer (some ⟨w3.heap.size, 0, none⟩)]] 41)
      simpa using this
  case round =>
    obtain ⟨left, out, v, hG⟩ := hrel
    obtain ⟨B6, hB6⟩ : ∃ B6, w3.heap.size = B6 := ⟨_, rfl⟩
    rw [hB6] at hG ⊢
    clear HW HR hb3
    have c6 := hG.lft.c0
    have c7 := hG.c7
    by_cases hl0 : left.length = 0
    · obtain rfl : left = [] := List.eq_nil_of_length_eq_zero hl0
      obtain ⟨av, cv, rfl⟩ : ∃ a c, v = .slice a 0 c := by
        rcases hG.lft.2 with ⟨rfl, _⟩ | ⟨g, cap, rest, zs, rfl, _⟩
        · exact ⟨_, _, rfl⟩
        · exact ⟨_, _, rfl⟩
      have HG := Lib.hid hG
      clear hG hl0
      go_wp2
      go_ret2
      have he := HG.out.eq
      rw [orderF_nil] at he
      have ho := HG.out.own
      rw [he] at ho
      exact ⟨_, rfl, ho, HG.out.below⟩
    obtain ⟨g, cap, rest, zs, rfl, hR, hzt, hzl, hz31, hcap, hg0, hvo⟩ : ∃ g cap rest zs, v = .slice (some ⟨g, 0, none⟩) left.length cap ∧ Row wr g cap zs rest ∧ zs.take left.length = left ∧ left.length ≤ zs.length ∧ zs.length ≤ 31 ∧ cap ≤ maxLen ∧ w.heap.size ≤ g ∧ u8.ownBlock ≠ some g := by
      rcases hG.lft.2 with ⟨_, h⟩ | h
      · rw [h] at hl0; exact absurd rfl hl0
      · exact h
    have hI := index_any wr _ left hG.lft.reads (by omega) 25 #[.pointer (some ⟨B6 + 1, 0, none⟩)] (freeM left) (tells_free wr B6 (B6 + 1) _ left c6 hG.lft.reads (by omega) c7) (enters_of Try.func25 (by kernel_rfl) rfl)
    have hkpos : 0 < gk := by
      have := hG.mu
      unfold mu at this
      omega
    obtain ⟨k', rfl⟩ : ∃ k', gk = k' + 1 := ⟨gk - 1, by omega⟩
    obtain ⟨m0, r0, hml⟩ : ∃ m0 r0, left = m0 :: r0 := by
      cases left with
      | nil => exact absurd rfl hl0
      | cons m0 r0 => exact ⟨m0, r0, rfl⟩
    have hstep : orderF spare (k' + 1) left out = if left.any (freeM left) then orderF spare k' (left.eraseIdx (firstP (freeM left) left 0).toNat) (out ++ [left.getD (firstP (freeM left) left 0).toNat (0, 0)]) else orderF spare k' (brk m0.2 spare left) (out ++ [(m0.2, spare)]) := by
      rw [hml]; rfl
    rw [hG.eq] at hstep
    have e1 : decide ((0 : Int) < (left.length : Int)) = true := by simp; omega
    cases hany : left.any (freeM left)
    · rw [hany] at hstep
      have hn : firstP (freeM left) left 0 = -1 := firstP_none _ _ _ (fun m hm => by
        have := List.any_eq_false.1 hany m hm
        simpa using this)
      rw [hn] at hI
      have HI := Lib.hid hI
      have HS := Lib.hid (And.intro hstep (And.intro hml hany))
      have HG := Lib.hid hG
      have HZ := Lib.hid (And.intro hR (And.intro hzt hcap))
      clear hI hstep hml hany hG hn hR hzt hcap
      go_wp2_with fail
      refine HI.out.mono ?_
      rintro e w4 ⟨rfl, hb4⟩
      have hG4 := HG.out.above hb4
      have hR4 : Row w4 g cap zs rest := HZ.out.1.ch (F := fun _ => False) (Ch.of_below hb4) (by simp)
      have hz0' : zs.getD 0 (0, 0) = m0 := by
        have h1 := HZ.out.2.1
        rw [HS.out.2.1] at h1
        cases zs with
        | nil => simp at h1
        | cons a b => simp at h1; rw [← h1.1]; rfl
      have c6' := hG4.lft.c0
      have d1 := (hR4.cells 0 (by omega)).2
      rw [hz0', Nat.zero_mul, Nat.zero_add] at d1
      have hlo4 : w.heap.size ≤ w4.heap.size := hG4.below.size
      have hown4 := hG4.own.alloc (.cells #[.int .i64 m0.2, .int .i64 spare] 28)
      have hol := hG4.len
      have HG4 := Lib.hid hG4
      have HR4 := Lib.hid hR4
      have HO4 := Lib.hid hown4
      have hnews := World.news_of_block (cs := #[.int .i64 m0.2, .int .i64 spare]) (t := 28) (fr := (0, 0)) (heap_alloc_new w4 (.cells #[.int .i64 m0.2, .int .i64 spare] 28))
      have HN := Lib.hid hnews
      clear hG4 hR4 hown4 hz0' c6 c7 HI HG hb4 hnews
      go_wp2_with (first | (at_builtin; refine wpList_append_own_at _ rfl _ _ 22 rfl w.heap.size 28 i0 (.agg #[.int .i64 0, .int .i64 0]) 2 16 Try.underlying22 hi hz0 hz1 hz2 rfl (by decide) _ out.length (cellsM out) rfl HO4.out ⟨w4.heap.size, 0, none⟩ 1 1 [.int .i64 m0.2, .int .i64 spare] rfl rfl HN.out (cellsM_one [(m0.2, spare)]) (by unfold maxLen; omega) (by omega) (by simp; omega) ?_; intro vo' w5 hown5 hg5 hnil5 hloc5; have HP := Lib.hid (HG4.out.push (m0.2, spare) hown5 hg5 hloc5); have c65 := HP.out.1.c0; clear hown5 hg5 hnil5 hloc5))
      clear c6' d1
      obtain ⟨zs5, rest5, hR5, hz5t, hz5l, hz531, hg05, hvo5⟩ : ∃ zs5 rest5, Row w5 g cap zs5 rest5 ∧ zs5.take left.length = left ∧ left.length ≤ zs5.length ∧ zs5.length ≤ 31 ∧ w.heap.size ≤ g ∧ vo'.ownBlock ≠ some g := by
        rcases HP.out.1.2 with ⟨h, _⟩ | ⟨g', cap', rest', zs', he, h1, h2, h3, h4, h5, h6, h7⟩
        · cases h
        · simp only [Value.slice.injEq, Option.some.injEq, Addr.mk.injEq, and_true, true_and] at he
          obtain ⟨rfl, rfl⟩ := he
          exact ⟨zs', rest', h1, h2, h3, h4, h6, h7⟩
      have hgB : g ≠ B6 := by
        intro e
        have h1 := hR5.heap
        rw [e, HP.out.1.1] at h1
        simp at h1
      have hz5 : zs5 = left ++ zs5.drop left.length := by conv => lhs; rw [← List.take_append_drop left.length zs5, hz5t]
      have HZ5 := Lib.hid (And.intro hR5 (And.intro hz5 hz5t))
      have f65 := HP.out.1.f0
      clear hR5 hz5 hz5t
      go_loopw [52] (fun i wr => ∃ q : Nat, q ≤ left.length ∧ i = .int .i64 q ∧ Row wr g cap (bk m0.2 spare left q ++ zs5.drop left.length) rest5 ∧ Ch (fun k => k = g) w5 wr) (fun i _ => left.length - (intOf i).toNat)
      case atStart => exact ⟨0, Nat.zero_le _, rfl, by rw [bk_zero, ← HZ5.out.2.1]; exact HZ5.out.1, Ch.refl _ _⟩
      case round =>
        obtain ⟨q, hq, rfl, hRq, hcq⟩ := hrel
        have hsz5 : B6 < w5.heap.size := HP.out.1.lt
        have c6q : wr.cell? ⟨B6, 0, none⟩ = some (.slice (some ⟨g, 0, none⟩) left.length cap) := (World.cell?_of_block (hcq.block B6 hsz5 (fun e => hgB e.symm))).trans c65
        by_cases hql : q < left.length
        · have hbl := bk_length m0.2 spare left q
          have hgd : (bk m0.2 spare left q ++ zs5.drop left.length).getD q (0, 0) = left.getD q (0, 0) := by
            rw [← bk_at m0.2 spare left q hql]
            simp only [List.getD]
            rw [List.getElem?_append_left (by omega)]
          have d0 := (hRq.cells q (by simp; omega)).1
          have fq := hRq.frozen (q * 2)
          rw [hgd] at d0
          obtain ⟨mq, hmq⟩ : ∃ mq, left.getD q (0, 0) = mq := ⟨_, rfl⟩
          rw [hmq] at d0 hgd
          have e3 : decide ((q : Int) < (left.length : Int)) = true := by simp; omega
          have p0 : (0 : Int) ≤ (q : Int) := by omega
          have p1 : (q : Int) < (left.length : Int) := by omega
          have hset := hRq.set1 q (by simp; omega) spare
          have hsucc := bk_succ m0.2 spare left q hql
          rw [hgd, List.set_append_left _ _ (by omega)] at hset
          rw [hmq] at hsucc
          have HS1 := Lib.hid (And.intro hset (And.intro hsucc (And.intro hRq hcq)))
          have HM1 := Lib.hid (And.intro hmq hbl)
          clear hset hsucc hRq hcq hmq hbl hgd c65
          by_cases hk : mq.1 = m0.2
          · have e4 : (mq.1 == m0.2) = true := by simp [hk]
            have HK := Lib.hid hk
            clear hk
            go_wp2_with fail
            go_roundw
            case rel =>
              refine ⟨q + 1, by omega, by go_num, ?_, HS1.out.2.2.2.setCell ⟨g, q * 2, none⟩ _ (fun _ => rfl)⟩
              rw [HS1.out.2.1, if_pos HK.out]
              exact HS1.out.1
            case measure => simp [intOf]; omega
          · have e4 : (mq.1 == m0.2) = false := by simp [hk]
            have HK := Lib.hid hk
            clear hk
            go_wp2_with fail
            go_roundw
            case rel =>
              refine ⟨q + 1, by omega, by go_num, ?_, HS1.out.2.2.2⟩
              rw [HS1.out.2.1, if_neg HK.out, ← HM1.out.1, ← bk_at m0.2 spare left q hql]
              have hself : (bk m0.2 spare left q).set q ((bk m0.2 spare left q).getD q (0, 0)) = bk m0.2 spare left q := by
                have hbq : q < (bk m0.2 spare left q).length := by rw [HM1.out.2]; exact hql
                simp [List.getD, List.getElem?_eq_getElem hbq]
              rw [hself]
              exact HS1.out.2.2.1
            case measure => simp [intOf]; omega
        · obtain rfl : q = left.length := by omega
          have e3 : decide ((left.length : Int) < (left.length : Int)) = false := by simp
          rw [bk_full] at hRq
          have HQ := Lib.hid (And.intro hRq hcq)
          clear hRq hcq c65
          go_wp2_with fail
          subst hB6
          go_roundg k'
          case rel =>
            have hcw := HQ.out.2
            have hlt7 := (Array.getElem?_eq_some_iff.1 HP.out.2.1).1
            have hg7 : w3.heap.size + 1 ≠ g := by
              intro e
              have h1 := HZ5.out.1.heap
              rw [← e, HP.out.2.1] at h1
              simp at h1
            have hmu := mu_brk (HS.out.2.1 ▸ HG4.out.wf) (HS.out.2.1 ▸ HS.out.2.2)
            rw [← HS.out.2.1] at hmu
            have hmu4 := HG4.out.mu
            have hl4 := HG4.out.len
            refine ⟨brk m0.2 spare left, out ++ [(m0.2, spare)], .slice (some ⟨g, 0, none⟩) left.length cap, ⟨(hcw.block _ HP.out.1.lt (fun e => hgB e.symm)).trans HP.out.1.1, .inr ⟨g, cap, rest5, brk m0.2 spare left ++ zs5.drop left.length, by rw [brk_length], HQ.out.1, ?_, ?_, ?_, HZ.out.2.2, hg05, hvo5⟩⟩, (hcw.block _ hlt7 hg7).trans HP.out.2.1, own_ch HP.out.2.2.1 hcw (fun g' hg' e => hvo5 (e ▸ hg')), HP.out.2.2.2.trans (hcw.below (by rintro i rfl; exact hg05) HP.out.2.2.2.size), HG4.out.lo6, HG4.out.lo7, HG4.out.wf.brk _, by omega, (by have := HS.out.1; simpa using this.symm), by simp; omega⟩
            · rw [brk_length, ← brk_length m0.2 spare left, List.take_left]
            · simp [brk_length]
            · simp [brk_length]; omega
          case measure => omega
    · rw [hany] at hstep
      obtain ⟨j, hj, hfj, -, -⟩ := firstP_first (freeM left) left 0 hany
      rw [Nat.zero_add] at hfj
      rw [hfj] at hI hstep
      simp only [Int.toNat_natCast, if_true] at hstep
      have HI := Lib.hid hI
      have HS := Lib.hid hstep
      have HG := Lib.hid hG
      have HZ := Lib.hid (And.intro hR (And.intro hzt hcap))
      clear hI hstep hml hany hG hR hzt hcap hfj
      go_wp2_with fail
      refine HI.out.mono ?_
      rintro e w4 ⟨rfl, hb4⟩
      have hG4 := HG.out.above hb4
      have hR4 : Row w4 g cap zs rest := HZ.out.1.ch (F := fun _ => False) (Ch.of_below hb4) (by simp)
      obtain ⟨mj, hmj⟩ : ∃ mj, left.getD j (0, 0) = mj := ⟨_, rfl⟩
      have hzj : zs.getD j (0, 0) = mj := by
        have h1 : left.getD j (0, 0) = (zs.take left.length).getD j (0, 0) := by rw [HZ.out.2.1]
        rw [← hmj, h1]
        simp [List.getD, List.getElem?_take, hj]
      have c6' := hG4.lft.c0
      have d0 := (hR4.cells j (by omega)).1
      have d1 := (hR4.cells j (by omega)).2
      rw [hzj] at d0 d1
      have hol := hG4.len
      have hown4 := hG4.own.alloc (.cells #[.int .i64 mj.1, .int .i64 mj.2] 28)
      have hnews := World.news_of_block (cs := #[.int .i64 mj.1, .int .i64 mj.2]) (t := 28) (fr := (0, 0)) (heap_alloc_new w4 (.cells #[.int .i64 mj.1, .int .i64 mj.2] 28))
      have hlo4 : w.heap.size ≤ w4.heap.size := hG4.below.size
      have HG4 := Lib.hid hG4
      have HO4 := Lib.hid hown4
      have HN := Lib.hid hnews
      have HM4 := Lib.hid hmj
      have p0 : (0 : Int) ≤ (j : Int) := by omega
      have p1 : (j : Int) < (left.length : Int) := by omega
      clear hG4 hR4 hown4 hnews hmj hzj HI HG hb4 c6 c7
      go_wp2_with (first | (at_builtin; refine wpList_append_own_at _ rfl _ _ 22 rfl w.heap.size 28 i0 (.agg #[.int .i64 0, .int .i64 0]) 2 16 Try.underlying22 hi hz0 hz1 hz2 rfl (by decide) _ out.length (cellsM out) rfl HO4.out ⟨w4.heap.size, 0, none⟩ 1 1 [.int .i64 mj.1, .int .i64 mj.2] rfl rfl HN.out (cellsM_one [mj]) (by unfold maxLen; omega) (by omega) (by simp; omega) ?_; intro vo' w5 hown5 hg5 hnil5 hloc5; have HP := Lib.hid (HG4.out.push mj hown5 hg5 hloc5); have c65 := HP.out.1.c0; have f65 := HP.out.1.f0; clear hown5 hg5 hnil5 hloc5))
      obtain ⟨zs5, rest5, hR5, hz5t, hz5l, hz531, hg05, hvo5⟩ : ∃ zs5 rest5, Row w5 g cap zs5 rest5 ∧ zs5.take left.length = left ∧ left.length ≤ zs5.length ∧ zs5.length ≤ 31 ∧ w.heap.size ≤ g ∧ vo'.ownBlock ≠ some g := by
        rcases HP.out.1.2 with ⟨h, _⟩ | ⟨g', cap', rest', zs', he, h1, h2, h3, h4, h5, h6, h7⟩
        · cases h
        · simp only [Value.slice.injEq, Option.some.injEq, Addr.mk.injEq, and_true, true_and] at he
          obtain ⟨rfl, rfl⟩ := he
          exact ⟨zs', rest', h1, h2, h3, h4, h6, h7⟩
      have hgB : g ≠ B6 := by
        intro e
        have h1 := hR5.heap
        rw [e, HP.out.1.1] at h1
        simp at h1
      have hg7 : B6 + 1 ≠ g := by
        intro e
        have h1 := hR5.heap
        rw [← e, HP.out.2.1] at h1
        simp at h1
      refine (delete_row w5 g cap rest5 zs5 hR5 (by omega) left.length j (by omega) hj).mono ?_
      rintro e w6 ⟨ys, rfl, hR6, hyl, hyt, hC6⟩
      have h6b := (hC6.block B6 HP.out.1.lt (fun e => hgB e.symm)).trans HP.out.1.1
      have c66 : w6.cell? ⟨B6, 0, none⟩ = some (.slice (some ⟨g, 0, none⟩) left.length cap) := (World.cell?_of_block (hC6.block B6 HP.out.1.lt (fun e => hgB e.symm))).trans c65
      have f66 : w6.frozen? ⟨B6, 0, none⟩ = false := by simp [World.frozen?, h6b]
      have HY := Lib.hid (And.intro hR6 (And.intro hyl (And.intro hyt (And.intro hC6 h6b))))
      have HZ5 := Lib.hid hz5t
      clear c65 f65 hR5 hR6 hyl hyt hC6 h6b hz5t c6' d0 d1
      go_wp2_with fail
      subst hB6
      go_roundg k'
      case rel =>
        have hlt7 := (Array.getElem?_eq_some_iff.1 HP.out.2.1).1
        have hlt6 := HP.out.1.lt
        have hmu := mu_erase (spare := spare) hj
        have hmu4 := HG4.out.mu
        have hel : (left.eraseIdx j).length = left.length - 1 := List.length_eraseIdx_of_lt hj
        have hc : Ch (fun k => k = g ∨ k = w3.heap.size) w5 (w6.setCell ⟨w3.heap.size, 0, none⟩ (.slice (some ⟨g, 0, none⟩) (left.length - 1) cap)) := (HY.out.2.2.2.1.mono (fun i h => .inl h)).setCell _ _ (fun _ => .inr rfl)
        have hne6 : ¬ vo'.ownBlock = some w3.heap.size := own_elem HP.out.2.2.1 HP.out.1.1 (by decide)
        refine ⟨left.eraseIdx j, out ++ [left.getD j (0, 0)], .slice (some ⟨g, 0, none⟩) (left.length - 1) cap, ⟨?_, .inr ⟨g, cap, rest5, ys, by rw [hel], ?_, ?_, ?_, ?_, HZ.out.2.2, hg05, hvo5⟩⟩, ?_, ?_, HP.out.2.2.2.trans (hc.below (by rintro i (rfl | rfl); exact hg05; exact HG4.out.lo6) HP.out.2.2.2.size), HG4.out.lo6, HG4.out.lo7, HG4.out.wf.erase j, by omega, HS.out.symm, by simp; omega⟩
        · exact heap_setCell_self _ HY.out.2.2.2.2
        · exact HY.out.1.ch (F := fun k => k = w3.heap.size) ((Ch.refl _ w6).setCell _ _ (fun _ => rfl)) hgB
        · rw [hel, HY.out.2.2.1, HZ5.out]
        · rw [hel, HY.out.2.1]; omega
        · rw [HY.out.2.1]; exact hz531
        · exact (hc.block _ hlt7 (by rintro (h | h); exact hg7 h; omega)).trans HP.out.2.1
        · rw [HM4.out]
          exact own_ch HP.out.2.2.1 hc (by rintro g' hg' (rfl | rfl); exact hvo5 hg'; exact hne6 hg')
      case measure => omega

end Go.Proofs.Ytjnomnaeegcafaa
