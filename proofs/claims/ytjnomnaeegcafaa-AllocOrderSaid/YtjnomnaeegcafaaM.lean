import Derived.Test.YtjnomnaeegcafaaJ
namespace Go.Proofs.Ytjnomnaeegcafaa
open Go.RowKit Go.Shelf

theorem drewN_below (B : Nat) (w : World) (m : Nat) : Below B w (w.drewN m) := ⟨rfl, rfl, rfl, Nat.le_refl _, fun _ _ => rfl⟩
theorem contains_take (xs : List Mv) (k : Nat) (hk : k ≤ xs.length) (z : Int) : ((xs.take k).map Prod.snd).contains z = true ↔ ∃ j, j < k ∧ (xs.getD j (0, 0)).2 = z := by
  rw [List.contains_iff_mem]
  constructor
  · intro h
    obtain ⟨m, hm, rfl⟩ := List.mem_map.1 h
    obtain ⟨j, hj, rfl⟩ := List.mem_iff_getElem.1 hm
    rw [List.length_take] at hj
    exact ⟨j, by omega, by simp [List.getD, List.getElem?_eq_getElem (show j < xs.length by omega)]⟩
  · rintro ⟨j, hj, rfl⟩
    refine List.mem_map.2 ⟨xs[j], ?_, by simp [List.getD, List.getElem?_eq_getElem (show j < xs.length by omega)]⟩
    exact List.mem_iff_getElem.2 ⟨j, by rw [List.length_take]; omega, by simp⟩

set_option maxRecDepth 100000 in
set_option maxHeartbeats 4000000 in
theorem rmay_any (w : World) (v : Value) (xs : List Mv) (spare : Int) (hr : ReadsM w v xs) (hl : xs.length ≤ 140737488355328) :
    Calls Try.prog 9 #[v, .int .i64 spare] w fun e w' => e = .returned (.bool (mayB xs spare)) ∧ Below w.heap.size w w' := by
  obtain ⟨a, cap, rfl, -, hc⟩ := hr
  have HC := Lib.hid hc
  clear hc
  by_cases hs0 : spare < 0
  · have e0 : decide (spare < 0) = true := by simpa using hs0
    have hm : mayB xs spare = false := by
      have : isReg spare = false := by unfold isReg; rw [Bool.and_eq_false_iff]; left; simp; omega
      simp [mayB, this]
    rw [hm]
    go_enter Try.func9, Try.ntmps9
    go_wp2
    go_ret
    exact ⟨rfl, Below.refl _ _⟩
  have e0 : decide (spare < 0) = false := by simpa using hs0
  by_cases hs1 : 30 < spare
  · have e1 : decide (30 < spare) = true := by simpa using hs1
    have hm : mayB xs spare = false := by
      have : isReg spare = false := by unfold isReg; rw [Bool.and_eq_false_iff]; right; simp; omega
      simp [mayB, this]
    rw [hm]
    go_enter Try.func9, Try.ntmps9
    go_wp2
    go_ret
    exact ⟨rfl, Below.refl _ _⟩
  have e1 : decide (30 < spare) = false := by simpa using hs1
  have hsr : mayB xs spare = allM spare [] xs := by
    have : isReg spare = true := by unfold isReg; rw [Bool.and_eq_true]; constructor <;> simp <;> omega
    simp [mayB, this]
  obtain ⟨R, hR⟩ : ∃ R, mayB xs spare = R := ⟨_, rfl⟩
  rw [hR] at hsr ⊢
  have HR := Lib.hid hsr
  clear hsr hR
  go_enter Try.func9, Try.ntmps9
  go_wp2_with fail
  go_loopw [5] (fun i wr => ∃ k : Nat, k ≤ xs.length ∧ i = .int .i64 k ∧ Below w.heap.size w wr ∧ allM spare [] xs = allM spare ((xs.take k).map Prod.snd) (xs.drop k)) (fun i _ => xs.length - (intOf i).toNat)
  case atStart => exact ⟨0, Nat.zero_le _, rfl, Below.refl _ _, by simp⟩
  case round =>
    obtain ⟨k, hk, rfl, hbel, hall⟩ := hrel
    by_cases hkl : k < xs.length
    · obtain ⟨b, off, rfl, hlt, hcc⟩ := HC.out (by omega)
      have c0 := (hbel.cell (p := ⟨b, off + k * 2, none⟩) hlt).trans (hcc k hkl).1
      have c1 := (hbel.cell (p := ⟨b, off + k * 2 + 1, none⟩) hlt).trans (hcc k hkl).2
      have hstep := may_step xs spare k hkl
      rw [← hall] at hstep
      obtain ⟨m, hm⟩ : ∃ m, xs.getD k (0, 0) = m := ⟨_, rfl⟩
      rw [hm] at hstep c0 c1
      obtain ⟨m1, m2⟩ := m
      simp only at c0 c1
      have f1 : decide ((k : Int) < (xs.length : Int)) = true := by simp; omega
      have p0 : (0 : Int) ≤ (k : Int) := by omega
      have p1 : (k : Int) < (xs.length : Int) := by omega
      obtain ⟨T, hT⟩ : ∃ T, (xs.take k).map Prod.snd = T := ⟨_, rfl⟩
      have hct := contains_take xs k hk m2
      rw [hT] at hstep hct
      have HX := Lib.hid (And.intro hm hct)
      have HS := Lib.hid hstep
      have HB := Lib.hid hbel
      have HH := Lib.hid (And.intro hcc hlt)
      clear hT hm hct hstep hbel hall hcc
      have hbad : goodM spare T (m1, m2) = false → R = false := by
        intro hg
        rw [HR.out, HS.out, hg, Bool.false_and]
      have HBad := Lib.hid hbad
      clear hbad
      by_cases n1 : m1 < 0
      · have g1 : decide (m1 < 0) = true := by simpa using n1
        go_wp2_with fail
        go_ret
        rw [HBad.out (by have : decide (0 ≤ m1) = false := by simp; omega
                         simp [goodM, isReg, this])]
        exact ⟨rfl, HB.out⟩
      have g1 : decide (m1 < 0) = false := by simpa using n1
      by_cases n2 : 30 < m1
      · have g2 : decide (30 < m1) = true := by simpa using n2
        go_wp2_with fail
        go_ret
        rw [HBad.out (by have : decide (m1 ≤ 30) = false := by simp; omega
                         simp [goodM, isReg, this])]
        exact ⟨rfl, HB.out⟩
      have g2 : decide (30 < m1) = false := by simpa using n2
      by_cases n3 : m2 < 0
      · have g3 : decide (m2 < 0) = true := by simpa using n3
        go_wp2_with fail
        go_ret
        rw [HBad.out (by have : decide (0 ≤ m2) = false := by simp; omega
                         simp [goodM, isReg, this])]
        exact ⟨rfl, HB.out⟩
      have g3 : decide (m2 < 0) = false := by simpa using n3
      by_cases n4 : 30 < m2
      · have g4 : decide (30 < m2) = true := by simpa using n4
        go_wp2_with fail
        go_ret
        rw [HBad.out (by have : decide (m2 ≤ 30) = false := by simp; omega
                         simp [goodM, isReg, this])]
        exact ⟨rfl, HB.out⟩
      have g4 : decide (30 < m2) = false := by simpa using n4
      by_cases n5 : m1 = spare
      · have g5 : (m1 == spare) = true := by simp [n5]
        have HN := Lib.hid n5
        clear n5
        go_wp2_with fail
        go_ret
        rw [HBad.out (by simp [goodM, HN.out])]
        exact ⟨rfl, HB.out⟩
      have g5 : (m1 == spare) = false := by simpa using n5
      by_cases n6 : m2 = spare
      · have g6 : (m2 == spare) = true := by simp [n6]
        have HN := Lib.hid n6
        clear n6
        go_wp2_with fail
        go_ret
        rw [HBad.out (by simp [goodM, HN.out])]
        exact ⟨rfl, HB.out⟩
      have g6 : (m2 == spare) = false := by simpa using n6
      go_wp2_with fail
      go_loopw [6] (fun i wq => ∃ q : Nat, q ≤ k ∧ i = .int .i64 q ∧ Below w.heap.size w wq ∧ ∀ j, j < q → (xs.getD j (0, 0)).2 ≠ m2) (fun i _ => k - (intOf i).toNat)
      case atStart => exact ⟨0, Nat.zero_le _, rfl, HB.out, fun j hj => by omega⟩
      case round =>
        obtain ⟨q, hq, rfl, hbq, hne⟩ := hrel
        have HN := Lib.hid (And.intro hbq hne)
        clear hbq hne c0 c1
        by_cases hqk : q < k
        · have f2 : decide ((q : Int) < (k : Int)) = true := by simp; omega
          have q0 : (0 : Int) ≤ (q : Int) := by omega
          have q1 : (q : Int) < (xs.length : Int) := by omega
          have d1 := (HN.out.1.cell (p := ⟨b, off + k * 2 + 1, none⟩) HH.out.2).trans (HH.out.1 k hkl).2
          have d2 := (HN.out.1.cell (p := ⟨b, off + q * 2 + 1, none⟩) HH.out.2).trans (HH.out.1 q (by omega)).2
          rw [HX.out.1] at d1
          obtain ⟨u, hu⟩ : ∃ u, (xs.getD q (0, 0)).2 = u := ⟨_, rfl⟩
          rw [hu] at d2
          simp only at d1
          have HU := Lib.hid hu
          clear hu
          by_cases huv : u = m2
          · have f3 : (u == m2) = true := by simp [huv]
            have HV := Lib.hid huv
            clear huv
            go_wp2_with fail
            go_quiet (fail)
            go_wp2
            go_ret
            rw [HBad.out (by
              have hc : T.contains m2 = true := HX.out.2.2 ⟨q, hqk, by rw [HU.out]; exact HV.out⟩
              simp only [goodM, hc]
              simp)]
            exact ⟨rfl, HN.out.1.trans (drewN_below _ _ _)⟩
          · have f3 : (u == m2) = false := by simpa using huv
            have HV := Lib.hid huv
            clear huv
            go_wp2_with fail
            go_quiet (fail)
            go_wp2_with fail
            go_roundw
            case rel =>
              refine ⟨q + 1, by omega, by go_num, HN.out.1.trans (drewN_below _ _ _), fun j hj => ?_⟩
              by_cases e : j = q
              · rw [e, HU.out]; exact HV.out
              · exact HN.out.2 j (by omega)
            case measure => simp [intOf]; omega
        · obtain rfl : q = k := by omega
          have f2 : decide ((q : Int) < (q : Int)) = false := by simp
          go_wp2_with fail
          go_roundw
          case rel =>
            have hc : T.contains m2 = false := by
              rw [← Bool.not_eq_true]
              intro h
              obtain ⟨j, hj, hjm⟩ := HX.out.2.1 h
              exact HN.out.2 j hj hjm
            have hg : goodM spare T (m1, m2) = true := by
              have r1 : isReg m1 = true := by unfold isReg; rw [Bool.and_eq_true]; constructor <;> simp <;> omega
              have r2 : isReg m2 = true := by unfold isReg; rw [Bool.and_eq_true]; constructor <;> simp <;> omega
              simp only [goodM, r1, r2, g5, g6, hc]; rfl
            have hS := HS.out
            rw [hg, Bool.true_and] at hS
            exact ⟨q + 1, by omega, by go_num, HN.out.1, hS⟩
          case measure => simp [intOf]; omega
    · obtain rfl : k = xs.length := by omega
      have f1 : decide ((xs.length : Int) < (xs.length : Int)) = false := by simp
      simp only [List.drop_length, allM] at hall
      have HA := Lib.hid hall
      have HB := Lib.hid hbel
      clear hall hbel
      go_wp2_with fail
      go_ret
      refine ⟨?_, HB.out⟩
      rw [HR.out, HA.out]
      rfl

end Go.Proofs.Ytjnomnaeegcafaa
