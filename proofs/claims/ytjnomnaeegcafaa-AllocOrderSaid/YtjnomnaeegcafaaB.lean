import Derived.Test.YtjnomnaeegcafaaA
import Derived.Maps.OwnOps
import Derived.Maps.Views
namespace Go.Proofs.Ytjnomnaeegcafaa
open Go.RowKit Go.Maps

abbrev Mv := Int × Int
/-- The cells of a list of moves. -/
def cellsM (xs : List Mv) : List Value := xs.flatMap fun m => [.int .i64 m.1, .int .i64 m.2]
theorem cellsM_length (xs : List Mv) : (cellsM xs).length = xs.length * 2 := by
  induction xs with
  | nil => rfl
  | cons m xs ih => simp only [cellsM, List.flatMap_cons, List.length_append, List.length_cons, List.length_nil] at *; omega
theorem cellsM_append (xs ys : List Mv) : cellsM (xs ++ ys) = cellsM xs ++ cellsM ys := by simp [cellsM]
theorem cellsM_cons (m : Mv) (xs : List Mv) : cellsM (m :: xs) = [.int .i64 m.1, .int .i64 m.2] ++ cellsM xs := by simp [cellsM]
theorem cellsM_at : ∀ (xs : List Mv) (i : Nat), i < xs.length → (cellsM xs)[i * 2]? = some (.int .i64 (xs.getD i (0, 0)).1) ∧ (cellsM xs)[i * 2 + 1]? = some (.int .i64 (xs.getD i (0, 0)).2)
  | [], _, h => by simp at h
  | m :: xs, 0, _ => by simp [cellsM_cons]
  | m :: xs, i + 1, h => by
    have ih := cellsM_at xs i (by simpa using h)
    rw [cellsM_cons]
    simp only [List.getD_cons_succ]
    constructor
    · rw [List.getElem?_append_right (by simp; omega), ← ih.1]; congr 1; simp; omega
    · rw [List.getElem?_append_right (by simp; omega), ← ih.2]; congr 1; simp; omega
theorem cellsM_one (xs : List Mv) : ∀ u ∈ cellsM xs, u.oneCell' = true := by
  intro u hu
  simp only [cellsM, List.mem_flatMap] at hu
  obtain ⟨m, _, hm⟩ := hu
  simp at hm
  rcases hm with rfl | rfl <;> rfl

/-- A slice that reads as a list of moves. -/
def ReadsM (w : World) (v : Value) (xs : List Mv) : Prop :=
  ∃ a cap, v = .slice a xs.length cap ∧ (a = none → xs = [] ∧ cap = 0) ∧ (0 < xs.length → ∃ b off, a = some ⟨b, off, none⟩ ∧ b < w.heap.size ∧
    ∀ i, i < xs.length → w.cell? ⟨b, off + i * 2, none⟩ = some (.int .i64 (xs.getD i (0, 0)).1) ∧ w.cell? ⟨b, off + i * 2 + 1, none⟩ = some (.int .i64 (xs.getD i (0, 0)).2))

theorem ReadsM.below {w w' : World} {v : Value} {xs : List Mv} (h : ReadsM w v xs) (hb : Below w.heap.size w w') : ReadsM w' v xs := by
  obtain ⟨a, cap, h1, h2, h3⟩ := h
  refine ⟨a, cap, h1, h2, fun h => ?_⟩
  obtain ⟨b, off, e, hlt, hc⟩ := h3 h
  exact ⟨b, off, e, Nat.lt_of_lt_of_le hlt hb.size, fun i hi => ⟨(hb.cell (p := ⟨b, _, none⟩) hlt).trans (hc i hi).1, (hb.cell (p := ⟨b, _, none⟩) hlt).trans (hc i hi).2⟩⟩

/-! ### may -/
def isReg (r : Int) : Bool := decide (0 ≤ r) && decide (r ≤ 30)
/-- Is one move good, behind those before it? -/
def goodM (spare : Int) (tos : List Int) (m : Mv) : Bool := isReg m.1 && isReg m.2 && !(m.1 == spare) && !(m.2 == spare) && !(tos.contains m.2)
def allM (spare : Int) : List Int → List Mv → Bool
  | _, [] => true
  | tos, m :: xs => goodM spare tos m && allM spare (tos ++ [m.2]) xs
def mayB (xs : List Mv) (spare : Int) : Bool := allM spare [] xs && isReg spare

theorem law : Keyed Try.prog 3 := int_keyed Try.underlying3
theorem zero4 (w : World) : (zeroValue 4).run Try.prog w = .ok (.bool false) w := by kernel_rfl

theorem plainElem_bool_inv {H : Type} {P : Program} {e : TypeId} (he : P.underlying e = some .bool) {v : Value} {y : DataW H × List MemPlace} (h : plainElem P e v = some y) : ∃ x, v = .bool x ∧ y = (.lit (.bool x), []) := by
  cases v <;> simp_all [plainElem]

theorem lookup_bool {H : Type} {P : Program} {w : World} {k e t : TypeId} {b n : Nat} {D : DataW H} (h : w.ownsMap P k (plainElem P e) b n D) (K : Keyed P k) (ht : P.underlying t = some (.map k e)) (he : P.underlying e = some .bool) (hz : (zeroValue e).run P w = .ok (.bool false) w)
    {key : Value} {kl : Lit} (hkey : keyOf P k key = some kl) : ∃ c, (Instr.lookup t (.map (some b)) key false).run P w = .ok (.bool c) w ∧ D.atKey kl (.lit (.bool false)) = .lit (.bool c) := by
  obtain ⟨v, ps, hrun, hv⟩ := h.lookup K ht hz (plainElem_bool he false) hkey
  obtain ⟨c, rfl, hc⟩ := plainElem_bool_inv he hv
  simp only [Prod.mk.injEq] at hc
  exact ⟨c, hrun, hc.1⟩

theorem may_step (xs : List Mv) (spare : Int) (k : Nat) (hk : k < xs.length) :
    allM spare ((xs.take k).map Prod.snd) (xs.drop k) = (goodM spare ((xs.take k).map Prod.snd) (xs.getD k (0, 0)) && allM spare ((xs.take (k + 1)).map Prod.snd) (xs.drop (k + 1))) := by
  have e1 : xs.getD k (0, 0) = xs[k] := by simp [List.getD, List.getElem?_eq_getElem hk]
  rw [List.drop_eq_getElem_cons hk, e1, List.take_succ_eq_append_getElem hk]
  simp only [allM, List.map_append, List.map_cons, List.map_nil]

theorem isReg_call (r : Int) (w : World) : Calls Try.prog 28 #[.int .i64 r] w fun e w' => e = .returned (.bool (isReg r)) ∧ w = w' := isReg_any r w

set_option maxRecDepth 100000 in
set_option maxHeartbeats 4000000 in
theorem may_any (w : World) (v : Value) (xs : List Mv) (spare : Int) (hr : ReadsM w v xs) (hl : xs.length ≤ 140737488355328) :
    Calls Try.prog 17 #[v, .int .i64 spare] w fun e w' => e = .returned (.bool (mayB xs spare)) ∧ Below w.heap.size w w' := by
  obtain ⟨a, cap, rfl, -, hc⟩ := hr
  have HC := Lib.hid hc
  have hmm := @run_makeMap Try.prog
  clear hc
  go_enter Try.func17, Try.ntmps17
  go_wp2
  go_loopw [12] (fun i wr => ∃ (k : Nat) (D : DataW Unit), k ≤ xs.length ∧ i = .int .i64 k ∧ wr.ownsMap Try.prog 3 (plainElem Try.prog 4) w.heap.size k D ∧ IsMap D ∧
    (∀ z, D.atKey (.int .i64 z) (.lit (.bool false)) = .lit (.bool (((xs.take k).map Prod.snd).contains z))) ∧ Below w.heap.size w wr ∧ allM spare [] xs = allM spare ((xs.take k).map Prod.snd) (xs.drop k)) (fun i _ => xs.length - (intOf i).toNat)
  case atStart => exact ⟨0, .map [], Nat.zero_le _, rfl, World.ownsMap_made _ _ _ _, isMap_empty, fun z => by simp [DataW.atKey], (Below.refl _ w).alloc (Nat.le_refl _) _, by simp⟩
  case round =>
    obtain ⟨k, D, hk, rfl, hown, hmap, hat, hbel, hall⟩ := hrel
    by_cases hkl : k < xs.length
    · obtain ⟨b, off, rfl, hlt, hcc⟩ := HC.out (by omega)
      have c0 := (hbel.cell (p := ⟨b, off + k * 2, none⟩) hlt).trans (hcc k hkl).1
      have c1 := (hbel.cell (p := ⟨b, off + k * 2 + 1, none⟩) hlt).trans (hcc k hkl).2
      have hstep := may_step xs spare k hkl
      rw [← hall] at hstep
      obtain ⟨m, hm⟩ : ∃ m, xs.getD k (0, 0) = m := ⟨_, rfl⟩
      rw [hm] at hstep c0 c1
      obtain ⟨m1, m2⟩ := m
      simp only at c0 c1
      have e1 : decide ((k : Int) < (xs.length : Int)) = true := by simp; omega
      have p0 : (0 : Int) ≤ (k : Int) := by omega
      have p1 : (k : Int) < (xs.length : Int) := by omega
      obtain ⟨T, hT⟩ : ∃ T, (xs.take k).map Prod.snd = T := ⟨_, rfl⟩
      rw [hT] at hstep hat
      have HX := Lib.hid (And.intro hT hm)
      have HS := Lib.hid hstep
      have HO := Lib.hid hown
      have HD := Lib.hid hmap
      have HT := Lib.hid hat
      have hnm : mayB xs spare = (goodM spare T (m1, m2) && allM spare ((xs.take (k + 1)).map Prod.snd) (xs.drop (k + 1)) && isReg spare) := by rw [mayB, hstep]
      have HM := Lib.hid hnm
      have HH := Lib.hid hcc
      clear hT hm hstep hown hmap hat hnm hall hcc
      have hbad : ∀ W, Below w.heap.size w W → goodM spare T (m1, m2) = false → Ending.returned (.bool false) = .returned (.bool (mayB xs spare)) ∧ Below w.heap.size w W := by
        intro W hW hg
        rw [HM.out, hg]
        exact ⟨rfl, hW⟩
      have HB := Lib.hid hbad
      have hbox : Below w.heap.size w (wr.alloc (.cells #[.int .i64 m1, .int .i64 m2] 28)) := hbel.alloc hbel.size _
      clear hbad
      cases r1 : isReg m1
      · go_wp2_with (first | (go_at_call 28; refine (isReg_call _ _).mono ?_; rintro e w' ⟨rfl, rfl⟩))
        go_ret
        exact HB.out _ hbox (by simp [goodM, r1])
      cases r2 : isReg m2
      · go_wp2_with (first | (go_at_call 28; refine (isReg_call _ _).mono ?_; rintro e w' ⟨rfl, rfl⟩))
        go_ret
        exact HB.out _ hbox (by simp [goodM, r2])
      by_cases s1 : m1 = spare
      · have s1' : (m1 == spare) = true := by simp [s1]
        have hg : goodM spare T (m1, m2) = false := by simp [goodM, s1]
        have HG := Lib.hid hg
        clear s1 hg
        go_wp2_with (first | (go_at_call 28; refine (isReg_call _ _).mono ?_; rintro e w' ⟨rfl, rfl⟩))
        go_ret
        exact HB.out _ hbox HG.out
      have s1' : (m1 == spare) = false := by simpa using s1
      by_cases s2 : m2 = spare
      · have s2' : (m2 == spare) = true := by simp [s2]
        have hg : goodM spare T (m1, m2) = false := by simp [goodM, s2]
        have HG := Lib.hid hg
        clear s1 s2 hg
        go_wp2_with (first | (go_at_call 28; refine (isReg_call _ _).mono ?_; rintro e w' ⟨rfl, rfl⟩))
        go_ret
        exact HB.out _ hbox HG.out
      have s2' : (m2 == spare) = false := by simpa using s2
      have hm2 : 0 ≤ m2 ∧ m2 ≤ 30 := by simpa [isReg] using r2
      have hkey : keyOf Try.prog 3 (.int .i64 m2) = some (.int .i64 m2) := keyOf_int_mk Try.underlying3 (WalkArith.wf_i64 (by omega))
      have hown2 := HO.out.alloc (.cells #[.int .i64 m1, .int .i64 m2] 28)
      obtain ⟨c, hrun, hc⟩ := lookup_bool hown2 law Try.underlying45 Try.underlying4 (zero4 _) hkey
      rw [HT.out] at hc
      obtain rfl : T.contains m2 = c := by simpa using hc
      clear s1 s2 hm2 hc
      cases hcn : T.contains m2
      · rw [hcn] at hrun
        have HK := Lib.hid hkey
        have HO2 := Lib.hid hown2
        clear hkey hown2
        go_wp2_with (first | (go_at_call 28; refine (isReg_call _ _).mono ?_; rintro e w' ⟨rfl, rfl⟩) | (at_mapUpdate; refine wpList_mapUpdate_own _ rfl _ _ _ 45 rfl 3 4 law Try.underlying45 _ w.heap.size k _ rfl HO2.out (by unfold maxLen; omega) _ _ _ rfl rfl HK.out _ [] (plainElem_bool Try.underlying4 true) ?_; intro w1 hown1 hgrow1))
        clear hrun
        have hb1 : Below w.heap.size w w1 := hbox.grown hgrow1 hbox.size (fun j hj => by cases hj; exact Nat.le_refl _)
        have hg : goodM spare T (m1, m2) = true := by simp only [goodM, r1, r2, s1', s2', hcn]; rfl
        have hS := HS.out
        rw [hg, Bool.true_and] at hS
        have hT1 : (xs.take (k + 1)).map Prod.snd = T ++ [m2] := by
          have e1 : xs[k] = (m1, m2) := by rw [← HX.out.2]; simp [List.getD, List.getElem?_eq_getElem hkl]
          rw [List.take_succ_eq_append_getElem hkl, List.map_append, HX.out.1, e1]
          rfl
        go_roundw
        case rel =>
          refine ⟨k + 1, _, by omega, by go_num, hown1, HD.out.put _ _, fun z => ?_, hb1, hS⟩
          rw [hT1]
          by_cases hz : z = m2
          · subst hz
            rw [atKey_put_same HD.out (by simp [WideAt.IsKeyLit])]
            simp
          · rw [atKey_put_other (by simpa using hz), HT.out]
            simp [hz]
        case measure => simp [intOf]; omega
      · rw [hcn] at hrun
        go_wp2_with (first | (go_at_call 28; refine (isReg_call _ _).mono ?_; rintro e w' ⟨rfl, rfl⟩))
        go_ret
        exact HB.out _ hbox (by simp only [goodM, hcn]; simp)
    · obtain rfl : k = xs.length := by omega
      have e1 : decide ((xs.length : Int) < (xs.length : Int)) = false := by simp
      simp only [List.drop_length, allM] at hall
      have HA := Lib.hid hall
      clear hall hown hat hmap
      go_wp2_with (first | (go_at_call 28; refine (isReg_call _ _).mono ?_; rintro e w' ⟨rfl, rfl⟩))
      go_ret
      refine ⟨?_, hbel⟩
      simp only [mayB, HA.out, Bool.true_and]
      rfl

end Go.Proofs.Ytjnomnaeegcafaa
