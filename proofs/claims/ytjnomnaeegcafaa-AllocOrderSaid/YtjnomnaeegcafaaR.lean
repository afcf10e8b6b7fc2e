import Derived.Test.YtjnomnaeegcafaaO
import Derived.Laws.AppendOwnNone
namespace Go.Proofs.Ytjnomnaeegcafaa
open Go.RowKit Go.Shelf

theorem wpList_append_reads {P : Program} {ops : Array Oper} {rest : List Oper} {o : Oper} {a : Act} {w : World} {Q : Exit → Act → World → Prop} (hgd : o.guard = none) (s x : Operand) (t : TypeId)
    (ho : o.op = .call { callee := .builtin .append, args := #[s, x], argTypes := #[t, t] })
    (base : Nat) (i : TypeInfo) (z : Value) (ht : P.underlying t = some (.slice 28)) (hi : P.info? 28 = some i) (hz : i.zero = some z)
    (hsize : i.size = 2) (hby : i.bytes = 16) (hzs : z.cells.size = 2)
    (v : Value) (hs : a.eval s = v) (hown : w.ownsRow base 28 2 v 0 []) (u : Value) (hx : a.eval x = u) (xs : List Mv) (hr : ReadsM w u xs)
    (hlen : xs.length * 16 ≤ 140737488355328) (hbase : base ≤ w.heap.size)
    (h : ∀ v' w', w'.ownsRow base 28 2 v' xs.length (cellsM xs) → w.grownBy w' v.ownBlock → wpList P ops Q rest (a.put o.dst v') w') :
    wpList P ops Q (o :: rest) a w := by
  obtain ⟨ad, cap, rfl, h2, h3⟩ := hr
  cases ad with
  | none =>
    obtain ⟨rfl, rfl⟩ := h2 rfl
    exact wpList_append_own_none hgd s x t ho base 28 i 2 ht hi v 0 [] hs hown hx (h v w hown ⟨rfl, rfl, rfl, Nat.le_refl _, fun _ _ _ => rfl⟩)
  | some ad =>
    refine wpList_append_own_at _ hgd s x t ho base 28 i z 2 16 ht hi hz hsize hby hzs (by decide) v 0 [] hs hown ad xs.length cap (cellsM xs) hx (cellsM_length xs) ?_ (cellsM_one xs) (by unfold maxLen; omega) (by omega) hbase ?_
    · intro j u hj
      have hjl : j < (cellsM xs).length := (List.getElem?_eq_some_iff.1 hj).1
      rw [cellsM_length] at hjl
      obtain ⟨b, off, hab, hlt, hc⟩ := h3 (by omega)
      simp only [Option.some.injEq] at hab
      subst hab
      have hadd : (⟨b, off, none⟩ : Addr).add j = ⟨b, off + j, none⟩ := by unfold Addr.add; split <;> simp_all
      rw [hadd, ← hj]
      have hcm := cellsM_at xs (j / 2) (by omega)
      have hcc := hc (j / 2) (by omega)
      by_cases hp : j % 2 = 0
      · have e : j = j / 2 * 2 := by omega
        have h5 := hcc.1
        rw [← hcm.1, ← e] at h5
        exact h5
      · have e : j = j / 2 * 2 + 1 := by omega
        have h5 := hcc.2
        rw [← hcm.2, ← e, Nat.add_assoc, ← e] at h5
        exact h5
    · intro v' w' h1 h2 _ _
      rw [Nat.zero_add, List.nil_append] at h1
      exact h v' w' h1 h2

set_option maxRecDepth 100000 in
set_option maxHeartbeats 8000000 in
theorem aorder_any (w : World) (v : Value) (xs : List Mv) (spare : Int) (hr : ReadsM w v xs) (hl : xs.length * 16 ≤ 140737488355328) :
    Calls Try.prog 3 #[v, .int .i64 spare] w (Holds w) := by
  have V := Lib.hid (fun (w' : World) => lives_true w')
  have HR := Lib.hid hr
  obtain ⟨av, cv, rfl⟩ : ∃ a c, v = .slice a xs.length c := by
    obtain ⟨a, c, h, _⟩ := hr
    exact ⟨a, c, h⟩
  obtain ⟨i0, hi, hz0, hz1, hz2⟩ := info_parts Try.infoMv
  clear hr
  by_cases h60 : 60 < xs.length
  · have e60 : decide ((60 : Int) < (xs.length : Int)) = true := by simp; omega
    go_enter Try.func3, Try.ntmps3
    go_wp2_with fail
    refine (V.out _).mono ?_
    rintro e w2 ⟨rfl, hb2⟩
    go_wp2
    go_ret
    exact ⟨rfl, hb2⟩
  have e60 : decide ((60 : Int) < (xs.length : Int)) = false := by simp; omega
  have M := Lib.hid (fun (w' : World) (h : ReadsM w' (.slice av xs.length cv) xs) => rmay_any w' _ xs spare h (by omega))
  obtain ⟨mb, hmb⟩ : ∃ b, mayB xs spare = b := ⟨_, rfl⟩
  rw [hmb] at M
  go_enter Try.func3, Try.ntmps3
  go_wp2_with (first | (at_builtin; refine wpList_append_reads rfl _ _ 22 rfl w.heap.size i0 (.agg #[.int .i64 0, .int .i64 0]) Try.underlying22 hi hz0 hz1 hz2 rfl _ rfl (World.ownsRow_made (base := w.heap.size) (e := 28) (size := 2) w #[] 0 (Nat.le_refl _) (Nat.zero_le _) rfl) _ rfl xs (HR.out.below ((Below.refl _ w).alloc (Nat.le_refl _) _)) hl (by simp) ?_; intro vo w1 hown1 hg1))
  have hb1 : Below w.heap.size w w1 := ((Below.refl _ w).alloc (Nat.le_refl _) _).grown hg1 (by simp) (fun k hk => by cases hk; exact Nat.le_refl _)
  have hro := own_reads hown1
  obtain ⟨ao, co, rfl⟩ : ∃ a c, vo = .slice a xs.length c := by
    obtain ⟨a, c, h, _⟩ := hro
    exact ⟨a, c, h⟩
  have H1 := Lib.hid (And.intro hro hb1)
  clear hown1 hg1 hro hb1
  have hord : Calls Try.prog 8 #[.slice ao xs.length co, .int .i64 spare] w1 fun e w' => ∃ va ea, e = .returned (.tuple #[va, .int .i64 ea]) ∧ Below w1.heap.size w1 w' ∧ ((mb = false ∧ va = .slice none 0 0 ∧ ea = 1) ∨ (mb = true ∧ ea = 0 ∧ w'.ownsRow w1.heap.size 28 2 va (orderAll xs spare).length (cellsM (orderAll xs spare)))) := by
    cases mb
    · refine (order_bad w1 _ xs spare H1.out.1 hl hmb).mono ?_
      rintro e w' ⟨rfl, hb⟩
      exact ⟨_, _, rfl, hb, .inl ⟨rfl, rfl, rfl⟩⟩
    · refine (order_good w1 _ xs spare H1.out.1 hl hmb).mono ?_
      rintro e w' ⟨vo, rfl, hown, hb⟩
      exact ⟨_, _, rfl, hb, .inr ⟨rfl, rfl, hown⟩⟩
  have HMB := Lib.hid hmb
  have HORD := Lib.hid hord
  clear hord hmb
  refine HORD.out.mono ?_
  rintro e w2 ⟨va, ea, rfl, hb2, hcase⟩
  have H2 := Lib.hid (And.intro (H1.out.1.below hb2) (And.intro (H1.out.2.trans (hb2.mono H1.out.2.size)) hcase))
  clear hb2 hcase
  go_wp2_with fail
  refine (V.out _).mono ?_
  rintro e w3 ⟨rfl, hb3⟩
  have hcase3 : (mb = false ∧ va = .slice none 0 0 ∧ ea = 1) ∨ (mb = true ∧ ea = 0 ∧ ReadsM w3 va (orderAll xs spare)) := by
    rcases H2.out.2.2 with h | ⟨h1, h2, h3⟩
    · exact .inl h
    · exact .inr ⟨h1, h2, (own_reads h3).below hb3⟩
  have H3 := Lib.hid (And.intro (H2.out.1.below hb3) (And.intro (H2.out.2.1.trans (hb3.mono H2.out.2.1.size)) hcase3))
  clear hb3 hcase3
  go_wp2_with fail
  go_loopw [8] (fun q wr => ∃ i : Nat, i ≤ xs.length ∧ q = .int .i64 i ∧ Below w3.heap.size w3 wr) (fun q _ => xs.length - (intOf q).toNat)
  case atStart => exact ⟨0, Nat.zero_le _, rfl, Below.refl _ _⟩
  case round =>
    obtain ⟨i, hile, rfl, hbl⟩ := hrel
    have HBL := Lib.hid hbl
    clear hbl
    by_cases hil : i < xs.length
    · have e1 : decide ((i : Int) < (xs.length : Int)) = true := by simp; omega
      have p0 : (0 : Int) ≤ (i : Int) := by omega
      have p1 : (i : Int) < (xs.length : Int) := by omega
      obtain ⟨a1, c1, he1, -, hc1⟩ := H3.out.1.below HBL.out
      obtain ⟨a2, c2, he2, -, hc2⟩ := HR.out.below (H3.out.2.1.trans (HBL.out.mono H3.out.2.1.size))
      obtain ⟨b1, o1, hab1, -, hcc1⟩ := hc1 (by omega)
      obtain ⟨b2, o2, hab2, -, hcc2⟩ := hc2 (by omega)
      simp only [Value.slice.injEq] at he1 he2
      obtain ⟨rfl, -, rfl⟩ := he1
      obtain ⟨rfl, -, rfl⟩ := he2
      subst hab1 hab2
      have d1 := (hcc1 i hil).1
      have d2 := (hcc1 i hil).2
      have d3 := (hcc2 i hil).1
      have d4 := (hcc2 i hil).2
      obtain ⟨m, hm⟩ : ∃ m, xs.getD i (0, 0) = m := ⟨_, rfl⟩
      rw [hm] at d1 d2 d3 d4
      clear hc1 hc2 hcc1 hcc2 hm
      go_wp2_with fail
      go_quiet (fail)
      go_wp2_with fail
      go_roundw
      case rel => exact ⟨i + 1, by omega, by go_num, HBL.out.trans (drewN_below _ _ _)⟩
      case measure => simp [intOf]; omega
    · have e1 : decide ((i : Int) < (xs.length : Int)) = false := by simp; omega
      have hbw := H3.out.2.1.trans (HBL.out.mono H3.out.2.1.size)
      have HBW := Lib.hid hbw
      have hcase4 : (mb = false ∧ va = .slice none 0 0 ∧ ea = 1) ∨ (mb = true ∧ ea = 0 ∧ ReadsM wr va (orderAll xs spare)) := by
        rcases H3.out.2.2 with h | ⟨h1, h2, h3⟩
        · exact .inl h
        · exact .inr ⟨h1, h2, h3.below HBL.out⟩
      clear hbw
      rcases hcase4 with ⟨rfl, rfl, rfl⟩ | ⟨rfl, rfl, hra⟩
      · go_wp2_with fail
        refine (M.out _ (HR.out.below HBW.out)).mono ?_
        rintro e w5 ⟨rfl, hb5⟩
        have H5 := Lib.hid (HBW.out.trans (hb5.mono HBW.out.size))
        clear hb5
        go_wp2
        go_ret
        exact ⟨rfl, H5.out⟩
      · have HRA := Lib.hid hra
        obtain ⟨aa, ca, rfl⟩ : ∃ a c, va = .slice a (orderAll xs spare).length c := by
          obtain ⟨a, c, h, _⟩ := hra
          exact ⟨a, c, h⟩
        have hol : (orderAll xs spare).length ≤ 123 := by
          have := orderF_length spare (2 * xs.length + 1) (realM xs)
          unfold orderAll
          omega
        obtain ⟨O, hO⟩ : ∃ O, orderAll xs spare = O := ⟨_, rfl⟩
        have HOO := Lib.hid hO
        rw [hO] at hol HRA
        rw [hO]
        clear hra hO
        go_wp2_with fail
        refine (M.out _ (HR.out.below HBW.out)).mono ?_
        rintro e w5 ⟨rfl, hb5⟩
        have H5 := Lib.hid (And.intro (HRA.out.below hb5) (HBW.out.trans (hb5.mono HBW.out.size)))
        clear hb5
        go_wp2_with fail
        refine (rorder_any _ _ xs spare (HR.out.below H5.out.2) HMB.out).mono ?_
        rintro e w6 ⟨vb, rfl, hown6, hb6⟩
        rw [HOO.out] at hown6
        have hrb := own_reads hown6
        obtain ⟨ab, cb, rfl⟩ : ∃ a c, vb = .slice a O.length c := by
          obtain ⟨a, c, h, _⟩ := hrb
          exact ⟨a, c, h⟩
        have H6 := Lib.hid (And.intro (H5.out.1.below hb6) (And.intro hrb (H5.out.2.trans (hb6.mono H5.out.2.size))))
        clear hown6 hb6 hrb
        go_wp2_with fail
        go_loopw [10] (fun q wr => ∃ i : Nat, i ≤ O.length ∧ q = .int .i64 i ∧ Below w6.heap.size w6 wr) (fun q _ => O.length - (intOf q).toNat)
        case atStart => exact ⟨0, Nat.zero_le _, rfl, Below.refl _ _⟩
        case round =>
          obtain ⟨j, hjle, rfl, hbl⟩ := hrel
          have HBL2 := Lib.hid hbl
          clear hbl
          by_cases hjl : j < O.length
          · have e2 : decide ((j : Int) < (O.length : Int)) = true := by simp; omega
            have q0 : (0 : Int) ≤ (j : Int) := by omega
            have q1 : (j : Int) < (O.length : Int) := by omega
            obtain ⟨a1, c1, he1, -, hc1⟩ := H6.out.1.below HBL2.out
            obtain ⟨a2, c2, he2, -, hc2⟩ := H6.out.2.1.below HBL2.out
            obtain ⟨b1, o1, hab1, -, hcc1⟩ := hc1 (by omega)
            obtain ⟨b2, o2, hab2, -, hcc2⟩ := hc2 (by omega)
            simp only [Value.slice.injEq] at he1 he2
            obtain ⟨rfl, -, rfl⟩ := he1
            obtain ⟨rfl, -, rfl⟩ := he2
            subst hab1 hab2
            have d1 := (hcc1 j hjl).1
            have d2 := (hcc1 j hjl).2
            have d3 := (hcc2 j hjl).1
            have d4 := (hcc2 j hjl).2
            obtain ⟨m, hm⟩ : ∃ m, O.getD j (0, 0) = m := ⟨_, rfl⟩
            rw [hm] at d1 d2 d3 d4
            clear hc1 hc2 hcc1 hcc2 hm
            go_wp2_with fail
            go_quiet (fail)
            go_wp2_with fail
            go_roundw
            case rel => exact ⟨j + 1, by omega, by go_num, HBL2.out.trans (drewN_below _ _ _)⟩
            case measure => simp [intOf]; omega
          · have e2 : decide ((j : Int) < (O.length : Int)) = false := by simp; omega
            go_wp2
            go_ret
            exact ⟨rfl, H6.out.2.2.trans (HBL2.out.mono H6.out.2.2.size)⟩

end Go.Proofs.Ytjnomnaeegcafaa
