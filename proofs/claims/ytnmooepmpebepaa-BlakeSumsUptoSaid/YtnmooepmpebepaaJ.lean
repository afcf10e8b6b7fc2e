import Derived.Test.YtnmooepmpebepaaI
import Derived.Test.YtnmooepmpebepaaH
namespace Go.Proofs.Ytnmooepmpebepaa
open Go.RowKit

theorem wpList_box_any {P : Program} {ops : Array Oper} {rest : List Oper} {op : Oper} {a : Act} {w : World} {Q : Exit → Act → World → Prop} (hgd : op.guard = none) (ty : TypeId) (x : Operand) (ho : op.op = .box ty x) (cs cs' : Array Value)
    (hx : a.eval x = .agg cs) (he : cs = cs')
    (k : ∀ w', w'.heap[w.heap.size]? = some (.cells cs' ty (0, 0)) → Ch (fun _ => False) w w' → wpList P ops Q rest (a.put op.dst (.pointer (some ⟨w.heap.size, 0, none⟩))) w') : wpList P ops Q (op :: rest) a w := by
  refine wpList_plain hgd fun K hK => ?_
  subst he
  have h1 : (Instr.box ty (.agg cs)).run P w = .ok (.pointer (some ⟨w.heap.size, 0, none⟩)) (w.alloc (.cells cs ty)) := by
    simp [Instr.box, newVar, newRow, Value.cells]
  unfold Oper.wp execOp
  simp only [ho, hx, Sem.run_bind, Sem.run_pure, Result.andThen_ok, h1]
  exact hK _ _ (k _ (heap_alloc_new w _) ((Ch.refl _ w).alloc _))

theorem zero53 : (Try.prog.info? 53).map (fun i => (i.zero, i.size)) = some (some (.agg (hcells ⟨List.replicate 8 0, List.replicate 64 0, 0, 0⟩).toArray), 74) := by kernel_rfl

def NewEnd (w : World) (e : Ending) (w' : World) : Prop := ∃ g, e = .returned (.pointer (some ⟨g, 0, none⟩)) ∧ w.heap.size ≤ g ∧ HashAt w' g ⟨h0S, List.replicate 64 0, 0, 0⟩ ∧ Below w.heap.size w w'

set_option maxRecDepth 100000 in
set_option maxHeartbeats 8000000 in
theorem new_any (w : World) : Calls Try.prog 10 #[] w (NewEnd w) := by
  have z53 := (zero_of_info zero53).1
  go_enter Try.func10, Try.ntmps10
  go_wp2_with fail
  refine (first_any _).mono ?_
  rintro e w1 ⟨rfl, hb1⟩
  go_wp2_with (first | (refine wpList_box_any (by rfl) 53 (.tmp 3) (by rfl) _ (hcells ⟨iv, List.replicate 64 0, 0, 0⟩).toArray (by rfl) (by kernel_rfl) ?_; intro w2 hw2 hc2))
  have hh : HashAt w2 w1.heap.size ⟨iv, List.replicate 64 0, 0, 0⟩ := hw2
  have hm := hh.mid
  have c0 := hm.cell 0 0 rfl (by decide)
  have HM := Lib.hid (And.intro hm (hb1.trans (hc2.below (by simp) hb1.size)))
  have hsz := hb1.size
  clear hw2 hc2 hh hm
  simp only [Nat.add_zero] at c0
  go_wp2_with fail
  go_still_tail 9, (by kernel_rfl)
  clear c0
  refine wpList_store_mid1 (by rfl) (by rfl) _ _ rfl Try.size35 w1.heap.size 53 [] _ iv HM.out.1 0 rfl 0 (by decide) (xr (st iv 0) 16842784) (by rfl) (by rfl) ?_
  intro w3 hw3 hc3
  go_wp2
  go_ret
  exact ⟨w1.heap.size, rfl, hsz, HashAt.of_mid (s := ⟨iv, List.replicate 64 0, 0, 0⟩) hw3, HM.out.2.trans (((Ch.refl (fun k => k = w1.heap.size) w2).drewN 1 |>.trans hc3 (fun _ _ h => h)).below (by rintro i rfl; exact hsz) HM.out.2.size)⟩

theorem HashAt.drewN {w : World} {g : Nat} {s : HS} (h : HashAt w g s) (n : Nat) : HashAt (w.drewN n) g s := h

def lenOf : Value → Nat
  | .slice _ n _ => n
  | _ => 0
/-- A hasher that has been given those bytes. -/
def Given (w : World) (g : Nat) (msg : List Int) : Prop := ∃ s, HashAt w g s ∧ Inv s msg
theorem Given.ch {F : Nat → Prop} {w w' : World} {g : Nat} {msg : List Int} (h : Given w g msg) (hc : Ch F w w') (hF : ¬ F g) : Given w' g msg := by
  obtain ⟨s, h1, h2⟩ := h
  exact ⟨s, h1.ch hc hF, h2⟩
def AddEnd (w : World) (g : Nat) (msg : List Int) (e : Ending) (w' : World) : Prop := e = .returned (.pointer (some ⟨g, 0, none⟩)) ∧ Given w' g msg ∧ Ch (fun k => k = g) w w'

theorem slice38l (g n : Nat) (hn : n < 64) (w : World) : (Instr.sliceAt 38 (.pointer (some ⟨g, 8, none⟩)) (some (.int .i64 (n : Int))) none none).run Try.prog w = .ok (.slice (some ⟨g, 8 + n, none⟩) (64 - n) (64 - n)) w := by
  have ha : Try.prog.arrayLen 38 = 64 := by simp [Program.arrayLen, Try.underlying38]
  have he : Try.prog.elem 38 = 5 := by simp [Program.elem, Try.underlying38]
  rw [run_sliceAt_array_l w 38 ⟨g, 8, none⟩ (by rw [ha, he]; exact Try.underlying38) .i64 _ (by omega) (by rw [ha]; omega), he, sizeOf_run Try.size5, ha]
  show Result.ok _ w = _
  unfold slicedAt
  rw [if_neg (by omega), Nat.mul_one, Addr.add_mid]
  rfl

theorem Try.size40 : (Try.prog.info? 40).map (·.size) = some 1 := by kernel_rfl

theorem add_nil (w : World) (v : Value) : Calls Try.prog 12 #[.pointer none, v] w fun e w' => e = .returned (.pointer none) ∧ w = w' := by
  go_enter Try.func12, Try.ntmps12
  go_wp2
  go_ret
  exact ⟨rfl, rfl⟩

set_option maxRecDepth 100000 in
set_option maxHeartbeats 8000000 in
theorem add_any (w : World) (g : Nat) (msg b : List Int) (v : Value) (hg : Given w g msg) (hr : ReadsB g w v b) : Calls Try.prog 12 #[.pointer (some ⟨g, 0, none⟩), v] w (AddEnd w g (msg ++ b)) := by
  have HG := Lib.hid hg
  have HR := Lib.hid hr
  clear hg hr
  go_enter Try.func12, Try.ntmps12
  go_wp2_with fail
  go_loopw [1] (fun q wr => ∃ (don rest : List Int), ReadsB g wr q rest ∧ Given wr g don ∧ msg ++ b = don ++ rest ∧ Ch (fun k => k = g) w wr) (fun q _ => lenOf q)
  case atStart => exact ⟨msg, b, HR.out, HG.out, rfl, Ch.refl _ _⟩
  case round =>
    obtain ⟨don, rest, hrd, ⟨s, hs, hinv⟩, heq, hch⟩ := hrel
    have HD := Lib.hid hrd
    have HS := Lib.hid (And.intro hs (And.intro hinv (And.intro heq hch)))
    obtain ⟨a, cap, rfl, hle, hcells⟩ := hrd
    have hglt := hs.lt
    clear hs hinv heq hch
    by_cases h0 : 0 < rest.length
    · have e0 : decide ((0 : Int) < (rest.length : Int)) = true := by simp; omega
      obtain ⟨q, off, rfl, hqg, hqlt, hqc⟩ := hcells h0
      have HC := Lib.hid hqc
      clear hqc hcells
      have cn := HS.out.1.n HS.out.2.1.lh HS.out.2.1.lheld
      have ca := HS.out.1.all HS.out.2.1.lh HS.out.2.1.lheld
      obtain ⟨n, hn⟩ : ∃ n, s.n = n := ⟨_, rfl⟩
      obtain ⟨al, hal⟩ : ∃ al, s.all = al := ⟨_, rfl⟩
      rw [hn] at cn
      rw [hal] at ca
      have HN := Lib.hid (And.intro hn hal)
      clear hn hal
      go_upto_if 15 with (fail)
      go_cut [33] (fun _ wx => HashAt wx g (flushS s) ∧ Ch (fun k => k = g) wr wx)
      case first =>
        by_cases h64 : n = 64
        · have e64 : ((n : Int) == 64) = true := by simp; omega
          have l74 := hcells_length HS.out.2.1.lh HS.out.2.1.lheld
          have HF := Lib.hid (show flushS s = ⟨workS s.h s.held (w64 (al + 64)) false, s.held, 0, w64 (al + 64)⟩ by unfold flushS; rw [if_pos (by rw [HN.out.1]; exact h64), HN.out.2])
          have H64 := Lib.hid h64
          clear h64
          go_wp2_with (first | (refine wpList_store_cell (by rfl) (by rfl) 40 (.tmp 22) (.tmp 20) (by rfl) Try.size40 g 53 _ HS.out.1 73 (by rw [l74]; decide) (.int .u64 (w64 (al + 64))) (by rfl) (by rfl) (by rfl) ?_; intro w1 hw1 hc1))
          rw [hcells_set_all HS.out.2.1.lh HS.out.2.1.lheld] at hw1
          have hh1 : HashAt w1 g ⟨s.h, s.held, s.n, w64 (al + 64)⟩ := hw1
          have ca1 := hh1.all HS.out.2.1.lh HS.out.2.1.lheld
          have H1 := Lib.hid (And.intro hh1 hc1)
          clear hw1 hh1 hc1 cn ca
          go_wp2_with fail
          go_still_tail 10, (by kernel_rfl)
          clear ca1
          go_wp2_with (first | (go_at_call 25; refine (work_any _ g 0 53 [] _ s.h (H1.out.1.drewN _).mid rfl HS.out.2.1.lh g 8 s.held ((H1.out.1.drewN _).bytes HS.out.2.1.lh) HS.out.2.1.lheld (w64 (al + 64)) false).mono ?_; rintro e w2 ⟨rfl, hm2, hc2⟩; have hh2 := HashAt.of_mid (s := ⟨workS s.h s.held (w64 (al + 64)) false, s.held, s.n, w64 (al + 64)⟩) hm2) | (refine wpList_store_cell (by rfl) (by rfl) 3 (.tmp 36) _ (by rfl) Try.size3 g 53 _ hh2 72 (by rw [hcells_length (s := ⟨workS s.h s.held (w64 (al + 64)) false, s.held, s.n, w64 (al + 64)⟩) (workS_length _ _ _ _) HS.out.2.1.lheld]; decide) (.int .i64 ((0 : Nat) : Int)) (by rfl) (by rfl) (by rfl) ?_; intro w3 hw3 hc3))
          go_meet
          case rel =>
            rw [hcells_set_n (s := ⟨workS s.h s.held (w64 (al + 64)) false, s.held, s.n, w64 (al + 64)⟩) (workS_length _ _ _ _) HS.out.2.1.lheld] at hw3
            rw [HF.out]
            exact ⟨hw3, H1.out.2.trans (((Ch.refl _ w1).drewN 1).trans (hc2.trans hc3 (fun _ _ h => h)) (fun _ _ h => h)) (fun _ _ h => h)⟩
        · have e64 : ((n : Int) == 64) = false := by simp; omega
          have HF := Lib.hid (show flushS s = s by unfold flushS; rw [if_neg (by rw [HN.out.1]; exact h64)])
          clear h64
          go_wp2
          go_meet
          case rel => rw [HF.out]; exact ⟨HS.out.1, Ch.refl _ _⟩
      revert hcut
      generalize wc = w4
      rintro ⟨hh4, hc4⟩
      have hic := inv_take HS.out.2.1 h0
      obtain ⟨s', hs'⟩ : ∃ s', flushS s = s' := ⟨_, rfl⟩
      rw [hs'] at hh4 hic
      obtain ⟨hinv', hlt', hcpos⟩ := hic
      obtain ⟨n', hn'⟩ : ∃ n', s'.n = n' := ⟨_, rfl⟩
      obtain ⟨c, hcc⟩ : ∃ c, min rest.length (64 - n') = c := ⟨_, rfl⟩
      rw [hn', hcc] at hinv' hcpos
      rw [hn'] at hlt'
      have lh' : s'.h.length = 8 := hinv'.lh
      have lheld' : s'.held.length = 64 := by
        have := hinv'.lheld
        rw [show (takeS s' rest c).held = splice s'.held s'.n (rest.take c) from rfl] at this
        rw [length_splice] at this
        · exact this
        · rw [← hs']
          unfold flushS
          have l1 : (rest.take c).length ≤ c := by simp; omega
          have l2 : (flushS s).n = n' := by rw [hs', hn']
          unfold flushS at l2
          have lhh := HS.out.2.1.lheld
          split
          · rename_i h; rw [if_pos h] at l2; show 0 + _ ≤ s.held.length; have : (0 : Nat) = n' := l2; omega
          · rename_i h; rw [if_neg h] at l2; omega
      have cn4 := hh4.n lh' lheld'
      rw [hn'] at cn4
      have qs := fun (w : World) => slice38l g n' hlt' w
      have hc1 : c ≤ rest.length := by omega
      have hc2 : n' + c ≤ 64 := by omega
      have hcl : (rest.take c).length = c := by rw [List.length_take]; omega
      have H4 := Lib.hid (And.intro hh4 (And.intro hinv' (And.intro hc4 (And.intro hs' hn'))))
      have HCC := Lib.hid (And.intro hcc (And.intro lh' (And.intro lheld' hcl)))
      have p0 : (0 : Int) ≤ (n' : Int) := by omega
      have p1 : (n' : Int) ≤ 64 := by omega
      clear hh4 hinv' hc4 hs' hn' hcc cn ca lh' lheld' hcl
      go_wp2_with fail
      go_still_tail 9, (by kernel_rfl)
      clear cn4 qs
      refine wpList_copy_ch (by rfl) (.tmp 44) (.tmp 45) 26 26 (by rfl) 5 Try.underlying26 Try.size5 g (8 + n') (64 - n') (64 - n') ⟨q, off, none⟩ rest.length cap (by rfl) (by rfl) (hcells s') 53 H4.out.1 (bcells (rest.take c)) (by rw [bcells_length, HCC.out.2.2.2, ← HCC.out.1]) ?hs (by rw [bcells_length, HCC.out.2.2.2, hcells_length HCC.out.2.1 HCC.out.2.2.1]; omega) (bcells_one _) ?_
      case hs =>
        intro j u hj
        have hjc : j < (rest.take c).length := by have := (List.getElem?_eq_some_iff.1 hj).1; rwa [bcells_length] at this
        have hjr : j < rest.length := by rw [HCC.out.2.2.2] at hjc; omega
        rw [Addr.add_mid]
        refine (World.cell?_of_block (H4.out.2.2.1.block q hqlt hqg)).trans ((HC.out j hjr).trans ?_)
        rw [← hj, bcells_at _ _ hjc]
        simp [st, List.getD, show j < c by rw [HCC.out.2.2.2] at hjc; exact hjc]
      intro w5 hw5 hc5
      rw [hcells_splice HCC.out.2.1 HCC.out.2.2.1 n' (rest.take c) (by rw [HCC.out.2.2.2]; omega)] at hw5
      rw [bcells_length, HCC.out.2.2.2]
      have hh5 : HashAt w5 g ⟨s'.h, splice s'.held n' (rest.take c), s'.n, s'.all⟩ := hw5
      have lsp : (splice s'.held n' (rest.take c)).length = 64 := by rw [length_splice _ _ _ (by rw [HCC.out.2.2.2, HCC.out.2.2.1]; omega)]; exact HCC.out.2.2.1
      have cn5 := hh5.n HCC.out.2.1 lsp
      simp only at cn5
      rw [H4.out.2.2.2.2] at cn5
      have hc45 : Ch (fun k => k = g) wr w5 := H4.out.2.2.1.trans ((Ch.refl _ w4).drewN 1 |>.trans hc5 (fun _ _ h => h)) (fun _ _ h => h)
      obtain ⟨v', hv', hrd'⟩ := slice26 (HD.out.ch hc45 (fun k _ h => h)) c (by omega)
      have H5 := Lib.hid (And.intro hh5 (And.intro hc45 hrd'))
      have HL5 := Lib.hid lsp
      have qv := hv'
      have p2 : (0 : Int) ≤ (c : Int) := by omega
      have p3 : (c : Int) ≤ 64 := by omega
      have hgi : goInt c = .int .i64 (c : Int) := rfl
      clear hw5 hh5 hc5 hc45 hrd' hv' lsp
      have hfalse : w5.frozen? ⟨g, 72, none⟩ = false := H5.out.1.frozen 72
      go_wp2_with fail
      have hw6 : (w5.setCell ⟨g, 72, none⟩ (.int .i64 ((n' : Int) + (c : Int)))).heap[g]? = some (.cells ((hcells ⟨s'.h, splice s'.held n' (rest.take c), s'.n, s'.all⟩).set 72 (.int .i64 ((n' + c : Nat) : Int))).toArray 53 (0, 0)) := by
        rw [heap_setCell_self _ H5.out.1]
        simp
      rw [hcells_set_n (s := ⟨s'.h, splice s'.held n' (rest.take c), s'.n, s'.all⟩) HCC.out.2.1 HL5.out] at hw6
      have hc6 : Ch (fun k => k = g) w5 (w5.setCell ⟨g, 72, none⟩ (.int .i64 ((n' : Int) + (c : Int)))) := (Ch.refl _ _).setCell _ _ (fun _ => rfl)
      have hts : takeS s' rest c = ⟨s'.h, splice s'.held n' (rest.take c), n' + c, s'.all⟩ := by unfold takeS; rw [H4.out.2.2.2.2]
      refine ⟨⟨don ++ rest.take c, rest.drop c, H5.out.2.2.ch hc6 (fun k _ h => h), ⟨takeS s' rest c, by rw [hts]; exact hw6, H4.out.2.1⟩, ?_, HS.out.2.2.2.trans (H5.out.2.1.trans hc6 (fun _ _ h => h)) (fun _ _ h => h)⟩, ?_⟩
      · rw [HS.out.2.2.1, List.append_assoc, List.take_append_drop]
      · obtain ⟨a', cap', hv', -⟩ := H5.out.2.2
        rw [hv']
        show (rest.drop c).length < rest.length
        rw [List.length_drop]; omega
    · have e0 : decide ((0 : Int) < (rest.length : Int)) = false := by rw [decide_eq_false_iff_not]; intro h; exact h0 (by omega)
      have hz : rest.length = 0 := Nat.eq_zero_of_not_pos h0
      have hr0 : rest = [] := List.eq_nil_of_length_eq_zero hz
      have HR0 := Lib.hid hr0
      clear hr0 hcells hz
      go_wp2
      go_ret
      refine ⟨rfl, ⟨s, HS.out.1, ?_⟩, HS.out.2.2.2⟩
      have := HS.out.2.2.1
      rw [HR0.out, List.append_nil] at this
      rw [this]
      exact HS.out.2.1

end Go.Proofs.Ytnmooepmpebepaa
