import Derived.Test.YtjnomnaeegcafaaM
import Derived.Test.YtjnomnaeegcafaaN
import Derived.Lib.ReflectliteSwap
import Derived.Deep.WholeRow
import Derived.IntWalk
namespace Go.Proofs.Ytjnomnaeegcafaa
open Go.RowKit Go.Shelf

theorem own_reads {w : World} {B : Nat} {v : Value} {zs : List Mv} (h : w.ownsRow B 28 2 v zs.length (cellsM zs)) : ReadsM w v zs := by
  rcases row_of_own h with ⟨rfl, h0, hz⟩ | ⟨g, cap, rest, rfl, hg, hcap, hlen, hR⟩
  · exact ⟨none, 0, by rw [h0], fun _ => ⟨hz, rfl⟩, fun h => by omega⟩
  · have := hR.reads zs.length (Nat.le_refl _)
    rwa [List.take_length] at this

/-! ### Thirty-one registers -/
def regsL (X : Int → Int) : List Value := (List.range 31).map fun (r : Nat) => Value.int .i64 (X r)
def Regs (w : World) (g : Nat) (X : Int → Int) : Prop := w.heap[g]? = some (.cells (regsL X).toArray 31 (0, 0))
section
variable {w w' : World} {g : Nat} {X : Int → Int}
theorem Regs.lt (h : Regs w g X) : g < w.heap.size := (Array.getElem?_eq_some_iff.1 h).1
theorem Regs.ch {F : Nat → Prop} (h : Regs w g X) (hc : Ch F w w') (hF : ¬ F g) : Regs w' g X := (hc.block g h.lt hF).trans h
theorem Regs.cell (h : Regs w g X) (r : Nat) (hr : r < 31) : w.cell? ⟨g, r, none⟩ = some (.int .i64 (X r)) := by
  rw [cell_of_row _ _ _ _ _ _ h]
  simp [regsL, List.getElem?_range hr]
theorem Regs.frozen (h : Regs w g X) (i : Nat) : w.frozen? ⟨g, i, none⟩ = false := by unfold Regs at h; simp [World.frozen?, h]
theorem Regs.ext {Y : Int → Int} (h : Regs w g X) (e : ∀ r : Nat, r < 31 → X r = Y r) : Regs w g Y := by
  unfold Regs at *
  rw [h]
  congr 3
  unfold regsL
  apply List.map_congr_left
  intro r hr
  rw [e r (by simpa using hr)]
theorem Regs.set (h : Regs w g X) (r : Nat) (hr : r < 31) (v : Int) : Regs (w.setCell ⟨g, r, none⟩ (.int .i64 v)) g (fun q => if q = r then v else X q) := by
  unfold Regs
  rw [heap_setCell_self _ h]
  congr 2
  apply Array.toList_inj.1
  simp only [Array.toList_setIfInBounds, regsL]
  apply List.ext_getElem
  · simp
  · intro i h1 h2
    have hi : i < 31 := by simpa using h2
    rw [List.getElem_set]
    by_cases e : r = i
    · subst e; simp
    · have : ¬ (i : Int) = (r : Int) := by omega
      rw [if_neg e]; simp [this]
end

theorem Try.size3 : (Try.prog.info? 3).map (·.size) = some 1 := by kernel_rfl

theorem wpList_store_reg {P : Program} {ops : Array Oper} {rest : List Oper} {op : Oper} {a : Act} {w : World} {Q : Exit → Act → World → Prop} (hgd : op.guard = none) (hd : op.dst = none) (x y : Operand) (ho : op.op = .store 3 x y)
    (hi : (P.info? 3).map (·.size) = some 1) (g : Nat) (X : Int → Int) (h : Regs w g X) (r : Nat) (hr : r < 31) (v : Int) (hx : a.eval x = .pointer (some ⟨g, r, none⟩)) (hy : a.eval y = .int .i64 v)
    (k : ∀ w', Regs w' g (fun q => if q = r then v else X q) → Ch (fun k => k = g) w w' → wpList P ops Q rest a w') : wpList P ops Q (op :: rest) a w := by
  refine wpList_plain hgd fun K hK => ?_
  have h1 : (storeVar 3 ⟨g, r, none⟩ (.int .i64 v)).run P w = .ok () (w.setCell ⟨g, r, none⟩ (.int .i64 v)) := by
    cases hq : P.info? 3 with
    | none => simp [hq] at hi
    | some i0 => exact Go.Lib.rl_storeVar_one 3 i0 hq (by simpa [hq] using hi) ⟨g, r, none⟩ _ _ rfl w (h.cell r hr) (h.frozen _)
  unfold Oper.wp execOp
  simp only [ho, hx, hy, Instr.storeAt, Instr.sureAddr, Sem.run_bind, Sem.run_pure, Result.andThen_ok, h1]
  have h2 := k _ (h.set r hr v) ((Ch.refl _ w).setCell _ _ (fun _ => rfl))
  rw [← show a.put op.dst undef = a by rw [hd]; rfl] at h2
  exact hK _ _ h2

theorem exec_succ (X : Int → Int) (ms : List Mv) (j : Nat) (hj : j < ms.length) : exec X (ms.take (j + 1)) = step (exec X (ms.take j)) (ms.getD j (0, 0)) := by
  rw [List.take_succ_eq_append_getElem hj, show ms.getD j (0, 0) = ms[j] by simp [List.getD, List.getElem?_eq_getElem hj]]
  simp only [exec, List.foldl_append, List.foldl_cons, List.foldl_nil]
theorem puts_succ (X : Int → Int) (ms : List Mv) (j : Nat) (hj : j < ms.length) : puts X (ms.take (j + 1)) = put (puts X (ms.take j)) (ms.getD j (0, 0)) := by
  rw [List.take_succ_eq_append_getElem hj, show ms.getD j (0, 0) = ms[j] by simp [List.getD, List.getElem?_eq_getElem hj]]
  simp only [puts, List.foldl_append, List.foldl_cons, List.foldl_nil]

theorem orderF_length (spare : Int) : ∀ (k : Nat) (left : List Mv), (orderF spare k left []).length ≤ k
  | 0, _ => by simp [orderF]
  | k + 1, [] => by simp [orderF]
  | k + 1, m :: r => by
    simp only [orderF]
    split
    · rw [orderF_out, List.length_append]
      have := orderF_length spare k ((m :: r).eraseIdx (firstP (freeM (m :: r)) (m :: r) 0).toNat)
      simp only [List.nil_append, List.length_cons, List.length_nil]
      omega
    · rw [orderF_out, List.length_append]
      have := orderF_length spare k (brk m.2 spare (m :: r))
      simp only [List.nil_append, List.length_cons, List.length_nil]
      omega

def Holds (w : World) (e : Ending) (w' : World) : Prop := e = .returned (.bool true) ∧ Below w.heap.size w w'

set_option maxRecDepth 100000 in
set_option maxHeartbeats 4000000 in
theorem moves_bad (w : World) (v : Value) (xs : List Mv) (spare : Int) (hr : ReadsM w v xs) (hl : xs.length * 16 ≤ 140737488355328) (hm : mayB xs spare = false) :
    Calls Try.prog 4 #[v, .int .i64 spare] w (Holds w) := by
  have L := Lib.hid (order_bad w v xs spare hr hl hm)
  have V := Lib.hid (fun (w' : World) => lives_true w')
  clear hr hm
  go_enter Try.func4, Try.ntmps4
  go_wp2_with fail
  refine L.out.mono ?_
  rintro e w1 ⟨rfl, hb1⟩
  go_wp2_with fail
  refine (V.out _).mono ?_
  rintro e w2 ⟨rfl, hb2⟩
  have HB := Lib.hid (hb1.trans (hb2.mono hb1.size))
  clear hb1 hb2
  go_wp2_with fail
  refine (V.out _).mono ?_
  rintro e w3 ⟨rfl, hb3⟩
  have HB3 := Lib.hid (HB.out.trans (hb3.mono HB.out.size))
  clear hb3
  go_wp2
  go_ret
  exact ⟨rfl, HB3.out⟩

set_option maxRecDepth 100000 in
set_option maxHeartbeats 8000000 in
theorem moves_good (w : World) (v : Value) (xs : List Mv) (spare : Int) (hr : ReadsM w v xs) (hl : xs.length * 16 ≤ 140737488355328) (hm : mayB xs spare = true) :
    Calls Try.prog 4 #[v, .int .i64 spare] w (Holds w) := by
  have L := Lib.hid (order_good w v xs spare hr hl hm)
  have V := Lib.hid (fun (w' : World) => lives_true w')
  have M := Lib.hid (fun (w' : World) (h : ReadsM w' v xs) => rmay_any w' v xs spare h (by omega))
  rw [hm] at M
  obtain ⟨-, hreg, -, hx31⟩ := may_facts hm
  have hp : ∀ x, isReg x = true → 0 ≤ x ∧ x ≤ 30 := fun x hx => by simpa [isReg] using hx
  have HX := Lib.hid (fun m (h : m ∈ xs) => And.intro (hp _ (hreg m h).1) (hp _ (hreg m h).2.1))
  have HO := Lib.hid (moves_regs hm)
  have HL := Lib.hid (moves_law hm)
  obtain ⟨out, hout⟩ : ∃ out, orderAll xs spare = out := ⟨_, rfl⟩
  have hol : out.length ≤ 63 := by
    have := orderF_length spare (2 * xs.length + 1) (realM xs)
    rw [← hout]
    unfold orderAll
    omega
  rw [hout] at L HO HL
  have HRV := Lib.hid hr
  obtain ⟨av, cv, rfl⟩ : ∃ a c, v = .slice a xs.length c := by
    obtain ⟨a, c, h, _⟩ := hr
    exact ⟨a, c, h⟩
  have e60 : decide ((60 : Int) < (xs.length : Int)) = false := by simp; omega
  clear hr hm hreg hp hout
  go_enter Try.func4, Try.ntmps4
  go_wp2_with fail
  refine L.out.mono ?_
  rintro e w1 ⟨vo, rfl, hown, hb1⟩
  have hro := own_reads hown
  obtain ⟨ao, co, rfl⟩ : ∃ a c, vo = .slice a out.length c := by
    obtain ⟨a, c, h, _⟩ := hro
    exact ⟨a, c, h⟩
  have HR1 := Lib.hid (And.intro hro hb1)
  clear hown hro hb1
  go_wp2_with fail
  refine (V.out _).mono ?_
  rintro e w2 ⟨rfl, hb2⟩
  have HR2 := Lib.hid (And.intro (HR1.out.1.below hb2) (HR1.out.2.trans (hb2.mono HR1.out.2.size)))
  clear hb2
  go_wp2_with fail
  refine (M.out _ (HRV.out.below HR2.out.2)).mono ?_
  rintro e w3 ⟨rfl, hb3⟩
  have HR3 := Lib.hid (And.intro (HR2.out.1.below hb3) (HR2.out.2.trans (hb3.mono HR2.out.2.size)))
  clear hb3
  go_wp2_with fail
  go_loopw [9] (fun q wr => ∃ i : Nat, i ≤ 31 ∧ q = .int .i64 i ∧ Regs wr w3.heap.size (fun r => if r < i then 100 + r else 0) ∧ Regs wr (w3.heap.size + 1) (fun r => if r < i then 100 + r else 0) ∧ Below w3.heap.size w3 wr) (fun q _ => 31 - (intOf q).toNat)
  case atStart =>
    have hz : regsL (fun r => if r < ((0 : Nat) : Int) then 100 + r else 0) = List.replicate 31 (.int .i64 0) := by rfl
    refine ⟨0, by omega, rfl, ?_, ?_, ((Below.refl _ w3).alloc (Nat.le_refl _) _).alloc (by simp only [World.size_alloc]; omega) _⟩
    · unfold Regs
      rw [Below.heap_alloc _ _ _ (by simp only [World.size_alloc]; omega), hz]
      exact heap_alloc_new w3 _
    · have := heap_alloc_new (w3.alloc (.cells (List.replicate 31 (Value.int .i64 0)).toArray 31)) (.cells (List.replicate 31 (Value.int .i64 0)).toArray 31)
      simp only [World.size_alloc] at this
      unfold Regs
      rw [hz]
      exact this
  case round =>
    obtain ⟨i, hi, rfl, hX, hY, hbl⟩ := hrel
    have HG := Lib.hid (And.intro hX (And.intro hY hbl))
    clear hX hY hbl
    by_cases hi31 : i < 31
    · have e1 : decide ((i : Int) < 31) = true := by simp; omega
      have p0 : (0 : Int) ≤ (i : Int) := by omega
      have p1 : (i : Int) < 31 := by omega
      go_wp2_with (first | (refine wpList_store_reg (by rfl) (by rfl) (.tmp 47) (.tmp 44) rfl Try.size3 w3.heap.size _ HG.out.1 i hi31 (100 + (i : Int)) (by rfl) (by rfl) ?_; intro wa ha hca; have hb := HG.out.2.1.ch hca (by omega)) | (refine wpList_store_reg (by rfl) (by rfl) (.tmp 48) (.tmp 46) rfl Try.size3 (w3.heap.size + 1) _ hb i hi31 (100 + (i : Int)) (by rfl) (by rfl) ?_; intro wb hb2 hcb))
      go_roundw
      case rel =>
        refine ⟨i + 1, by omega, by go_num, (ha.ch hcb (by omega)).ext (fun r hr => ?_), hb2.ext (fun r hr => ?_), HG.out.2.2.trans ((hca.mono (F' := fun k => k = w3.heap.size ∨ k = w3.heap.size + 1) (fun _ h => .inl h)).trans hcb (fun _ _ h => .inr h) |>.below (by rintro q (rfl | rfl) <;> omega) HG.out.2.2.size)⟩
        · by_cases e : r = i
          · subst e; simp; omega
          · have : ¬ (r : Int) = (i : Int) := by omega
            simp only [this, if_false]
            by_cases h : r < i
            · rw [if_pos (by omega), if_pos (by omega)]
            · rw [if_neg (by omega), if_neg (by omega)]
        · by_cases e : r = i
          · subst e; simp; omega
          · have : ¬ (r : Int) = (i : Int) := by omega
            simp only [this, if_false]
            by_cases h : r < i
            · rw [if_pos (by omega), if_pos (by omega)]
            · rw [if_neg (by omega), if_neg (by omega)]
      case measure => simp [intOf]; omega
    · have e1 : decide ((i : Int) < 31) = false := by simp; omega
      have hX : Regs wr w3.heap.size (fun r => 100 + r) := HG.out.1.ext (fun r hr => by rw [if_pos (by omega)])
      have hY : Regs wr (w3.heap.size + 1) (fun r => 100 + r) := HG.out.2.1.ext (fun r hr => by rw [if_pos (by omega)])
      have HS := Lib.hid (And.intro hX (And.intro hY HG.out.2.2))
      clear hX hY
      go_wp2_with fail
      go_loopw [10] (fun q wr => ∃ j : Nat, j ≤ out.length ∧ q = .int .i64 j ∧ Regs wr w3.heap.size (exec (fun r => 100 + r) (out.take j)) ∧ Regs wr (w3.heap.size + 1) (fun r => 100 + r) ∧ Below w3.heap.size w3 wr) (fun q _ => out.length - (intOf q).toNat)
      case atStart => exact ⟨0, Nat.zero_le _, rfl, HS.out.1, HS.out.2.1, HS.out.2.2⟩
      case round =>
        obtain ⟨j, hj, rfl, hX, hY, hbl⟩ := hrel
        have HJ := Lib.hid (And.intro hX (And.intro hY hbl))
        clear hX hY hbl
        by_cases hjl : j < out.length
        · have e2 : decide ((j : Int) < (out.length : Int)) = true := by simp; omega
          have p0 : (0 : Int) ≤ (j : Int) := by omega
          have p1 : (j : Int) < (out.length : Int) := by omega
          obtain ⟨ao', co', heq, -, hcc⟩ := HR3.out.1.below HJ.out.2.2
          obtain ⟨b, off, he, hlt, hcells⟩ := hcc (by omega)
          simp only [Value.slice.injEq] at heq
          obtain ⟨rfl, -, rfl⟩ := heq
          subst he
          have c0 := (hcells j hjl).1
          have c1 := (hcells j hjl).2
          have hmem : out.getD j (0, 0) ∈ out := by simp [List.getD, List.getElem?_eq_getElem hjl]
          obtain ⟨⟨r1, r2⟩, r3, r4⟩ := HO.out _ hmem
          obtain ⟨m, hmj⟩ : ∃ m, out.getD j (0, 0) = m := ⟨_, rfl⟩
          rw [hmj] at c0 c1 r1 r2 r3 r4
          obtain ⟨m1, m2⟩ := m
          simp only at c0 c1 r1 r2 r3 r4
          obtain ⟨f, rfl⟩ : ∃ n : Nat, m1 = n := ⟨m1.toNat, by omega⟩
          obtain ⟨t, rfl⟩ : ∃ n : Nat, m2 = n := ⟨m2.toNat, by omega⟩
          have d1 : decide ((f : Int) < 0) = false := by simp
          have d2 : decide ((30 : Int) < (f : Int)) = false := by simp; omega
          have d3 : decide ((t : Int) < 0) = false := by simp
          have d4 : decide ((30 : Int) < (t : Int)) = false := by simp; omega
          have q1 : (f : Int) < 31 := by omega
          have q2 : (t : Int) < 31 := by omega
          have f31 : f < 31 := by omega
          have t31 : t < 31 := by omega
          have cx := HJ.out.1.cell f f31
          have HMJ := Lib.hid hmj
          clear hcells hcc hmem hmj hlt
          go_wp2_with fail
          go_still_tail 13, (by kernel_rfl)
          clear c0 c1 cx
          refine wpList_store_reg (by rfl) (by rfl) _ _ rfl Try.size3 w3.heap.size (exec (fun r => 100 + r) (out.take j)) HJ.out.1 t t31 (exec (fun r => 100 + r) (out.take j) f) (by rfl) (by rfl) ?_
          intro wa ha hca
          go_wp2_with fail
          go_roundw
          case rel =>
            have hcc : Ch (fun k => k = w3.heap.size) _ wa := (Ch.refl _ _).drewN 1 |>.trans hca (fun _ _ h => h)
            refine ⟨j + 1, by omega, by go_num, ?_, HJ.out.2.1.ch hcc (by omega), HJ.out.2.2.trans (hcc.below (by rintro q rfl; exact Nat.le_refl _) HJ.out.2.2.size)⟩
            rw [exec_succ _ _ _ hjl, HMJ.out]
            exact ha
          case measure => simp [intOf]; omega
        · have e2 : decide ((j : Int) < (out.length : Int)) = false := by simp; omega
          have HS2 := Lib.hid (show Regs wr w3.heap.size (exec (fun r => 100 + r) out) by have := HJ.out.1; rwa [List.take_of_length_le (by omega)] at this)
          go_wp2_with fail
          go_loopw [11] (fun q wq => ∃ j : Nat, j ≤ xs.length ∧ q = .int .i64 j ∧ Regs wq (w3.heap.size + 1) (puts (fun r => 100 + r) (xs.take j)) ∧ Regs wq w3.heap.size (exec (fun r => 100 + r) out) ∧ Below w3.heap.size w3 wq) (fun q _ => xs.length - (intOf q).toNat)
          case atStart => exact ⟨0, Nat.zero_le _, rfl, HJ.out.2.1, HS2.out, HJ.out.2.2⟩
          case round =>
            obtain ⟨k, hk, rfl, hY, hX, hbl⟩ := hrel
            have HK := Lib.hid (And.intro hY (And.intro hX hbl))
            clear hX hY hbl
            by_cases hkl : k < xs.length
            · have e3 : decide ((k : Int) < (xs.length : Int)) = true := by simp; omega
              have p0 : (0 : Int) ≤ (k : Int) := by omega
              have p1 : (k : Int) < (xs.length : Int) := by omega
              obtain ⟨av', cv', heq, -, hcc⟩ := HRV.out.below (HR3.out.2.trans (HK.out.2.2.mono HR3.out.2.size))
              obtain ⟨b, off, he, hlt, hcells⟩ := hcc (by omega)
              simp only [Value.slice.injEq] at heq
              obtain ⟨rfl, -, rfl⟩ := heq
              subst he
              have c0 := (hcells k hkl).1
              have c1 := (hcells k hkl).2
              have hmem : xs.getD k (0, 0) ∈ xs := by simp [List.getD, List.getElem?_eq_getElem hkl]
              obtain ⟨⟨r1, r2⟩, r3, r4⟩ := HX.out _ hmem
              obtain ⟨m, hmj⟩ : ∃ m, xs.getD k (0, 0) = m := ⟨_, rfl⟩
              rw [hmj] at c0 c1 r1 r2 r3 r4
              obtain ⟨m1, m2⟩ := m
              simp only at c0 c1 r1 r2 r3 r4
              obtain ⟨f, rfl⟩ : ∃ n : Nat, m1 = n := ⟨m1.toNat, by omega⟩
              obtain ⟨t, rfl⟩ : ∃ n : Nat, m2 = n := ⟨m2.toNat, by omega⟩
              have q2 : (t : Int) < 31 := by omega
              have t31 : t < 31 := by omega
              have s1 : IntKind.i64.wrap (100 + (f : Int)) = 100 + (f : Int) := IntWalk.i64_in _ (by omega)
              have HMJ := Lib.hid hmj
              clear hcells hcc hmem hmj hlt
              go_wp2_with fail
              go_still_tail 12, (by kernel_rfl)
              clear c0 c1 s1
              refine wpList_store_reg (by rfl) (by rfl) _ _ rfl Try.size3 (w3.heap.size + 1) (puts (fun r => 100 + r) (xs.take k)) HK.out.1 t t31 (100 + (f : Int)) (by rfl) (by rfl) ?_
              intro wa ha hca
              go_wp2_with fail
              go_roundw
              case rel =>
                have hcc : Ch (fun k => k = w3.heap.size + 1) _ wa := (Ch.refl _ _).drewN 1 |>.trans hca (fun _ _ h => h)
                refine ⟨k + 1, by omega, by go_num, ?_, HK.out.2.1.ch hcc (by omega), HK.out.2.2.trans (hcc.below (by rintro q rfl; omega) HK.out.2.2.size)⟩
                rw [puts_succ _ _ _ hkl, HMJ.out]
                exact ha
              case measure => simp [intOf]; omega
            · have e3 : decide ((k : Int) < (xs.length : Int)) = false := by simp; omega
              have HS3 := Lib.hid (show Regs wr (w3.heap.size + 1) (puts (fun r => 100 + r) xs) by have := HK.out.1; rwa [List.take_of_length_le (by omega)] at this)
              go_wp2_with fail
              go_loopw [12] (fun q wz => ∃ i : Nat, i ≤ 31 ∧ q = .int .i64 i ∧ Regs wz (w3.heap.size + 1) (puts (fun r => 100 + r) xs) ∧ Regs wz w3.heap.size (exec (fun r => 100 + r) out) ∧ Below w3.heap.size w3 wz) (fun q _ => 31 - (intOf q).toNat)
              case atStart => exact ⟨0, Nat.zero_le _, rfl, HS3.out, HK.out.2.1, HK.out.2.2⟩
              case round =>
                obtain ⟨i, hi, rfl, hY, hX, hbl⟩ := hrel
                have HI := Lib.hid (And.intro hY (And.intro hX hbl))
                clear hX hY hbl
                by_cases hi31 : i < 31
                · have e4 : decide ((i : Int) < 31) = true := by simp; omega
                  have p0 : (0 : Int) ≤ (i : Int) := by omega
                  have p1 : (i : Int) < 31 := by omega
                  by_cases his : (i : Int) = spare
                  · have e5 : ((i : Int) != spare) = false := by simp [his]
                    have HIS := Lib.hid his
                    clear his
                    go_wp2_with fail
                    go_quiet (fail)
                    go_wp2_with fail
                    go_roundw
                    case rel => exact ⟨i + 1, by omega, by go_num, HI.out.1, HI.out.2.1, HI.out.2.2.trans (drewN_below _ _ _)⟩
                    case measure => simp [intOf]; omega
                  · have e5 : ((i : Int) != spare) = true := by simpa using his
                    have cx := HI.out.2.1.cell i hi31
                    have cy := HI.out.1.cell i hi31
                    rw [HL.out i his] at cx
                    obtain ⟨u, hu⟩ : ∃ u, puts (fun r => 100 + r) xs i = u := ⟨_, rfl⟩
                    rw [hu] at cx cy
                    clear his hu
                    go_wp2_with fail
                    go_quiet (fail)
                    go_wp2_with fail
                    go_roundw
                    case rel => exact ⟨i + 1, by omega, by go_num, HI.out.1, HI.out.2.1, HI.out.2.2.trans (drewN_below _ _ _)⟩
                    case measure => simp [intOf]; omega
                · have e4 : decide ((i : Int) < 31) = false := by simp; omega
                  go_wp2
                  go_ret
                  exact ⟨rfl, HR3.out.2.trans (HI.out.2.2.mono HR3.out.2.size)⟩

end Go.Proofs.Ytjnomnaeegcafaa
