import Derived.Test.YtnmooepmpebepaaL
import Derived.Laws.BytesArg
import Derived.Maps.AppendAt
import Derived.Maps.OwnOps
import Derived.Laws.MakeOwn
import Derived.Deep.AppendLies
namespace Go.Proofs.Ytnmooepmpebepaa
open Go.RowKit

/-! ### A digest's text -/
def digL : List Int := [48, 49, 50, 51, 52, 53, 54, 55, 56, 57, 97, 98, 99, 100, 101, 102]
def digB : ByteArray := ⟨#[48, 49, 50, 51, 52, 53, 54, 55, 56, 57, 97, 98, 99, 100, 101, 102]⟩
def hi4 (c : Int) : Int := st digL (c.toNat / 16)
def lo4 (c : Int) : Int := st digL (c.toNat % 16)
def hexL (D : List Int) : List Int := D.flatMap fun c => [hi4 c, lo4 c]
theorem hexL_length (D : List Int) : (hexL D).length = 2 * D.length := by
  induction D with
  | nil => rfl
  | cons c D ih => simp only [hexL, List.flatMap_cons, List.length_append, List.length_cons, List.length_nil] at *; omega
theorem hexL_append (A B : List Int) : hexL (A ++ B) = hexL A ++ hexL B := by simp [hexL]
def textS (D : List Int) : ByteArray := strOfNums (hexL D)

theorem dig_at (k : Nat) (hk : k < 16) (z : Int) (hz : z = (k : Int)) (w : World) : (Instr.index 9 (.string digB) (.int .u8 z)).run Try.prog w = .ok (.int .u8 (st digL k)) w := by
  subst hz
  rw [run_index_string w 9 digB .u8 _ Try.underlying9, dif_pos ⟨by omega, by show (k : Int) < 16; omega⟩]
  congr 2
  have : ∀ k, (h : k < 16) → ((digB[k]'(show k < digB.size from h)).toNat : Int) = st digL k := by decide
  exact this k hk
set_option maxRecDepth 100000 in
theorem and15 (c : Nat) (hc : c < 256) : bits .and .u8 (c : Int) 15 = ((c % 16 : Nat) : Int) := by
  have : ∀ c, c < 256 → bits .and .u8 ((c : Nat) : Int) 15 = ((c % 16 : Nat) : Int) := by decide
  exact this c hc
theorem idx28 (w : World) (cs : Array Value) (i : Nat) (hi : i < 32) (v : Value) (hv : cs[i]? = some v) (z : Int) (hz : z = (i : Int)) : (Instr.index 28 (.agg cs) (.int .i64 z)).run Try.prog w = .ok v w :=
  run_index_one 28 5 32 Try.underlying28 .u8 Try.underlying5 Try.size5 cs i hi v hv z hz
theorem Try.infoU8 : (Try.prog.info? 5).map (fun i => (i.zero, i.size, i.bytes)) = some (some (.int .u8 0), 1, 1) := by kernel_rfl

theorem wpList_make_own {P : Program} {ops : Array Oper} {rest : List Oper} {op : Oper} {a : Act} {w : World} {Q : Exit → Act → World → Prop} (hgd : op.guard = none) (t e : TypeId) (x y : Operand) (ho : op.op = .makeSlice t x y)
    (base : Nat) (i : TypeInfo) (z : Value) (size : Nat) (ht : P.underlying t = some (.slice e)) (hi : P.info? e = some i) (hz : i.zero = some z) (hsize : i.size = size) (c : Nat) (hbytes : i.bytes * c ≤ 281474976710656) (h63 : c ≤ maxLen) (hbase : base ≤ w.heap.size)
    (hx : a.eval x = .int .i64 0) (hy : a.eval y = .int .i64 (c : Int))
    (k : ∀ w', w'.ownsRow base e size (.slice (some ⟨w.heap.size, 0, none⟩) 0 c) 0 [] → w.grownBy w' none → wpList P ops Q rest (a.put op.dst (.slice (some ⟨w.heap.size, 0, none⟩) 0 c)) w') : wpList P ops Q (op :: rest) a w := by
  refine wpList_plain hgd fun K hK => ?_
  obtain ⟨w', hr, hown, hgr⟩ := run_make_own (P := P) w base t e i z size ht hi hz hsize .i64 .i64 c hbytes h63 hbase
  unfold Oper.wp execOp
  simp only [ho, hx, hy, Sem.run_bind, Sem.run_pure, Result.andThen_ok, hr]
  exact hK _ _ (k w' hown hgr)

set_option maxRecDepth 100000 in
set_option maxHeartbeats 8000000 in
theorem text_any (w : World) (D : List Int) (lD : D.length = 32) (hD : ∀ i, i < 32 → 0 ≤ st D i ∧ st D i < 256) :
    Calls Try.prog 15 #[.agg (bcells D).toArray] w fun e w' => e = .returned (.string (textS D)) ∧ Below w.heap.size w w' := by
  obtain ⟨i0, hi, hz0, hz1, hz2⟩ := info_parts Try.infoU8
  have HD := Lib.hid hD
  clear hD
  go_enter Try.func15, Try.ntmps15
  go_wp2_with (first | (refine wpList_box_any (by rfl) 28 (.tmp 0) (by rfl) _ (bcells D).toArray (by rfl) (by rfl) ?_; intro w1 hw1 hc1; have hb1 : Below w.heap.size w w1 := hc1.below (by simp) (Nat.le_refl _)) | (refine wpList_make_own (by rfl) 26 5 _ _ (by rfl) w.heap.size i0 (.int .u8 0) 1 Try.underlying26 hi hz0 hz1 64 (by rw [hz2]; decide) (by decide) hb1.size (by rfl) (by rfl) ?_; intro w2 hown hgr; have hx2 : w2.heap[w.heap.size]? = some (.cells (bcells D).toArray 28 (0, 0)) := (hgr.block w.heap.size (Array.getElem?_eq_some_iff.1 hw1).1 (by simp)).trans hw1) | (refine wpList_load_arr (by rfl) 28 (.tmp 1) (by rfl) w.heap.size 28 _ hx2 32 5 Try.underlying28 (size28 lD) (by rfl) ?_))
  have hb2 := hb1.grown hgr hb1.size (fun k hk => by cases hk)
  have H2 := Lib.hid (And.intro hown (And.intro hb2 hx2))
  clear hown hgr hb2 hx2 hw1 hc1 hb1
  go_loopw [3, 8] (fun v q wr => ∃ i : Nat, i ≤ 32 ∧ q = .int .i64 i ∧ wr.ownsRow w.heap.size 5 1 v (2 * i) (bcells (hexL (D.take i))) ∧ Below w.heap.size w wr) (fun _ q _ => 32 - (intOf q).toNat)
  case atStart => exact ⟨0, by omega, rfl, H2.out.1, H2.out.2.1⟩
  case round =>
    obtain ⟨i, hi32, rfl, hown, hbel⟩ := hrel
    have HO := Lib.hid (And.intro hown hbel)
    clear hown hbel
    by_cases hlt : i < 32
    · have e1 : decide ((i : Int) < 32) = true := by simp; omega
      obtain ⟨d0, d1⟩ := HD.out i hlt
      obtain ⟨c, hc⟩ : ∃ c : Nat, st D i = c := ⟨(st D i).toNat, by omega⟩
      have hgd : (bcells D).toArray[i]? = some (.int .u8 (c : Int)) := by
        rw [← hc]; simpa using bcells_at D i (by omega)
      rw [hc] at d0 d1
      have hc256 : c < 256 := by omega
      have qi := fun (w : World) => idx28 w (bcells D).toArray i hlt _ hgd i rfl
      have qh := fun (w : World) => dig_at (c / 16) (by omega) ((c : Int) / 16) (by omega) w
      have ha := and15 c hc256
      have ql := fun (w : World) => dig_at (c % 16) (by omega) ((c % 16 : Nat) : Int) rfl w
      rw [← ha] at ql
      simp only [digB] at qh ql
      have HC := Lib.hid hc
      clear hgd ha hc
      obtain ⟨ad, cd, hv⟩ : ∃ a c, u3 = .slice a (2 * i) c := by
        rcases HO.out.1.2 with ⟨hv, h0⟩ | ⟨g, cap, cur, hv, _⟩
        · exact ⟨none, 0, by rw [h0]; exact hv⟩
        · exact ⟨_, _, hv⟩
      subst hv
      have hown := HO.out.1
      have hsz := HO.out.2.size
      have hP : ∀ (gg cap : Nat) (w1 : World), w1.ownsRow w.heap.size 5 1 (.slice (some ⟨gg, 0, none⟩) (2 * i + 2) cap) (2 * i + 2) (bcells (hexL (D.take i)) ++ [.int .u8 (st digL (c / 16)), .int .u8 (st digL (c % 16))]) →
          (wr.alloc (.cells #[.int .u8 (st digL (c / 16)), .int .u8 (st digL (c % 16))] 5)).drew.grownBy w1 (Value.slice ad (2 * i) cd).ownBlock →
          w1.ownsRow w.heap.size 5 1 (.slice (some ⟨gg, 0, none⟩) (2 * i + 2) cap) (2 * (i + 1)) (bcells (hexL (D.take (i + 1)))) ∧ Below w.heap.size w w1 := by
        intro gg cap w1 ho hg
        have hb' : Below w.heap.size w (wr.alloc (.cells #[.int .u8 (st digL (c / 16)), .int .u8 (st digL (c % 16))] 5)).drew := (HO.out.2.alloc HO.out.2.size _).trans (drewN_below _ _ 1 (HO.out.2.alloc HO.out.2.size _).size)
        refine ⟨?_, hb'.grown hg hb'.size (fun k hk => (HO.out.1.lt k hk).1)⟩
        have hil : i < D.length := by omega
        have e : D.take (i + 1) = D.take i ++ [st D i] := by rw [List.take_succ_eq_append_getElem hil]; simp [st, List.getD, List.getElem?_eq_getElem hil]
        have e2 : bcells (hexL (D.take (i + 1))) = bcells (hexL (D.take i)) ++ [.int .u8 (st digL (c / 16)), .int .u8 (st digL (c % 16))] := by
          rw [e, hexL_append, HC.out]
          simp [bcells, hexL, hi4, lo4]
        rw [e2]
        exact ho
      have HP := Lib.hid hP
      clear hP
      go_wp2_with fail
      go_region_law (first | (refine step_append_lies _ (by rfl) _ _ _ (by rfl) w.heap.size 5 i0 _ 1 1 Try.underlying26 hi hz0 hz1 hz2 rfl (by omega) (.slice ad (2 * i) cd) (2 * i) (bcells (hexL (D.take i))) (by rfl) ((hown.alloc _).drew) ⟨wr.heap.size, 0, none⟩ 2 2 [.int .u8 (st digL (c / 16)), .int .u8 (st digL (c % 16))] (by rfl) (by rfl) (World.news_of_block (cs := #[.int .u8 (st digL (c / 16)), .int .u8 (st digL (c % 16))]) (t := 5) (fr := (0, 0)) (heap_alloc_new wr _)) (by simp [Value.oneCell']) (by omega) (by unfold maxLen; omega) (by omega) (by simp; omega) (wr.heap.size + 1) (by simp) ?_; intro gg cap w1 hown1 hgrow hat hltg; obtain ⟨p2, p3⟩ := HP.out gg cap w1 hown1 hgrow; clear hat hltg hgrow hown1))
      all_goals
        go_wp2
        go_roundw
        case rel => first | exact ⟨i + 1, by omega, by go_num, p2, p3⟩ | ((repeat apply Exists.intro); exact ⟨⟨i + 1, by omega, by go_num, p2, p3⟩, rfl⟩)
        case measure => simp [intOf]; omega
    · have e1 : decide ((i : Int) < 32) = false := by simp; omega
      have hi' : 2 * i = 64 := by omega
      have hown := HO.out.1
      rw [hi', List.take_of_length_le (by omega)] at hown
      rcases hown.2 with ⟨_, h0⟩ | ⟨g, cap, cur, rfl, hg, hh, hle, hm, hsz, ht⟩
      · omega
      have lH : (hexL D).length = 64 := by rw [hexL_length, lD]
      have qc := run_convert_bytes_arg (P := Try.prog) wr 26 5 Try.underlying26 Try.underlying5 g 0 64 cap (hexL D) lH (fun j hj => by
        have hcj : (bcells (hexL D))[j]? = some (.int .u8 ((hexL D).getD j 0)) := bcells_at _ _ (by omega)
        rw [Nat.zero_add, cell_of_row _ _ _ _ _ _ hh, ← hcj, ← ht]
        rw [List.getElem?_take_of_lt (by omega)]
        simp) 9 Try.underlying9
      clear hown ht hh
      go_wp2
      go_ret
      exact ⟨rfl, HO.out.2⟩

end Go.Proofs.Ytnmooepmpebepaa
