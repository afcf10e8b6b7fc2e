import Derived.Test.YtnmooepmpebepaaO
namespace Go.Proofs.Ytnmooepmpebepaa
open Go.RowKit

def Holds (w : World) (e : Ending) (w' : World) : Prop := e = .returned (.bool true) ∧ Below w.heap.size w w'

theorem hexL_at (D : List Int) : ∀ (j : Nat), j < D.length → (hexL D)[2 * j]? = some (hi4 (st D j)) ∧ (hexL D)[2 * j + 1]? = some (lo4 (st D j)) := by
  induction D with
  | nil => intro j h; simp at h
  | cons c D ih =>
    intro j h
    match j, h with
    | 0, _ => exact ⟨rfl, rfl⟩
    | j + 1, h =>
      have := ih j (by simpa using h)
      rw [show 2 * (j + 1) = 2 * j + 1 + 1 by omega]
      exact this
theorem dig_bounds (k : Nat) (hk : k < 16) : 0 ≤ st digL k ∧ st digL k < 256 := by
  have : ∀ k, k < 16 → 0 ≤ st digL k ∧ st digL k < 256 := by decide
  exact this k hk
theorem text_index (D : List Int) (i : Nat) (z : Int) (hz : (hexL D)[i]? = some z) (h0 : 0 ≤ z ∧ z < 256) (w : World) : (Instr.index 9 (.string (textS D)) (.int .i64 (i : Int))).run Try.prog w = .ok (.int .u8 z) w := by
  have hi : i < (hexL D).length := (List.getElem?_eq_some_iff.1 hz).1
  have hs : (textS D).size = (hexL D).length := strOfNums_size _
  rw [run_index_string w 9 (textS D) .i64 _ Try.underlying9, dif_pos ⟨by omega, by rw [hs]; omega⟩]
  congr 2
  have e : ((textS D)[i]'(by rw [hs]; exact hi)) = UInt8.ofNat z.toNat := by
    have h1 : ((textS D).data.toList)[i]? = some (UInt8.ofNat z.toNat) := by
      rw [textS, strOfNums_data, List.getElem?_map, hz]; rfl
    have h2 : (textS D).data[i]? = some (UInt8.ofNat z.toNat) := by simpa using h1
    have h3 := (Array.getElem?_eq_some_iff.1 h2).2
    exact h3
  show (((textS D)[i]'_).toNat : Int) = z
  rw [e]
  have : z.toNat < 256 := by omega
  simp [Nat.mod_eq_of_lt this]
  omega
theorem dig_index (k : Nat) (hk : k < 16) (z : Int) (hz : z = (k : Int)) (w : World) : (Instr.index 9 (.string digB) (.int .i64 z)).run Try.prog w = .ok (.int .u8 (st digL k)) w := by
  subst hz
  rw [run_index_string w 9 digB .i64 _ Try.underlying9, dif_pos ⟨by omega, by show (k : Int) < 16; omega⟩]
  congr 2
  have : ∀ k, (h : k < 16) → ((digB[k]'(show k < digB.size from h)).toNat : Int) = st digL k := by decide
  exact this k hk

set_option maxRecDepth 100000 in
set_option maxHeartbeats 8000000 in
theorem texts_any (w : World) (D : List Int) (lD : D.length = 32) (hD : ∀ i, i < 32 → 0 ≤ st D i ∧ st D i < 256) :
    Calls Try.prog 4 #[.agg (bcells D).toArray] w (Holds w) := by
  have HD := Lib.hid hD
  have hsz : (textS D).size = 64 := by rw [textS, strOfNums_size, hexL_length, lD]
  have V := Lib.hid (fun (w' : World) => lives_true w')
  have T := Lib.hid (fun (w' : World) => text_any w' D lD hD)
  clear hD
  go_enter Try.func4, Try.ntmps4
  go_wp2_with (first | (refine wpList_box_any (by rfl) 28 (.tmp 0) (by rfl) _ (bcells D).toArray (by rfl) (by rfl) ?_; intro w1 hw1 hc1) | (refine wpList_load_arr (by rfl) 28 (.tmp 1) (by rfl) w.heap.size 28 _ hw1 32 5 Try.underlying28 (size28 lD) (by rfl) ?_))
  have hb1 : Below w.heap.size w w1 := hc1.below (by simp) (Nat.le_refl _)
  have hl1 := (Array.getElem?_eq_some_iff.1 hw1).1
  refine (T.out _).mono ?_
  rintro e w2 ⟨rfl, hb2⟩
  have H2 := Lib.hid (And.intro ((hb2.block _ hl1).trans hw1) (hb1.trans (hb2.mono hb1.size)))
  clear hw1 hc1 hb1 hb2 hl1
  go_wp2_with fail
  refine (V.out _).mono ?_
  rintro e w3 ⟨rfl, hb3⟩
  have hl2 := (Array.getElem?_eq_some_iff.1 H2.out.1).1
  have H3 := Lib.hid (And.intro ((hb3.block _ hl2).trans H2.out.1) (H2.out.2.trans (hb3.mono H2.out.2.size)))
  clear hb3 hl2
  go_wp2_with fail
  go_loopw [4] (fun q wr => ∃ i : Nat, i ≤ 64 ∧ q = .int .i64 i ∧ wr.heap[w.heap.size]? = some (.cells (bcells D).toArray 28 (0, 0)) ∧ Below w.heap.size w wr) (fun q _ => 64 - (intOf q).toNat)
  case atStart => exact ⟨0, by omega, rfl, H3.out.1, H3.out.2⟩
  case round =>
    obtain ⟨i, hi, rfl, hh, hbel⟩ := hrel
    have HH := Lib.hid (And.intro hh hbel)
    clear hh hbel
    by_cases hi64 : i < 64
    · have e1 : decide ((i : Int) < 64) = true := by simp; omega
      obtain ⟨j, hj⟩ : ∃ j, i / 2 = j := ⟨_, rfl⟩
      have hj32 : j < 32 := by omega
      obtain ⟨d0, d1⟩ := HD.out j hj32
      obtain ⟨c, hc⟩ : ∃ c : Nat, st D j = c := ⟨(st D j).toNat, by omega⟩
      rw [hc] at d0 d1
      have hc256 : c < 256 := by omega
      have cj : wr.cell? ⟨w.heap.size, j, none⟩ = some (.int .u8 (c : Int)) := by
        rw [cell_of_row _ _ _ _ _ _ HH.out.1, ← hc]; simpa using bcells_at D j (by omega)
      have t1 : Int.tdiv (i : Int) 2 = (j : Int) := by rw [Int.tdiv_eq_ediv_of_nonneg (by omega)]; omega
      have q0 : (0 : Int) ≤ (j : Int) := by omega
      have q1 : (j : Int) < 32 := by omega
      have hat := hexL_at D j (by omega)
      rw [hc] at hat
      by_cases hpar : i % 2 = 1
      · have t2 : Int.tmod (i : Int) 2 = 1 := by rw [Int.tmod_eq_emod_of_nonneg (by omega)]; omega
        have h1 := hat.2
        rw [show 2 * j + 1 = i by omega] at h1
        have k1 := fun (w : World) => text_index D i _ h1 (dig_bounds _ (by omega)) w
        have k2 := fun (w : World) => dig_index (c % 16) (by omega) ((c : Int) % 16) (by omega) w
        simp only [digB] at k2
        have hlo : lo4 (c : Int) = st digL (c % 16) := rfl
        rw [hlo] at k1
        clear hat h1 hlo hc hj hpar
        go_wp2_with fail
        go_quiet (fail)
        go_wp2_with fail
        go_roundw
        case rel => exact ⟨i + 1, by omega, by go_num, HH.out.1, HH.out.2.trans (drewN_below _ _ _ HH.out.2.size)⟩
        case measure => simp [intOf]; omega
      · have t2 : Int.tmod (i : Int) 2 = 0 := by rw [Int.tmod_eq_emod_of_nonneg (by omega)]; omega
        have h1 := hat.1
        rw [show 2 * j = i by omega] at h1
        have k1 := fun (w : World) => text_index D i _ h1 (dig_bounds _ (by omega)) w
        have k2 := fun (w : World) => dig_index (c / 16) (by omega) ((c : Int) / 16) (by omega) w
        simp only [digB] at k2
        have hlo : hi4 (c : Int) = st digL (c / 16) := rfl
        rw [hlo] at k1
        clear hat h1 hlo hc hj hpar
        go_wp2_with fail
        go_quiet (fail)
        go_wp2_with fail
        go_roundw
        case rel => exact ⟨i + 1, by omega, by go_num, HH.out.1, HH.out.2.trans (drewN_below _ _ _ HH.out.2.size)⟩
        case measure => simp [intOf]; omega
    · have e1 : decide ((i : Int) < 64) = false := by simp; omega
      go_wp2
      go_ret
      exact ⟨rfl, HH.out.2⟩

end Go.Proofs.Ytnmooepmpebepaa
