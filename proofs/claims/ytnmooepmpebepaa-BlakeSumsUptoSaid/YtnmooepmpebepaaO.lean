import Derived.Test.YtnmooepmpebepaaN
import Derived.Lib.SlBytesConst
namespace Go.Proofs.Ytnmooepmpebepaa
open Go.RowKit

theorem reads_below {g : Nat} {w w' : World} {v : Value} {b : List Int} (h : ReadsB g w v b) (hb : Below w.heap.size w w') : ReadsB g w' v b :=
  h.ch (F := fun _ => False) (Ch.of_below hb) (fun _ _ h => h.elim)
theorem reads_other {g g' : Nat} {w : World} {v : Value} {b : List Int} (h : ReadsB g w v b) (hne : ∀ q, q < w.heap.size → q ≠ g') : ReadsB g' w v b := by
  obtain ⟨a, cap, hv, hle, hr⟩ := h
  refine ⟨a, cap, hv, hle, fun h0 => ?_⟩
  obtain ⟨q, off, ha, hq, hlt, hc⟩ := hr h0
  exact ⟨q, off, ha, hne q hlt, hlt, hc⟩
theorem alloc_below (w : World) (o : Obj) : Below w.heap.size w (w.alloc o) := (Below.refl _ w).alloc (Nat.le_refl _) _

/-- A constant's bytes, as '[]byte("..")' lays them. -/
def lit (b : List Int) : Obj := .cells (bcells b).toArray 5 (b.length, b.length + 1)
theorem reads_lit (w : World) (g : Nat) (hg : g ≠ w.heap.size) (b : List Int) : ReadsB g (w.alloc (lit b)) (.slice (some ⟨w.heap.size, 0, none⟩) b.length b.length) b :=
  ⟨_, _, rfl, Nat.le_refl _, fun _ => ⟨_, _, rfl, fun h => hg h.symm, by simp, fun j hj => by
    rw [Nat.zero_add]
    refine (cell_of_row _ _ _ _ _ _ (show (w.alloc (lit b)).heap[w.heap.size]? = some (.cells (bcells b).toArray 5 (b.length, b.length + 1)) from heap_alloc_new w _)).trans ?_
    simpa using bcells_at b j hj⟩⟩
theorem conv_lit (w : World) (b : List Int) : (convert 26 26 (.slice (some ⟨w.heap.size, 0, none⟩) b.length b.length)).run Try.prog (w.alloc (.cells (bcells b).toArray 5)) = .ok (.slice (some ⟨w.heap.size, 0, none⟩) b.length b.length) (w.alloc (lit b)) := by
  have := Go.Lib.run_convert_bytes_const (P := Try.prog) w 26 5 (bcells b).toArray b.length b.length Try.underlying26 Try.underlying5
  rw [this]
  simp [lit, bcells]
theorem parts2 (w : World) (a b : List Int) : Parts (((w.alloc (lit a)).alloc (lit b)).alloc (.cells #[.slice (some ⟨w.heap.size, 0, none⟩) a.length a.length, .slice (some ⟨w.heap.size + 1, 0, none⟩) b.length b.length] 26)) (.slice (some ⟨w.heap.size + 1 + 1, 0, none⟩) 2 2) [a, b] := by
  have r1 := reads_lit w (w.heap.size + 3) (by omega) a
  have r2 := reads_lit (w.alloc (lit a)) (w.heap.size + 3) (by simp) b
  have hh := heap_alloc_new ((w.alloc (lit a)).alloc (lit b)) (.cells #[.slice (some ⟨w.heap.size, 0, none⟩) a.length a.length, .slice (some ⟨w.heap.size + 1, 0, none⟩) b.length b.length] 26)
  simp only [World.size_alloc] at hh r2
  refine ⟨_, _, rfl, fun _ => ⟨_, 0, rfl, by simp, fun k hk => ?_⟩⟩
  rw [Nat.zero_add]
  match k, hk with
  | 0, _ =>
    refine ⟨_, (cell_of_row _ _ 0 _ _ _ hh).trans rfl, rfl, ?_⟩
    refine reads_other ((reads_below (reads_below r1 (alloc_below _ _)) (alloc_below _ _))) (fun q hq => by omega)
  | 1, _ =>
    refine ⟨_, (cell_of_row _ _ 1 _ _ _ hh).trans rfl, rfl, ?_⟩
    refine reads_other (reads_below r2 (alloc_below _ _)) (fun q hq => by omega)
theorem parts1 (w : World) (a : List Int) : Parts ((w.alloc (lit a)).alloc (.cells #[.slice (some ⟨w.heap.size, 0, none⟩) a.length a.length] 26)) (.slice (some ⟨w.heap.size + 1, 0, none⟩) 1 1) [a] := by
  have r1 := reads_lit w (w.heap.size + 3) (by omega) a
  have hh := heap_alloc_new (w.alloc (lit a)) (.cells #[.slice (some ⟨w.heap.size, 0, none⟩) a.length a.length] 26)
  simp only [World.size_alloc] at hh
  refine ⟨_, _, rfl, fun _ => ⟨_, 0, rfl, by simp, fun k hk => ?_⟩⟩
  rw [Nat.zero_add]
  obtain rfl : k = 0 := by simp at hk; exact hk
  refine ⟨_, (cell_of_row _ _ 0 _ _ _ hh).trans rfl, rfl, ?_⟩
  exact reads_other (reads_below r1 (alloc_below _ _)) (fun q hq => by omega)

set_option maxRecDepth 100000 in
set_option maxHeartbeats 8000000 in
theorem lives_true (w : World) : Calls Try.prog 11 #[] w fun e w' => e = .returned (.bool true) ∧ Below w.heap.size w w' := by
  have hT : ((textS (sumS [97, 98, 99])).toList == ([53, 48, 56, 99, 53, 101, 56, 99, 51, 50, 55, 99, 49, 52, 101, 50, 101, 49, 97, 55, 50, 98, 97, 51, 52, 101, 101, 98, 52, 53, 50, 102, 51, 55, 52, 53, 56, 98, 50, 48, 57, 101, 100, 54, 51, 97, 50, 57, 52, 100, 57, 57, 57, 98, 52, 99, 56, 54, 54, 55, 53, 57, 56, 50] : List UInt8)) = true := by kernel_rfl
  obtain ⟨D, hD⟩ : ∃ D, sumS [97, 98, 99] = D := ⟨_, rfl⟩
  have lD : D.length = 32 := by rw [← hD]; exact outB_length _
  have HB := Lib.hid (fun i (hi : i < 32) => hD ▸ sumS_bytes [97, 98, 99] i hi)
  have HD := Lib.hid hD
  rw [hD] at hT
  have qE := fun (w : World) => eq28 D lD w
  have hS : startS 0 = 1779033703 := rfl
  have ST := Lib.hid (fun (w : World) => start_any w 0)
  rw [hS] at ST
  clear hD hS
  go_enter Try.func11, Try.ntmps11
  go_wp2_with fail
  refine (new_any _).mono ?_
  rintro e w1 ⟨g, rfl, hg, hh, hb⟩
  have H1 := Lib.hid (And.intro hh hb)
  have hlt := hh.lt
  have q1 : (convert 26 26 (.slice (some ⟨w1.heap.size, 0, none⟩) 1 1)).run Try.prog (w1.alloc (.cells #[.int .u8 97] 5)) = .ok (.slice (some ⟨w1.heap.size, 0, none⟩) 1 1) (w1.alloc (lit [97])) := conv_lit w1 [97]
  have q2 : (convert 26 26 (.slice (some ⟨w1.heap.size + 1, 0, none⟩) 2 2)).run Try.prog ((w1.alloc (lit [97])).alloc (.cells #[.int .u8 98, .int .u8 99] 5)) = .ok (.slice (some ⟨w1.heap.size + 1, 0, none⟩) 2 2) ((w1.alloc (lit [97])).alloc (lit [98, 99])) := by
    have := conv_lit (w1.alloc (lit [97])) [98, 99]
    rw [World.size_alloc] at this
    exact this
  clear hh hb
  go_wp2_with fail
  refine (sum_any _ _ [[97], [98, 99]] (parts2 w1 [97] [98, 99]) (by decide)).mono ?_
  rintro e w2 ⟨rfl, hb2⟩
  have hf : sumS [[97], [98, 99]].flatten = D := HD.out
  rw [hf]
  have hb12 : Below w1.heap.size w1 w2 := (((alloc_below w1 _).trans ((alloc_below _ _).mono (by simp))).trans ((alloc_below _ _).mono (by simp; omega))).trans (hb2.mono (by simp; omega))
  have H2 := Lib.hid hb12
  clear hb2 hb12 hf
  go_wp2_with fail
  refine (text_any _ D lD (fun i hi => HB.out i hi)).mono ?_
  rintro e w3 ⟨rfl, hb3⟩
  have H3 := Lib.hid (H2.out.trans (hb3.mono H2.out.size))
  clear hb3
  go_wp2_with fail
  refine (ST.out _).mono ?_
  rintro e w4 ⟨rfl, hb4⟩
  have H4 := Lib.hid (H3.out.trans (hb4.mono H3.out.size))
  have q3 : (convert 26 26 (.slice (some ⟨w4.heap.size, 0, none⟩) 3 3)).run Try.prog (w4.alloc (.cells #[.int .u8 97, .int .u8 98, .int .u8 99] 5)) = .ok (.slice (some ⟨w4.heap.size, 0, none⟩) 3 3) (w4.alloc (lit [97, 98, 99])) := conv_lit w4 [97, 98, 99]
  clear hb4 q1 q2
  go_wp2_with fail
  have hg4 : Given w4 g [] := ⟨_, (H4.out.block g hlt).trans H1.out.1, inv_new⟩
  have hc4 : Ch (fun _ => False) w4 (w4.alloc (lit [97, 98, 99])) := (Ch.refl _ w4).alloc _
  refine (add_any _ g [] [97, 98, 99] _ (hg4.ch hc4 (by simp)) (reads_lit w4 g (by have := H4.out.size; omega) [97, 98, 99])).mono ?_
  rintro e w5 ⟨rfl, hg5, hc5⟩
  have hb45 : Below w.heap.size w w4 := H1.out.2.trans (H4.out.mono H1.out.2.size)
  have hb5 : Below w.heap.size w w5 := (hb45.alloc hb45.size _).trans (hc5.below (by rintro i rfl; exact hg) (by simp; have := hb45.size; omega))
  have H5 := Lib.hid (And.intro hg5 hb5)
  clear hg4 hc4 hg5 hc5 hb45 hb5
  go_wp2_with fail
  refine (digest_any _ g _ H5.out.1).mono ?_
  rintro e w6 ⟨rfl, hb6⟩
  rw [show sumS ([] ++ [97, 98, 99]) = D from HD.out]
  have H6 := Lib.hid (H5.out.2.trans (hb6.mono H5.out.2.size))
  have q4 : (convert 26 26 (.slice (some ⟨w6.heap.size, 0, none⟩) 3 3)).run Try.prog (w6.alloc (.cells #[.int .u8 97, .int .u8 98, .int .u8 99] 5)) = .ok (.slice (some ⟨w6.heap.size, 0, none⟩) 3 3) (w6.alloc (lit [97, 98, 99])) := conv_lit w6 [97, 98, 99]
  clear hb6 q3
  go_wp2_with fail
  refine (sum_any _ _ [[97, 98, 99]] (parts1 w6 [97, 98, 99]) (by decide)).mono ?_
  rintro e w7 ⟨rfl, hb7⟩
  rw [show sumS [[97, 98, 99]].flatten = D from HD.out]
  have hb67 : Below w.heap.size w w7 := ((H6.out.alloc H6.out.size _).alloc (by simp; have := H6.out.size; omega) _).trans (hb7.mono (by simp; have := H6.out.size; omega))
  have H7 := Lib.hid hb67
  clear hb7 hb67
  go_wp2
  go_ret
  exact ⟨rfl, H7.out⟩

end Go.Proofs.Ytnmooepmpebepaa
