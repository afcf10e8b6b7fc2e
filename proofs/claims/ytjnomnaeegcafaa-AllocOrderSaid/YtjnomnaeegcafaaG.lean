import Derived.Test.YtjnomnaeegcafaaF
import Derived.Deep.LoopGhost
import Derived.Shelf.Abstract
namespace Go.Proofs.Ytjnomnaeegcafaa
open Go.RowKit Go.Shelf

set_option maxHeartbeats 1000000 in
theorem wanted_any (w : World) (b6 : Nat) (v : Value) (left : List Mv) (hc : w.cell? ⟨b6, 0, none⟩ = some v) (hr : ReadsM w v left) (hl : left.length ≤ 140737488355328) (r : Int) :
    Calls Try.prog 21 #[.int .i64 r, .pointer (some ⟨b6, 0, none⟩)] w fun e w' => e = .returned (.bool (left.any fun x => x.1 == r)) ∧ Below w.heap.size w w' := by
  have hlt := World.block_lt_of_cell? _ _ hc
  have c1 : (w.alloc (.cells #[.int .i64 r] 3)).cell? ⟨b6, 0, none⟩ = some v := Lib.cell?_alloc_some _ hc
  have hb0 : Below w.heap.size w (w.alloc (.cells #[.int .i64 r] 3)) := (Below.refl _ w).alloc (Nat.le_refl _) _
  have L := Lib.hid (contains_any (w.alloc (.cells #[.int .i64 r] 3)) v left (hr.below hb0) hl 23 #[.pointer (some ⟨w.heap.size, 0, none⟩)] (fun m => m.1 == r) (tells_from _ _ _ (cellNew _ _ _ _ _ rfl)) (enters_of Try.func23 (by kernel_rfl) rfl))
  obtain ⟨res, hres⟩ : ∃ res, (left.any fun x => x.1 == r) = res := ⟨_, rfl⟩
  rw [hres] at L ⊢
  have HB := Lib.hid hb0
  clear hr hc hres hb0
  go_enter Try.func21, Try.ntmps21
  go_wp2_with (first | (go_at_call 22; refine L.out.mono ?_; rintro e w1 ⟨rfl, hb1⟩))
  go_ret
  exact ⟨rfl, HB.out.trans (hb1.mono HB.out.size)⟩

set_option maxHeartbeats 1000000 in
/-- The closure that looks for a move whose aim nobody wants. -/
theorem tells_free (w : World) (b6 b7 : Nat) (v : Value) (left : List Mv) (hc : w.cell? ⟨b6, 0, none⟩ = some v) (hr : ReadsM w v left) (hl : left.length ≤ 140737488355328)
    (h7 : w.cell? ⟨b7, 0, none⟩ = some (.func (.func 21) #[] #[.pointer (some ⟨b6, 0, none⟩)])) : Tells Try.prog 25 #[.pointer (some ⟨b7, 0, none⟩)] (freeM left) w := by
  rintro ⟨m1, m2⟩ w' hb
  have c6 := (hb.cell (p := ⟨b6, 0, none⟩) (World.block_lt_of_cell? _ _ hc)).trans hc
  have c7 := (hb.cell (p := ⟨b7, 0, none⟩) (World.block_lt_of_cell? _ _ h7)).trans h7
  have hb0 : Below w'.heap.size w' (w'.alloc (.cells #[.int .i64 m1, .int .i64 m2] 28)) := (Below.refl _ w').alloc (Nat.le_refl _) _
  have L := Lib.hid (wanted_any (w'.alloc (.cells #[.int .i64 m1, .int .i64 m2] 28)) b6 v left (Lib.cell?_alloc_some _ c6) ((hr.below hb).below hb0) hl m2)
  obtain ⟨res, hres⟩ : ∃ res, (left.any fun x => x.1 == m2) = res := ⟨_, rfl⟩
  have hfr : freeM left (m1, m2) = !res := by rw [← hres]; rfl
  have HF := Lib.hid hfr
  rw [hres] at L
  have c7' : ∀ o, (w'.alloc o).cell? ⟨b7, 0, none⟩ = some (.func (.func 21) #[] #[.pointer (some ⟨b6, 0, none⟩)]) := fun o => Lib.cell?_alloc_some _ c7
  have HB := Lib.hid hb0
  clear hc hr h7 c6 c7 hres hfr hb0 hb
  simp only [List.append_toArray, List.cons_append, List.nil_append]
  go_enter Try.func25, Try.ntmps25
  go_wp2_with (first | (go_at_call 21; refine L.out.mono ?_; rintro e w1 ⟨rfl, hb1⟩))
  go_ret
  exact ⟨by rw [HF.out]; rfl, HB.out.trans (hb1.mono HB.out.size)⟩

end Go.Proofs.Ytjnomnaeegcafaa
