import Derived.Test.YtnmooepmpebepaaAA
namespace Go.Proofs.Ytnmooepmpebepaa
open Go.RowKit

theorem bytes_range {w : World} {g : Nat} {B : List Int} (h : w.rangeAt g 0 (bcells B)) (hB : 0 < B.length) : Bytes w g 0 B :=
  ⟨World.block_lt_of_cell? w ⟨g, 0 + 0, none⟩ (h 0 _ (bcells_at B 0 hB)), fun i hi => h i _ (bcells_at B i hi)⟩

/-- A call that makes new memory alone leaves two ranges as they were. -/
theorem keep_two {f : FuncId} {args : Array Value} {v : Value} {w0 w : World} {g g' : Nat} {cs cs' : List Value} (h : Calls Try.prog f args w fun e w' => e = .returned v ∧ Below w.heap.size w w') (hg : w.rangeAt g 0 cs) (hg' : w.rangeAt g' 0 cs') (hb : Below w0.heap.size w0 w) :
    Calls Try.prog f args w fun e w' => e = .returned v ∧ w'.rangeAt g 0 cs ∧ w'.rangeAt g' 0 cs' ∧ Below w0.heap.size w0 w' :=
  h.mono fun _ _ ⟨h1, h2⟩ => ⟨h1, range_below hg h2, range_below hg' h2, hb.trans (h2.mono hb.size)⟩

set_option maxRecDepth 100000 in
set_option maxHeartbeats 8000000 in
theorem works_any (w : World) (H : List Int) (lH : H.length = 8) (B : List Int) (lB : B.length = 64) (t : Int) (last : Bool) :
    Calls Try.prog 8 #[.agg (wcells H).toArray, .agg (bcells B).toArray, .int .u64 t, .bool last] w (Holds w) := by
  have hu36 := Try.underlying36
  have hu38 := Try.underlying38
  have hi36 : (Try.prog.info? 36).map (·.size) = some (wcells H).length := by simpa using size36 lH
  have hi38 : (Try.prog.info? 38).map (·.size) = some (bcells B).length := by simpa using size38 lB
  have LV := Lib.hid (fun (w' : World) => lives_true w')
  go_enter Try.func8, Try.ntmps8
  go_wp2_with (first | (refine wpList_box_any (w := w) (by rfl) 36 (.tmp 0) (by rfl) _ (wcells H).toArray (by rfl) (by rfl) ?_; intro w1 hw1 hc1) | (refine wpList_box_any (w := w1) (by rfl) 38 (.tmp 1) (by rfl) _ (bcells B).toArray (by rfl) (by rfl) ?_; intro w2 hw2 hc2))
  have hr1 := range_of ((hc2.block _ (Array.getElem?_eq_some_iff.1 hw1).1 (by simp)).trans hw1)
  have hr2 := range_of hw2
  have hb2 : Below w.heap.size w w2 := (hc1.trans hc2 (fun _ _ h => h)).below (by simp) (Nat.le_refl _)
  clear hw1 hc1 hw2 hc2
  generalize w1.heap.size = g5 at hr2 ⊢
  go_upto_region 1 with fail
  have K17 := Lib.hid (fun (w' : World) (hg : w'.rangeAt w.heap.size 0 (wcells H)) (hg' : w'.rangeAt g5 0 (bcells B)) (hb : Below w.heap.size w w') => keep_two (w0 := w) (bwork_any w' H B lH lB t last) hg hg' hb)
  have K21 := Lib.hid (fun (w' : World) (hg : w'.rangeAt w.heap.size 0 (wcells H)) (hg' : w'.rangeAt g5 0 (bcells B)) (hb : Below w.heap.size w w') => keep_two (w0 := w) (rwork_any w' H lH g5 0 64 B (bytes_range hg' (by omega)) lB t last) hg hg' hb)
  have lD : (workS H B t last).length = 8 := workS_length H B t last
  generalize workS H B t last = D at K17 K21 lD
  have qE1 := fun (w : World) => eq36 D lD w
  refine region_quiet (fun w' => w'.rangeAt w.heap.size 0 (wcells H) ∧ w'.rangeAt g5 0 (bcells B) ∧ Below w.heap.size w w') (by kernel_rfl) (by kernel_rfl) ⟨(World.rangeAt_drew _ _ _ _).2 hr1, (World.rangeAt_drew _ _ _ _).2 hr2, hb2.trans (drewN_below w2 _ 1 hb2.size)⟩ ?_
  refine quiet_law (v := .bool true) (by rfl) (fun w' hw' => ?_) (fun K hK => ?_)
  · go_simp
    exact keep_two (w0 := w) (LV.out w') hw'.1 hw'.2.1 hw'.2.2
  go_simp; refine hK _ ?_; clear hK K
  iterate 1 (refine quiet_move (by rfl) rfl (fun K hK => ?_); go_simp; refine hK _ ?_; clear hK K)
  refine quiet_load (by rfl) rfl w.heap.size (wcells H) rfl (fun _ h => h.1) _ hu36 (by rfl) hi36 (fun K hK => ?_); go_simp; refine hK _ ?_; clear hK K
  refine quiet_load (by rfl) rfl g5 (bcells B) rfl (fun _ h => h.2.1) _ hu38 (by rfl) hi38 (fun K hK => ?_); go_simp; refine hK _ ?_; clear hK K
  iterate 2 (refine quiet_move (by rfl) rfl (fun K hK => ?_); go_simp; refine hK _ ?_; clear hK K)
  refine quiet_law (v := .agg (wcells D).toArray) (by rfl) (fun w' hw' => ?_) (fun K hK => ?_)
  · go_simp
    exact K17.out w' hw'.1 hw'.2.1 hw'.2.2
  go_simp; refine hK _ ?_; clear hK K
  refine quiet_load (by rfl) rfl w.heap.size (wcells H) rfl (fun _ h => h.1) _ hu36 (by rfl) hi36 (fun K hK => ?_); go_simp; refine hK _ ?_; clear hK K
  refine quiet_law (v := .slice (some ⟨g5, 0, none⟩) 64 64) (by rfl) (fun w' hw' => ?_) (fun K hK => ?_)
  · go_simp
  go_simp; refine hK _ ?_; clear hK K
  iterate 2 (refine quiet_move (by rfl) rfl (fun K hK => ?_); go_simp; refine hK _ ?_; clear hK K)
  refine quiet_law (v := .agg (wcells D).toArray) (by rfl) (fun w' hw' => ?_) (fun K hK => ?_)
  · go_simp
    exact K21.out w' hw'.1 hw'.2.1 hw'.2.2
  go_simp; refine hK _ ?_; clear hK K
  refine quiet_law (v := .bool true) (by rfl) (fun w' hw' => ?_) (fun K hK => ?_)
  · go_simp
  go_simp; refine hK _ ?_; clear hK K
  refine quiet_pick (by rfl) rfl rfl (fun K hK => ?_); go_simp; refine hK _ ?_; clear hK K
  refine quiet_assign (by rfl) rfl (fun K hK => ?_); go_simp; refine hK _ ?_; clear hK K
  refine wpQuiet_nil ?_
  intro w' hw'
  go_wp2
  go_ret
  exact ⟨rfl, hw'.2.2⟩

end Go.Proofs.Ytnmooepmpebepaa
