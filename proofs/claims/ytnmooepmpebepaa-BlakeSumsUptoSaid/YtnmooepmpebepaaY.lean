import Derived.Test.YtnmooepmpebepaaW
import Derived.Test.YtnmooepmpebepaaX
namespace Go.Proofs.Ytnmooepmpebepaa
open Go.RowKit

/-- A call that makes new memory alone leaves a range as it was. -/
theorem keep_call {f : FuncId} {args : Array Value} {v : Value} {w0 w : World} {g : Nat} {cs : List Value} (h : Calls Try.prog f args w fun e w' => e = .returned v ∧ Below w.heap.size w w') (hg : w.rangeAt g 0 cs) (hb : Below w0.heap.size w0 w) :
    Calls Try.prog f args w fun e w' => e = .returned v ∧ w'.rangeAt g 0 cs ∧ Below w0.heap.size w0 w' :=
  h.mono fun _ _ ⟨h1, h2⟩ => ⟨h1, range_below hg h2, hb.trans (h2.mono hb.size)⟩
theorem stirV_length (L : List Int) (a b c d : Int) (x y : Int) : (stirV L a b c d x y).length = L.length := by
  unfold stirV
  split
  · rw [stirS_length]
  · rfl

/-! ### A region that draws its order and whose operations are quiet in a class of worlds -/
section
variable {P : Program} {C : World → Prop} {ops : Array Oper} {rest : List Oper} {o : Oper} {a : Act} {Q : Act → Prop}
theorem region_quiet {id : Nat} {Q' : Exit → Act → World → Prop} {w : World} {l : List Oper} (C : World → Prop) (hm : P.follows .mixedOrders = true) (hB : Region.lexB .any l.toArray = true) (hC : C w.drew)
    (h : wpQuiet P l.toArray C (fun a' => ∀ w', C w' → Q' .normal a' w') l a) : (Code.region id l.toArray true).wp P Q' a w :=
  wp_region_quiet (C := C) hm hB hC (by simpa using h)
theorem quiet_law {v : Value} (hw : Region.wanted o (yielded ops a.tmps) = true) (hv : ∀ w, C w → o.quietAt P a C w v) (k : ∀ K : Act → Prop, (∀ a, wpQuiet P ops C Q rest a → K a) → K (a.put o.dst (v))) : wpQuiet P ops C Q (o :: rest) a := by
  unfold wpQuiet
  rw [if_pos hw]
  exact ⟨v, hv, k _ (fun _ h => h)⟩
theorem quiet_move {x : Operand} (hw : Region.wanted o (yielded ops a.tmps) = true) (hop : o.op = .move x) (k : ∀ K : Act → Prop, (∀ a, wpQuiet P ops C Q rest a → K a) → K (a.put o.dst (a.eval x))) : wpQuiet P ops C Q (o :: rest) a :=
  quiet_law hw (fun w _ => by unfold Oper.quietAt execOp; simp [hop, Oper.quietUpon]) k
theorem quiet_assign {x : Operand} (hw : Region.wanted o (yielded ops a.tmps) = true) (hop : o.op = .assign x) (k : ∀ K : Act → Prop, (∀ a, wpQuiet P ops C Q rest a → K a) → K (a.put o.dst (a.eval x))) : wpQuiet P ops C Q (o :: rest) a :=
  quiet_law hw (fun w _ => by unfold Oper.quietAt execOp; simp [hop, Oper.quietUpon]) k
theorem quiet_pick {c x y : Operand} (hw : Region.wanted o (yielded ops a.tmps) = true) (hop : o.op = .pick c x y) (hc : a.eval c = .bool true) (k : ∀ K : Act → Prop, (∀ a, wpQuiet P ops C Q rest a → K a) → K (a.put o.dst (a.eval x))) : wpQuiet P ops C Q (o :: rest) a :=
  quiet_law hw (fun w _ => by unfold Oper.quietAt execOp; simp [hop, hc, Oper.quietUpon, asBool]) k
theorem quiet_load {ty : TypeId} {x : Operand} (hw : Region.wanted o (yielded ops a.tmps) = true) (hop : o.op = .load ty x) (g : Nat) (cs : List Value) (hx : a.eval x = .pointer (some ⟨g, 0, none⟩)) (hS : ∀ w, C w → w.rangeAt g 0 cs)
    (d : TypeDesc) (hu : P.underlying ty = some d) (hd : d.isRow = true) (hi : (P.info? ty).map (·.size) = some cs.length) (k : ∀ K : Act → Prop, (∀ a, wpQuiet P ops C Q rest a → K a) → K (a.put o.dst (.agg cs.toArray))) : wpQuiet P ops C Q (o :: rest) a :=
  quiet_law hw (fun w h => by
    unfold Oper.quietAt execOp
    simp only [hop, hx, Instr.loadAt, Instr.sureAddr, Sem.run_bind, Sem.run_pure, Result.andThen_ok, run_loadVar_mid w g 0 ty cs d (hS w h) hu hd hi, Oper.quietUpon]
    exact ⟨trivial, trivial⟩) k
end

set_option maxRecDepth 100000 in
set_option maxHeartbeats 8000000 in
theorem stirs_any (w : World) (V : List Int) (lV : V.length = 16) (p x y : Int) :
    Calls Try.prog 9 #[.agg (wcells V).toArray, .int .i64 p, .int .u32 x, .int .u32 y] w (Holds w) := by
  have hu42 := Try.underlying42
  have hi42 : (Try.prog.info? 42).map (·.size) = some (wcells V).length := by exact size42 lV
  have LV := Lib.hid (fun (w' : World) => lives_true w')
  go_enter Try.func9, Try.ntmps9
  go_wp2_with (first | (refine wpList_box_any (by rfl) 42 (.tmp 0) (by rfl) _ (wcells V).toArray (by rfl) (by rfl) ?_; intro w1 hw1 hc1))
  have hr1 := range_of hw1
  have hb1 : Below w.heap.size w w1 := hc1.below (by simp) (Nat.le_refl _)
  clear hw1 hc1
  go_upto_region 2 with fail
  generalize p.tmod 17 = a
  generalize (wrap64 (p.tdiv 17)).tmod 17 = b
  generalize (wrap64 (p.tdiv 289)).tmod 17 = c
  generalize (wrap64 (p.tdiv 4913)).tmod 17 = d
  have K18 := Lib.hid (fun (w' : World) (hg : w'.rangeAt w.heap.size 0 (wcells V)) (hb : Below w.heap.size w w') => keep_call (w0 := w) (bstir_any w' V lV a b c d x y) hg hb)
  have K22 := Lib.hid (fun (w' : World) (hg : w'.rangeAt w.heap.size 0 (wcells V)) (hb : Below w.heap.size w w') => keep_call (w0 := w) (rstir_any w' V lV a b c d x y) hg hb)
  have L18 := Lib.hid (fun (w' : World) (hg : w'.rangeAt w.heap.size 0 (wcells V)) (hb : Below w.heap.size w w') => keep_call (w0 := w) (bstir_any w' V lV 0 4 8 12 x y) hg hb)
  have L22 := Lib.hid (fun (w' : World) (hg : w'.rangeAt w.heap.size 0 (wcells V)) (hb : Below w.heap.size w w') => keep_call (w0 := w) (rstir_any w' V lV 0 4 8 12 x y) hg hb)
  have K16 := Lib.hid (fun (w' : World) (hg : w'.rangeAt w.heap.size 0 (wcells V)) (hb : Below w.heap.size w w') => keep_call (w0 := w) (start_any w' a) hg hb)
  have K23 := Lib.hid (fun (w' : World) (hg : w'.rangeAt w.heap.size 0 (wcells V)) (hb : Below w.heap.size w w') => keep_call (w0 := w) (rstart_any w' a) hg hb)
  have l1 : (stirV V a b c d x y).length = 16 := by rw [stirV_length]; exact lV
  have l2 : (stirV V 0 4 8 12 x y).length = 16 := by rw [stirV_length]; exact lV
  generalize stirV V a b c d x y = D1 at K18 K22 l1
  generalize stirV V 0 4 8 12 x y = D2 at L18 L22 l2
  generalize startS a = z at K16 K23
  have qE1 := fun (w : World) => eq42 D1 l1 w
  have qE2 := fun (w : World) => eq42 D2 l2 w
  refine region_quiet (fun w' => w'.rangeAt w.heap.size 0 (wcells V) ∧ Below w.heap.size w w') (by kernel_rfl) (by kernel_rfl) ⟨(World.rangeAt_drew _ _ _ _).2 hr1, hb1.trans (drewN_below w1 _ 1 hb1.size)⟩ ?_
  refine quiet_law (v := .bool true) (by rfl) (fun w' hw' => ?_) (fun K hK => ?_)
  · go_simp
    exact keep_call (w0 := w) (LV.out w') hw'.1 hw'.2
  go_simp; refine hK _ ?_; clear hK K
  iterate 1 (refine quiet_move (by rfl) rfl (fun K hK => ?_); go_simp; refine hK _ ?_; clear hK K)
  refine quiet_load (by rfl) rfl w.heap.size (wcells V) rfl (fun _ h => h.1) _ hu42 (by rfl) hi42 (fun K hK => ?_); go_simp; refine hK _ ?_; clear hK K
  iterate 6 (refine quiet_move (by rfl) rfl (fun K hK => ?_); go_simp; refine hK _ ?_; clear hK K)
  refine quiet_law (v := .agg (wcells D1).toArray) (by rfl) (fun w' hw' => ?_) (fun K hK => ?_)
  · go_simp
    exact K18.out w' hw'.1 hw'.2
  go_simp; refine hK _ ?_; clear hK K
  refine quiet_load (by rfl) rfl w.heap.size (wcells V) rfl (fun _ h => h.1) _ hu42 (by rfl) hi42 (fun K hK => ?_); go_simp; refine hK _ ?_; clear hK K
  iterate 6 (refine quiet_move (by rfl) rfl (fun K hK => ?_); go_simp; refine hK _ ?_; clear hK K)
  refine quiet_law (v := .agg (wcells D1).toArray) (by rfl) (fun w' hw' => ?_) (fun K hK => ?_)
  · go_simp
    exact K22.out w' hw'.1 hw'.2
  go_simp; refine hK _ ?_; clear hK K
  refine quiet_law (v := .bool true) (by rfl) (fun w' hw' => ?_) (fun K hK => ?_)
  · go_simp
  go_simp; refine hK _ ?_; clear hK K
  refine quiet_pick (by rfl) rfl rfl (fun K hK => ?_); go_simp; refine hK _ ?_; clear hK K
  iterate 1 (refine quiet_move (by rfl) rfl (fun K hK => ?_); go_simp; refine hK _ ?_; clear hK K)
  refine quiet_load (by rfl) rfl w.heap.size (wcells V) rfl (fun _ h => h.1) _ hu42 (by rfl) hi42 (fun K hK => ?_); go_simp; refine hK _ ?_; clear hK K
  iterate 2 (refine quiet_move (by rfl) rfl (fun K hK => ?_); go_simp; refine hK _ ?_; clear hK K)
  refine quiet_law (v := .agg (wcells D2).toArray) (by rfl) (fun w' hw' => ?_) (fun K hK => ?_)
  · go_simp
    exact L18.out w' hw'.1 hw'.2
  go_simp; refine hK _ ?_; clear hK K
  refine quiet_load (by rfl) rfl w.heap.size (wcells V) rfl (fun _ h => h.1) _ hu42 (by rfl) hi42 (fun K hK => ?_); go_simp; refine hK _ ?_; clear hK K
  iterate 2 (refine quiet_move (by rfl) rfl (fun K hK => ?_); go_simp; refine hK _ ?_; clear hK K)
  refine quiet_law (v := .agg (wcells D2).toArray) (by rfl) (fun w' hw' => ?_) (fun K hK => ?_)
  · go_simp
    exact L22.out w' hw'.1 hw'.2
  go_simp; refine hK _ ?_; clear hK K
  refine quiet_law (v := .bool true) (by rfl) (fun w' hw' => ?_) (fun K hK => ?_)
  · go_simp
  go_simp; refine hK _ ?_; clear hK K
  refine quiet_pick (by rfl) rfl rfl (fun K hK => ?_); go_simp; refine hK _ ?_; clear hK K
  iterate 1 (refine quiet_move (by rfl) rfl (fun K hK => ?_); go_simp; refine hK _ ?_; clear hK K)
  iterate 1 (refine quiet_move (by rfl) rfl (fun K hK => ?_); go_simp; refine hK _ ?_; clear hK K)
  refine quiet_law (v := .int .u32 z) (by rfl) (fun w' hw' => ?_) (fun K hK => ?_)
  · go_simp
    exact K16.out w' hw'.1 hw'.2
  go_simp; refine hK _ ?_; clear hK K
  iterate 1 (refine quiet_move (by rfl) rfl (fun K hK => ?_); go_simp; refine hK _ ?_; clear hK K)
  refine quiet_law (v := .int .u32 z) (by rfl) (fun w' hw' => ?_) (fun K hK => ?_)
  · go_simp
    exact K23.out w' hw'.1 hw'.2
  go_simp; refine hK _ ?_; clear hK K
  refine quiet_law (v := .bool true) (by rfl) (fun w' hw' => ?_) (fun K hK => ?_)
  · go_simp
  go_simp; refine hK _ ?_; clear hK K
  refine quiet_pick (by rfl) rfl rfl (fun K hK => ?_); go_simp; refine hK _ ?_; clear hK K
  refine quiet_assign (by rfl) rfl (fun K hK => ?_); go_simp; refine hK _ ?_; clear hK K
  refine wpQuiet_nil ?_
  intro w' hw'
  go_wp2
  go_ret
  exact ⟨rfl, hw'.2⟩

end Go.Proofs.Ytnmooepmpebepaa
