import Derived.Test.YtmlffomdlcfcbaaG
namespace Go.Proofs.Ytmlffomdlcfcbaa
open Go.RowKit Go.Shelf
attribute [local go_sem] Oper.semAt_some

theorem cellNew (w : World) (c : Array Value) (e : TypeId) (b i : Nat) (hb : b = w.heap.size) : (w.alloc (.cells c e)).cell? ⟨b, i, none⟩ = c[i]? := by
  subst hb
  unfold World.cell?
  rw [heap_alloc_new]
  rfl
theorem cellOld (w : World) (o : Obj) (b i : Nat) (hb : b < w.heap.size) : (w.alloc o).cell? ⟨b, i, none⟩ = w.cell? ⟨b, i, none⟩ := World.cell?_of_block (Below.heap_alloc _ _ _ hb)
theorem frozenNew (w : World) (c : Array Value) (e : TypeId) (b i : Nat) (hb : b = w.heap.size) : (w.alloc (.cells c e)).frozen? ⟨b, i, none⟩ = false := by
  subst hb
  unfold World.frozen?
  rw [heap_alloc_new]
  simp
theorem frozenOld (w : World) (o : Obj) (b i : Nat) (hb : b < w.heap.size) : (w.alloc o).frozen? ⟨b, i, none⟩ = w.frozen? ⟨b, i, none⟩ := World.frozen?_of_block (Below.heap_alloc _ _ _ hb)

abbrev encs (p : Int × ByteArray) : Array Value := #[.int .i64 p.1, .string p.2]

theorem nil_stops (n bn bl n₀ : Nat) (m : Int) (w : World) (hbn : bn < w.heap.size) (hbl : bl < w.heap.size) (hn : w.cell? ⟨bn, 0, none⟩ = some (.int .i64 m)) (hl : w.cell? ⟨bl, 0, none⟩ = some (.pointer none)) :
    SeqStopsK Fence.wide n Try.prog 25 #[.pointer (some ⟨bn, 0, none⟩), .pointer (some ⟨bl, 0, none⟩)] encs (Below n₀) (fun xs => xs = []) (fun _ => False) 0 w := fun l J Jx W hW hJ _ _ h0 => by
  refine (from_nil_in n l bn bl m J W ((hW.cell (p := ⟨bn, 0, none⟩) hbn).trans hn) ((hW.cell (p := ⟨bl, 0, none⟩) hbl).trans hl) h0 hJ).mono ?_
  rintro e W' ⟨he, hj⟩
  exact ⟨he, .inl ⟨[], rfl, hj⟩⟩

def Nobody (w : World) (e : Ending) (w' : World) : Prop := e = .returned (.bool true) ∧ Below w.heap.size w w'

set_option maxRecDepth 100000 in
set_option maxHeartbeats 4000000 in
theorem nobody_in (k m : Int) (x : ByteArray) (w : World) :
    CallsIn Fence.wide 3 Try.prog 4 #[.agg #[.int .i64 k, .int .i64 m, .string x]] w (Nobody w) := by
  have hw1 : ∀ k, Fence.wide.fn k := fun _ => trivial
  have hw2 : Fence.wide.depth = none := rfl
  have hw3 : Fence.wide.round = none := rfl
  have hq := eq_nilFunc
  refine callsIn_of_wp_marks Try.func4 rfl trivial ?_ rfl
  simp only [Try.ntmps4, List.size_toArray, List.length_cons, List.length_nil, Nat.reduceAdd, Nat.reduceSub, Array.replicate_succ, Array.replicate_zero, List.push_toArray, List.append_toArray, List.nil_append, List.cons_append]
  gi_wp2_with fail
  refine (callsIn_wide.2 (from_any _ _ _)).mono ?_
  rintro e w1 ⟨rfl, hw⟩
  have hz : w1.heap.size = w.heap.size + 4 := by rw [hw]; simp
  have hbl : Below w.heap.size w w1 := by rw [hw]; exact ((((Below.refl _ w).alloc (Nat.le_refl _) _).alloc (by simp) _).alloc (by simp; omega) _).alloc (by simp; omega) _
  have k0 : w1.cell? ⟨w.heap.size, 0, none⟩ = some (.int .i64 k) := by rw [hw, cellOld _ _ _ _ (by simp <;> omega), cellOld _ _ _ _ (by simp <;> omega), cellOld _ _ _ _ (by simp <;> omega), cellNew _ _ _ _ _ (by simp)]; rfl
  have k1 : w1.cell? ⟨w.heap.size, 1, none⟩ = some (.int .i64 m) := by rw [hw, cellOld _ _ _ _ (by simp <;> omega), cellOld _ _ _ _ (by simp <;> omega), cellOld _ _ _ _ (by simp <;> omega), cellNew _ _ _ _ _ (by simp)]; rfl
  have k2 : w1.cell? ⟨w.heap.size, 2, none⟩ = some (.string x) := by rw [hw, cellOld _ _ _ _ (by simp <;> omega), cellOld _ _ _ _ (by simp <;> omega), cellOld _ _ _ _ (by simp <;> omega), cellNew _ _ _ _ _ (by simp)]; rfl
  have k3 : w1.cell? ⟨w.heap.size + 1, 0, none⟩ = some (.bool false) := by rw [hw, cellOld _ _ _ _ (by simp <;> omega), cellOld _ _ _ _ (by simp <;> omega), cellNew _ _ _ _ _ (by simp)]; rfl
  have k4 : w1.cell? ⟨w.heap.size + 2, 0, none⟩ = some (.pointer none) := by rw [hw, cellOld _ _ _ _ (by simp <;> omega), cellNew _ _ _ _ _ (by simp)]; rfl
  have k5 : w1.cell? ⟨w.heap.size + 3, 0, none⟩ = some (.int .i64 m) := by rw [hw, cellNew _ _ _ _ _ (by simp)]; rfl
  have g3 : w1.frozen? ⟨w.heap.size + 1, 0, none⟩ = false := by rw [hw, frozenOld _ _ _ _ (by simp <;> omega), frozenOld _ _ _ _ (by simp <;> omega), frozenNew _ _ _ _ _ (by simp)]
  have e1 : (((w.alloc (Obj.cells #[Value.int IntKind.i64 k, Value.int IntKind.i64 m, Value.string x] 33)).alloc (Obj.cells #[Value.bool false] 4)).heap.size) = w.heap.size + 2 := by simp
  rw [e1]
  clear hw e1
  gi_wp2_with fail
  refine (callsIn_wide.2 (lives_any _)).mono ?_
  rintro e w2 ⟨rfl, hb2⟩
  have hbl2 : Below w.heap.size w w2 := hbl.trans (hb2.mono hbl.size)
  have hz2 : w.heap.size + 4 ≤ w2.heap.size := by have := hb2.size; omega
  replace k0 := (hb2.cell (p := ⟨w.heap.size, 0, none⟩) (by simp; omega)).trans k0
  replace k1 := (hb2.cell (p := ⟨w.heap.size, 1, none⟩) (by simp; omega)).trans k1
  replace k2 := (hb2.cell (p := ⟨w.heap.size, 2, none⟩) (by simp; omega)).trans k2
  replace k3 := (hb2.cell (p := ⟨w.heap.size + 1, 0, none⟩) (by simp; omega)).trans k3
  replace k4 := (hb2.cell (p := ⟨w.heap.size + 2, 0, none⟩) (by simp; omega)).trans k4
  replace k5 := (hb2.cell (p := ⟨w.heap.size + 3, 0, none⟩) (by simp; omega)).trans k5
  replace g3 := (hb2.frozen (p := ⟨w.heap.size + 1, 0, none⟩) (by simp; omega)).trans g3
  clear hb2 hbl hz
  gi_wp2
  refine wpIn_rangeFunc_ownF hw3 (by omega) (gf := 25) (lb := #[.pointer (some ⟨w.heap.size + 3, 0, none⟩), .pointer (some ⟨w.heap.size + 2, 0, none⟩)]) rfl (hw1 _) (enters_of Try.func25 (by kernel_rfl) rfl)
    (nil_stops _ (w.heap.size + 3) (w.heap.size + 2) w2.heap.size m w2 (by omega) (by omega) k5 k4) belowK_t (belowK_b (Nat.le_refl _)) (Below.refl _ _) (fun _ => rfl)
    (fun _ W => Below w2.heap.size w2 W) (fun _ _ _ => False) (ownFrom_below (Nat.le_refl _) (Nat.le_refl _)) (fun _ _ _ _ _ hs _ _ => hs) (Below.refl _ _)
    (fun x => { tmps := (Array.zip #[20, 21] (encs x)).foldl (fun t (p, v) => t.setIfInBounds p v) ?tm, defers := [] }) ?assign ?body ?done ?stop
  case assign =>
    intro l x W K hK
    refine wpIn_skip ?_
    exact hK
  case body => intro l pre x W _ h; omega
  case stop => intro D c pre W _ h _ _; exact h.elim
  case done =>
    rintro D xs W hD _ hbW hK
    have hbl3 : Below w.heap.size w W := hbl2.trans (hbW.mono hbl2.size)
    replace k0 := (hbW.cell (p := ⟨w.heap.size, 0, none⟩) (by simp; omega)).trans k0
    replace k1 := (hbW.cell (p := ⟨w.heap.size, 1, none⟩) (by simp; omega)).trans k1
    replace k2 := (hbW.cell (p := ⟨w.heap.size, 2, none⟩) (by simp; omega)).trans k2
    replace k3 := (hbW.cell (p := ⟨w.heap.size + 1, 0, none⟩) (by simp; omega)).trans k3
    replace g3 := (hbW.frozen (p := ⟨w.heap.size + 1, 0, none⟩) (by simp; omega)).trans g3
    clear k4 k5
    have HD := Lib.hid hK
    clear hK
    gi_wp2_with (first
      | (gi_at_call 9; refine (callsIn_wide.2 (append_none _ _)).mono ?_; rintro e w' ⟨rfl, rfl⟩)
      | (gi_at_call 15; refine (callsIn_wide.2 (at_none _ _)).mono ?_; rintro e w' ⟨rfl, t1, rfl⟩)
      | (gi_at_call 18; refine (callsIn_wide.2 (base_nil _)).mono ?_; rintro e w' ⟨rfl, rfl⟩)
      | (gi_at_call 19; refine (callsIn_wide.2 (last_nil _)).mono ?_; rintro e w' ⟨rfl, t2, rfl⟩)
      | (gi_at_call 11; refine (callsIn_wide.2 (cut_none _ _)).mono ?_; rintro e w' ⟨rfl, t3, rfl⟩)
      | (gi_at_call 13; refine (callsIn_wide.2 (rebase_none _ _)).mono ?_; rintro e w' ⟨rfl, t4, rfl⟩)
      | (gi_at_call 20; refine (callsIn_wide.2 (list_none _)).mono ?_; rintro e w' ⟨rfl, rfl⟩))
    clear hq k0 k1 k2
    have HK := HD.out
    clear HD
    have hWD : D < W.heap.size := (Array.getElem?_eq_some_iff.1 HK).1
    have hne : D ≠ w.heap.size + 1 := by omega
    have HK2 : ((W.drewN (t1 + t2 + t3 + t4)).setCell ⟨w.heap.size + 1, 0, none⟩ (.bool true)).heap[D]? = some (.deferred (some [])) := by
      rw [Below.heap_setCell _ _ _ _ hne]; exact HK
    have hc5 := cell_kept (World.cell?_setCell_same' (W.drewN (t1 + t2 + t3 + t4)) ⟨w.heap.size + 1, 0, none⟩ (.bool true) (by show (W.cell? _).isSome = true; rw [k3]; rfl)) (grownBy_putObj' _ D (.deferred none)) (fun r e => by cases e; exact ⟨_, HK2, rfl⟩)
    refine ⟨by simp, .inl ⟨_, _, rfl, run_takeDeferred HK2, ?_⟩⟩
    refine ⟨_, by simp [results, Try.results4, go_sem, hc5], rfl, ?_⟩
    refine Below.trans ?_ (belowK_b (w := w) (Nat.le_refl _) _ D _ _ (by omega) HK2 rfl rfl)
    exact (hbl3.trans (((Ch.refl (fun _ => False) _).drewN _).below (by simp) hbl3.size)).setCell (by simp) _

end Go.Proofs.Ytmlffomdlcfcbaa
