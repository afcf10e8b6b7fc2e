import Derived.Test.YtmlffomdlcfcbaaC
namespace Go.Proofs.Ytmlffomdlcfcbaa
open Go.RowKit

set_option maxRecDepth 100000 in
set_option maxHeartbeats 1000000 in
theorem append_ok {w : World} {B b : Nat} {base : Int} {xs : List ByteArray} {v : Value} (h : LogAt w B b base xs v) (hB : B ≤ w.heap.size) (hb : 0 ≤ base) (hn : base + xs.length + 1 ≤ 9223372036854775807)
    (hl : xs.length < 4096) (x : ByteArray) :
    Calls Try.prog 9 #[.pointer (some ⟨b, 0, none⟩), .string x] w (LogPost w B b base (xs ++ [x]) v (.tuple #[.int .i64 (base + (xs.length + 1 : Nat)), .int .i64 0])) := by
  have c0 := h.c0
  have c1 := h.c1
  have f1 := h.f0 1
  have hbs := h.lt
  have hown := h.own
  have hne := h.ne
  have hlo := h.lo
  have hheap := Lib.hid h.heap
  obtain ⟨i0, hi, hz0, hz1, hz2⟩ := info_parts Try.infoStr
  obtain ⟨a, c, hv⟩ : ∃ a c, v = .slice a xs.length c := (ownsRow_slice hown).elim fun a h => h.elim fun c h => ⟨a, c, h.1⟩
  subst hv
  have e1 : decide (xs.length < 4096) = true := by simpa using hl
  have e2 : decide (4096 ≤ (xs.length : Int)) = false := by simp; omega
  have e3 : decide ((4096 : Int) ≤ (xs.length : Int)) = false := by simp; omega
  go_enter Try.func9, Try.ntmps9
  go_wp2_with (first | (at_builtin; refine wpList_append_own _ rfl _ _ 22 rfl B 9 i0 (.string ⟨#[]⟩) 1 16 Try.underlying22 hi hz0 hz1 hz2 rfl (by decide) _ _ _ rfl (hown.alloc _) ⟨w.heap.size, 0, none⟩ 1 1 [.string x] rfl rfl ?c1 ?c2 ?c3 ?c4 ?c5 ?_))
  case c1 => exact cell_one_new _ _ _
  case c2 => simp [Value.oneCell']
  case c3 => unfold maxLen; omega
  case c4 => omega
  case c5 => simp; omega
  intro v' w1 hown1 hgrow hnil
  clear hnil
  obtain ⟨a', c', hv⟩ : ∃ a c, v' = .slice a (xs.length + 1) c := (ownsRow_slice hown1).elim fun a h => h.elim fun c h => ⟨a, c, h.1⟩
  subst hv
  have hg1 : (w.alloc (Obj.cells #[Value.string x] 9)).heap[b]? = w.heap[b]? := Below.heap_alloc _ _ _ hbs
  have hw1 : w1.heap[b]? = some (.cells #[.int .i64 base, .slice a xs.length c] 55 (0, 0)) := by
    rw [hgrow.block b (by simp; omega) (fun e => hne e.symm), hg1]; exact hheap.out
  have d0 : w1.cell? ⟨b, 0, none⟩ = some (.int .i64 base) := by simp [World.cell?, hw1]
  have d1 : w1.cell? ⟨b, 1, none⟩ = some (.slice a xs.length c) := by simp [World.cell?, hw1]
  have g1 : w1.frozen? ⟨b, 1, none⟩ = false := by simp [World.frozen?, hw1]
  have hfin : LogAt (w1.setCell ⟨b, 1, none⟩ (.slice a' (xs.length + 1) c')) B b base (xs ++ [x]) (.slice a' (xs.length + 1) c') := by
    refine ⟨hlo, heap_setCell_self _ hw1, ?_⟩
    have := ownsRow_setCell_ne hown1 (a := ⟨b, 1, none⟩) (own_elem hown1 hw1 (by decide)) (.slice a' (xs.length + 1) c')
    simpa using this
  have hch : Ch (fun k => k = b ∨ (Value.slice a xs.length c).ownBlock = some k) w (w1.setCell ⟨b, 1, none⟩ (.slice a' (xs.length + 1) c')) :=
    ((((Ch.refl _ w).alloc _).grown hgrow (fun k hk _ => .inr hk)).setCell ⟨b, 1, none⟩ _ (fun _ => .inl rfl))
  have hx : base + ((xs.length + 1 : Nat) : Int) ≤ 9223372036854775807 := by omega
  have LL := Lib.hid (last_at (w := w1.setCell ⟨b, 1, none⟩ (.slice a' (xs.length + 1) c')) hfin hb (by simp; omega))
  have HF := Lib.hid hfin
  have HG := Lib.hid hch
  clear hfin hch hgrow hw1 hg1
  go_wp2_with (first | (go_at_call 19; refine LL.out.mono ?_; rintro e w' ⟨rfl, m, rfl⟩))
  go_ret2
  refine ⟨?_, _, HF.out.ch ((Ch.refl (fun _ => False) _).drewN m) (by simp) (by simp), HG.out.drewN m⟩
  simp

end Go.Proofs.Ytmlffomdlcfcbaa
