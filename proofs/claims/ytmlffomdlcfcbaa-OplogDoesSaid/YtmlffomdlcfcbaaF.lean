import Derived.Test.YtmlffomdlcfcbaaE
namespace Go.Proofs.Ytmlffomdlcfcbaa
open Go.RowKit

/-- What 'lives' leaves: true, and nothing that was there has turned. -/
def Lives (w : World) (e : Ending) (w' : World) : Prop := e = .returned (.bool true) ∧ Below w.heap.size w w'

def sa : ByteArray := ⟨#[97]⟩
def sb : ByteArray := ⟨#[98]⟩
def sc : ByteArray := ⟨#[99]⟩

theorem eq_nilFunc (w : World) (l : Array Value) : (binOp .eql 47 (.func (.func 25) #[] l) .nilFunc).run Try.prog w = .ok (.bool false) w := by kernel_rfl

set_option maxRecDepth 100000 in
set_option maxHeartbeats 2000000 in
theorem lives_any (w : World) : Calls Try.prog 8 #[] w (Lives w) := by
  have hq := eq_nilFunc
  go_enter Try.func8, Try.ntmps8
  go_wp2_with fail
  have hr : Reads (w.alloc (.cells #[.string ⟨#[97]⟩, .string ⟨#[98]⟩] 9)) (.slice (some ⟨w.heap.size, 0, none⟩) 2 2) ([⟨#[97]⟩, ⟨#[98]⟩].map Value.string) := by
    refine .inr ⟨⟨w.heap.size, 0, none⟩, 2, rfl, ?_⟩
    exact World.news_of_block (cs := #[.string ⟨#[97]⟩, .string ⟨#[98]⟩]) (t := 9) (fr := (0, 0)) (heap_alloc_new w _)
  refine (new_ok _ _ [⟨#[97]⟩, ⟨#[98]⟩] hr 5 (by omega) (by omega) (by simp)).mono ?_
  rintro e w1 ⟨b, v, rfl, hl1, hb⟩
  clear hr
  have hb1 : Below w.heap.size w w1 := ((Below.refl _ w).alloc (Nat.le_refl _) _).trans (hb.mono (by simp))
  clear hb
  have hl : LogAt w1 w.heap.size b 5 [⟨#[97]⟩, ⟨#[98]⟩] v := ⟨by have := hl1.lo; simp at this; omega, hl1.heap, ownsRow_lower hl1.own (by simp)⟩
  clear hl1
  go_wp2_with fail
  refine (from_any _ _ _).mono ?_
  rintro e w2 ⟨rfl, hw2⟩
  have hl2 : LogAt w2 w.heap.size b 5 [⟨#[97]⟩, ⟨#[98]⟩] v := hl.ch (F := fun _ => False) (by rw [hw2]; exact ((Ch.refl _ w1).alloc _).alloc _) (by simp) (by simp)
  have hb2 : Below w.heap.size w w2 := by rw [hw2]; exact (hb1.alloc hb1.size _).alloc (by simp; have := hb1.size; omega) _
  clear hw2 hl hb1
  go_wp2_with fail
  refine (rebase_at hl2 hb2.size (by omega) (by simp) (by simp) 6 (by omega) (by simp)).mono ?_
  rintro e w3 ⟨rfl, v3, hl3, hc3⟩
  have hb3 : Below w.heap.size w w3 := hb2.trans (hc3.below (by rintro i (rfl | hi); exact hl2.lo; exact (hl2.own.lt i hi).1) hb2.size)
  have hl3 : LogAt w3 w.heap.size b 6 [⟨#[98]⟩] v3 := hl3
  clear hc3 hl2 hb2
  go_wp2_with fail
  refine (at_in hl3 (by omega) (by simp) 0 (by simp)).mono ?_
  rintro e w4 ⟨rfl, m4, rfl⟩
  go_wp2_with fail
  refine (at_out (hl3.ch ((Ch.refl (fun _ => False) _).drewN m4) (by simp) (by simp)) (by omega) (by simp) 6 (by omega)).mono ?_
  rintro e w5 ⟨rfl, m5, rfl⟩
  have hl5 : LogAt ((w3.drewN m4).drewN m5) w.heap.size b 6 [⟨#[98]⟩] v3 := hl3.ch (((Ch.refl (fun _ => False) _).drewN m4).drewN m5) (by simp) (by simp)
  have hb5 : Below w.heap.size w ((w3.drewN m4).drewN m5) := hb3.trans (((Ch.refl (fun _ => False) _).drewN m4).drewN m5 |>.below (by simp) hb3.size)
  clear hl3 hb3
  obtain ⟨W5, hW5⟩ : ∃ W, (w3.drewN m4).drewN m5 = W := ⟨_, rfl⟩
  rw [hW5] at hl5 hb5 ⊢
  clear hW5
  go_wp2_with fail
  refine (append_ok hl5 hb5.size (by omega) (by simp) (by simp) _).mono ?_
  rintro e w6 ⟨rfl, v6, hl6, hc6⟩
  have hb6 : Below w.heap.size w w6 := hb5.trans (hc6.below (by rintro i (rfl | hi); exact hl5.lo; exact (hl5.own.lt i hi).1) hb5.size)
  have hl6 : LogAt w6 w.heap.size b 6 [⟨#[98]⟩, ⟨#[99]⟩] v6 := hl6
  clear hc6 hl5 hb5
  go_wp2_with fail
  refine (base_at b 6 w6 hl6.c0).mono ?_
  rintro e w7 ⟨rfl, rfl⟩
  go_wp2_with fail
  refine (last_at hl6 (by omega) (by simp)).mono ?_
  rintro e w8 ⟨rfl, m8, rfl⟩
  go_wp2_with fail
  refine (list_at (hl6.ch ((Ch.refl (fun _ => False) _).drewN m8) (by simp) (by simp)) (by simp)).mono ?_
  rintro e w9 ⟨a9, c9, rfl, hown9, hb9⟩
  have hb10 : Below w.heap.size w w9 := (hb6.trans (((Ch.refl (fun _ => False) _).drewN m8).below (by simp) hb6.size)).trans (hb9.mono hb6.size)
  clear hb9 hb6 hown9 hl6
  go_wp2
  go_ret
  exact ⟨rfl, hb10⟩

end Go.Proofs.Ytmlffomdlcfcbaa
