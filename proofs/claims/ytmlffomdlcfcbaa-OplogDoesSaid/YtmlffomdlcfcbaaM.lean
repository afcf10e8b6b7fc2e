import Derived.Test.YtmlffomdlcfcbaaL
namespace Go.Proofs.Ytmlffomdlcfcbaa
open Go.RowKit

set_option maxRecDepth 100000 in
set_option maxHeartbeats 1000000 in
theorem rappend_some {w : World} {B b : Nat} {base : Int} {xs : List ByteArray} {g cap : Nat} (h : RefAt w B b base xs (.slice (some ⟨g, 0, none⟩) xs.length cap)) (hB : B ≤ w.heap.size) (hb : 0 ≤ base) (hn : base + xs.length + 1 ≤ 9223372036854775807)
    (hl : xs.length < 4096) (x : ByteArray) :
    Calls Try.prog 10 #[.pointer (some ⟨b, 0, none⟩), .string x] w (RefPost w B b base (xs ++ [x]) (.slice (some ⟨g, 0, none⟩) xs.length cap) (.tuple #[.int .i64 (base + xs.length + 1), .int .i64 0])) := by
  have c0 := h.c0
  have f0 := h.f0 0
  have hbs := h.lt
  have k0 : ∀ (t : Nat) (o : Obj), ((w.drewN t).alloc o).cell? ⟨b, 0, none⟩ = some (.slice (some ⟨g, 0, none⟩) xs.length cap) := fun t o => (World.cell?_of_block (w := w.drewN t) (Below.heap_alloc _ _ _ hbs)).trans c0
  have HL := Lib.hid (rlast_at h hb (by omega))
  have hgs : g < w.heap.size := (h.own.lt g rfl).2
  have hsrc : ∀ (t : Nat) (o : Obj), ∀ j u, (items base xs)[j]? = some u → ((w.drewN t).alloc o).cell? ((⟨g, 0, none⟩ : Addr).add j) = some u := by
    intro t o j u hu
    have := h.own.cells (g := g) rfl j u hu
    rw [Addr.add_lit] at this ⊢
    exact (World.cell?_of_block (w := w.drewN t) (Below.heap_alloc _ _ _ hgs)).trans this
  have HS := Lib.hid hsrc
  clear hsrc
  obtain ⟨i0, hi, hz0, hz1, hz2⟩ := info_parts Try.infoItem
  have e3 : decide ((4096 : Int) ≤ (xs.length : Int)) = false := by simp; omega
  have H := Lib.hid h
  clear h
  go_enter Try.func10, Try.ntmps10
  go_wp2_with (first
    | (go_at_call 22; refine HL.out.mono ?_; rintro e w' ⟨rfl, m, rfl⟩)
    | (at_builtin; refine wpList_append_own _ rfl (.tmp 17) (.tmp 21) 39 rfl w.heap.size 43 i0 (.agg #[.int .i64 0, .string ⟨#[]⟩]) 2 24 Try.underlying39 hi hz0 hz1 hz2 rfl (by decide) _ _ _ rfl (World.ownsRow_made (w.drewN m) #[] 0 (Nat.le_refl _) (Nat.zero_le _) rfl) ⟨g, 0, none⟩ xs.length cap (items base xs) rfl (items_length _ _) (HS.out _ _) (items_one _ _) (by unfold maxLen; omega) (by omega) (by simp) ?_; intro v1 w1 hown1 hgrow1 hnil1; clear hnil1; replace hgrow1 : World.grownBy _ w1 (some w.heap.size) := hgrow1)
    | (at_builtin; refine wpList_append_own _ rfl (.tmp 22) (.tmp 26) 39 rfl w.heap.size 43 i0 (.agg #[.int .i64 0, .string ⟨#[]⟩]) 2 24 Try.underlying39 hi hz0 hz1 hz2 rfl (by decide) _ _ _ rfl (hown1.alloc _) ⟨w1.heap.size, 0, none⟩ 1 1 [.int .i64 (base + xs.length + 1), .string x] rfl rfl ?c1 ?c2 ?c3 ?c4 ?c5 ?_))
  case c1 => exact news2 _ _ _ _ _ rfl
  case c2 => intro u hu; simp at hu; rcases hu with rfl | rfl <;> rfl
  case c3 => unfold maxLen; omega
  case c4 => omega
  case c5 => have := hgrow1.size; simp at this ⊢; omega
  intro v' w2 hown2 hgrow2 hnil
  clear hnil
  obtain ⟨a', c', rfl⟩ : ∃ a c, v' = .slice a (xs.length + 1) c := (ownsRow_slice hown2).elim fun a h => h.elim fun c h => ⟨a, c, by simpa using h.1⟩
  have hg1 : w1.heap[b]? = w.heap[b]? := by
    rw [hgrow1.block b (by simp; omega) (by simp; omega)]
    exact Below.heap_alloc (w.drewN m) _ _ hbs
  have hv1 : ∀ k, v1.ownBlock = some k → k < w.heap.size → (Value.slice (some ⟨g, 0, none⟩) xs.length cap).ownBlock = some k := by
    intro k hk hlt
    have := (hown1.lt k hk).1
    omega
  have hp := RefAt.pushed (w1 := w1) (v1 := v1) (x := x) H.out _ (ownsRow_lower (by simpa using hown1) hB) ((((Ch.refl _ w).drewN m).alloc _).grown hgrow1 (by intro k hk hlt; simp at hk; omega)) hg1 hv1 (ownsRow_lower (by simpa using hown2) hB) hgrow2
  have q0 : w2.cell? ⟨b, 0, none⟩ = some (.slice (some ⟨g, 0, none⟩) xs.length cap) := by simp [World.cell?, hp.1]
  have q1 : w2.frozen? ⟨b, 0, none⟩ = false := by simp [World.frozen?, hp.1]
  have HP := Lib.hid hp
  clear hp hown2 hgrow2 hg1 hv1 hgrow1 hown1 k0
  go_wp2
  go_ret2
  exact ⟨rfl, _, HP.out.2⟩

end Go.Proofs.Ytmlffomdlcfcbaa
