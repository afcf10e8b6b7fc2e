import Derived.Test.YtmlffomdlcfcbaaI
import Derived.Laws.AppendOwnNone
namespace Go.Proofs.Ytmlffomdlcfcbaa
open Go.RowKit

/-- The cells of numbered things behind a number. -/
def items (n : Int) : List ByteArray → List Value
  | [] => []
  | x :: r => .int .i64 (n + 1) :: .string x :: items (n + 1) r

theorem items_length (xs : List ByteArray) : ∀ n, (items n xs).length = xs.length * 2 := by
  induction xs with
  | nil => intro n; rfl
  | cons x r ih => intro n; simp [items, ih]; omega

theorem items_append (xs ys : List ByteArray) : ∀ n, items n (xs ++ ys) = items n xs ++ items (n + xs.length) ys := by
  induction xs with
  | nil => intro n; simp [items]
  | cons x r ih =>
    intro n
    simp only [List.cons_append, items, ih, List.length_cons]
    have : n + 1 + (r.length : Int) = n + ((r.length + 1 : Nat) : Int) := by omega
    rw [this]

theorem items_at (xs : List ByteArray) : ∀ (n : Int) (i : Nat), i < xs.length → (items n xs)[i * 2]? = some (.int .i64 (n + 1 + i)) ∧ (items n xs)[i * 2 + 1]? = some (.string (xs.getD i ByteArray.empty)) := by
  induction xs with
  | nil => intro n i h; simp at h
  | cons x r ih =>
    intro n i h
    match i with
    | 0 => simp [items]
    | j + 1 =>
      have h2 := ih (n + 1) j (by simpa using h)
      have e1 : (j + 1) * 2 = j * 2 + 1 + 1 := by omega
      rw [e1]
      refine ⟨?_, ?_⟩
      · simp only [items, List.getElem?_cons_succ]
        rw [h2.1]
        congr 2
        omega
      · simp only [items, List.getElem?_cons_succ]
        rw [h2.2]
        simp [List.getD]

theorem items_one (n : Int) (xs : List ByteArray) : ∀ u ∈ items n xs, u.oneCell' = true := by
  induction xs generalizing n with
  | nil => intro u hu; simp [items] at hu
  | cons x r ih =>
    intro u hu
    simp only [items, List.mem_cons] at hu
    rcases hu with rfl | rfl | hu
    · rfl
    · rfl
    · exact ih _ u hu

/-- The document's log. -/
structure RefAt (w : World) (B b : Nat) (base : Int) (xs : List ByteArray) (v : Value) : Prop where
  lo : B ≤ b
  heap : w.heap[b]? = some (.cells #[v, .int .i64 base] 41 (0, 0))
  own : w.ownsRow B 43 2 v xs.length (items base xs)

section
variable {w : World} {B b : Nat} {base : Int} {xs : List ByteArray} {v : Value}
theorem RefAt.ne (h : RefAt w B b base xs v) : v.ownBlock ≠ some b := own_elem h.own h.heap (by decide)
theorem RefAt.lt (h : RefAt w B b base xs v) : b < w.heap.size := (Array.getElem?_eq_some_iff.1 h.heap).1
theorem RefAt.c0 (h : RefAt w B b base xs v) : w.cell? ⟨b, 0, none⟩ = some v := by simp [World.cell?, h.heap]
theorem RefAt.c1 (h : RefAt w B b base xs v) : w.cell? ⟨b, 1, none⟩ = some (.int .i64 base) := by simp [World.cell?, h.heap]
theorem RefAt.f0 (h : RefAt w B b base xs v) (i : Nat) : w.frozen? ⟨b, i, none⟩ = false := by simp [World.frozen?, h.heap]
theorem RefAt.keep {w' : World} (h : RefAt w B b base xs v) (hb : w'.heap[b]? = w.heap[b]?) (hv : ∀ k, v.ownBlock = some k → w'.heap[k]? = w.heap[k]?) : RefAt w' B b base xs v := by
  refine ⟨h.lo, hb.trans h.heap, ⟨h.own.1, ?_⟩⟩
  rcases h.own.2 with hn | ⟨g, cap, cur, rfl, hg, hh, rest⟩
  · exact .inl hn
  · exact .inr ⟨g, cap, cur, rfl, hg, (hv g rfl).trans hh, rest⟩
theorem RefAt.ch {F : Nat → Prop} {w' : World} (h : RefAt w B b base xs v) (hc : Ch F w w') (hb : ¬ F b) (hv : ∀ k, v.ownBlock = some k → ¬ F k) : RefAt w' B b base xs v :=
  h.keep (hc.block b h.lt hb) (fun k hk => hc.block k (h.own.lt k hk).2 (hv k hk))
theorem RefAt.drewN (h : RefAt w B b base xs v) (m : Nat) : RefAt (w.drewN m) B b base xs v :=
  h.ch ((Ch.refl (fun _ => False) _).drewN m) (by simp) (by simp)
theorem RefAt.based (h : RefAt w B b base [] v) (n : Int) : RefAt (w.setCell ⟨b, 1, none⟩ (.int .i64 n)) B b n [] v := by
  refine ⟨h.lo, ?_, ?_⟩
  · rw [heap_setCell_self _ h.heap]; rfl
  · exact ownsRow_setCell_ne h.own h.ne _

theorem RefAt.shape (h : RefAt w B b base xs v) :
    (v = .slice none 0 0 ∧ xs = []) ∨ ∃ g cap, v = .slice (some ⟨g, 0, none⟩) xs.length cap ∧ xs.length ≤ cap ∧ cap ≤ maxLen ∧ B ≤ g ∧
      (∀ j, j < xs.length → w.cell? ⟨g, j * 2, none⟩ = some (.int .i64 (base + 1 + j))) ∧ (∀ j, j < xs.length → w.cell? ⟨g, j * 2 + 1, none⟩ = some (.string (xs.getD j ByteArray.empty))) := by
  rcases h.own.2 with ⟨hv, hn⟩ | ⟨g, cap, cur, hv, hg, hh, hle, hm, _⟩
  · exact .inl ⟨hv, List.eq_nil_of_length_eq_zero hn⟩
  · refine .inr ⟨g, cap, hv, hle, hm, hg, fun j hj => ?_, fun j hj => ?_⟩
    · have := h.own.cells (g := g) (by rw [hv]; rfl) (j * 2) _ (items_at xs base j hj).1
      rwa [show ((⟨g, 0, none⟩ : Addr).add (j * 2)) = ⟨g, j * 2, none⟩ by rw [Addr.add_lit]; simp] at this
    · have := h.own.cells (g := g) (by rw [hv]; rfl) (j * 2 + 1) _ (items_at xs base j hj).2
      rwa [show ((⟨g, 0, none⟩ : Addr).add (j * 2 + 1)) = ⟨g, j * 2 + 1, none⟩ by rw [Addr.add_lit]; simp] at this
end

theorem news2 (W : World) (x y : Value) (t : TypeId) (b : Nat) (hb : b = W.heap.size) : ∀ j u, [x, y][j]? = some u → (W.alloc (.cells #[x, y] t)).cell? ((⟨b, 0, none⟩ : Addr).add j) = some u := by
  subst hb; exact cell_two_new W x y t

theorem Try.infoItem : (Try.prog.info? 43).map (fun i => (i.zero, i.size, i.bytes)) = some (some (.agg #[.int .i64 0, .string ⟨#[]⟩]), 2, 24) := by kernel_rfl

set_option maxHeartbeats 400000 in
theorem rlast_cell (b : Nat) (n : Int) (a : Option Addr) (len cap : Nat) (w : World) (h0 : w.cell? ⟨b, 0, none⟩ = some (.slice a len cap)) (h1 : w.cell? ⟨b, 1, none⟩ = some (.int .i64 n)) (hb : 0 ≤ n) (hn : n + len ≤ 9223372036854775807) :
    Calls Try.prog 22 #[.pointer (some ⟨b, 0, none⟩)] w fun e w' => e = .returned (.int .i64 (n + len)) ∧ ∃ n, w' = w.drewN n := by
  go_enter Try.func22, Try.ntmps22
  go_wp2
  go_quiet (fail)
  go_wp2
  go_ret
  exact ⟨rfl, nq, rfl⟩

theorem rlast_at {w : World} {B b : Nat} {base : Int} {xs : List ByteArray} {v : Value} (h : RefAt w B b base xs v) (hb : 0 ≤ base) (hn : base + xs.length ≤ 9223372036854775807) :
    Calls Try.prog 22 #[.pointer (some ⟨b, 0, none⟩)] w fun e w' => e = .returned (.int .i64 (base + xs.length)) ∧ ∃ n, w' = w.drewN n := by
  have c0 := h.c0
  have c1 := h.c1
  rcases h.shape with ⟨rfl, rfl⟩ | ⟨g, cap, rfl, _⟩
  · exact rlast_cell b base none 0 0 w c0 c1 hb hn
  · exact rlast_cell b base _ _ _ w c0 c1 hb hn

/-- What a call leaves of the document's log. -/
def RefPost (w : World) (B b : Nat) (base : Int) (xs : List ByteArray) (v : Value) (r : Value) (e : Ending) (w' : World) : Prop :=
  e = .returned r ∧ ∃ v', RefAt w' B b base xs v' ∧ Ch (fun k => k = b ∨ v.ownBlock = some k) w w'

set_option maxHeartbeats 400000 in
theorem rappend_full {w : World} {B b : Nat} {base : Int} {xs : List ByteArray} {v : Value} (h : RefAt w B b base xs v) (hl : 4096 ≤ xs.length) (x : ByteArray) :
    Calls Try.prog 10 #[.pointer (some ⟨b, 0, none⟩), .string x] w fun e w' => e = .returned (.tuple #[.int .i64 0, .int .i64 2]) ∧ w = w' := by
  have c0 := h.c0
  obtain ⟨a, c, hv⟩ : ∃ a c, v = .slice a xs.length c := (ownsRow_slice h.own).elim fun a h => h.elim fun c h => ⟨a, c, h.1⟩
  subst hv
  clear h
  have e3 : decide ((4096 : Int) ≤ (xs.length : Int)) = true := by simp; omega
  go_enter Try.func10, Try.ntmps10
  go_wp2
  go_ret2
  exact ⟨rfl, rfl⟩

/-- What the two appends of one thing leave. -/
theorem RefAt.pushed {w w1 w2 : World} {B b : Nat} {base : Int} {xs : List ByteArray} {v v1 : Value} {a' : Option Addr} {c' : Nat} {x : ByteArray} (h : RefAt w B b base xs v) (o : Obj)
    (hown1 : w1.ownsRow B 43 2 v1 xs.length (items base xs)) (hb1 : Ch (fun k => k = b ∨ v.ownBlock = some k) w w1) (hh1 : w1.heap[b]? = w.heap[b]?) (hv1 : ∀ k, v1.ownBlock = some k → k < w.heap.size → v.ownBlock = some k)
    (hown2 : w2.ownsRow B 43 2 (.slice a' (xs.length + 1) c') (xs.length + 1) (items base xs ++ [.int .i64 (base + xs.length + 1), .string x])) (hgrow2 : (w1.alloc o).grownBy w2 v1.ownBlock) :
    w2.heap[b]? = some (.cells #[v, .int .i64 base] 41 (0, 0)) ∧
    RefAt (w2.setCell ⟨b, 0, none⟩ (.slice a' (xs.length + 1) c')) B b base (xs ++ [x]) (.slice a' (xs.length + 1) c') ∧ Ch (fun k => k = b ∨ v.ownBlock = some k) w (w2.setCell ⟨b, 0, none⟩ (.slice a' (xs.length + 1) c')) := by
  have hlt := h.lt
  have hb : w1.heap[b]? = some (.cells #[v, .int .i64 base] 41 (0, 0)) := hh1.trans h.heap
  have hlt1 : b < w1.heap.size := Nat.lt_of_lt_of_le hlt hb1.size
  have hne1 : v1.ownBlock ≠ some b := own_elem hown1 hb (by decide)
  have hb2 : w2.heap[b]? = some (.cells #[v, .int .i64 base] 41 (0, 0)) := by
    rw [hgrow2.block b (by simp; omega) (fun e => hne1 e.symm), Below.heap_alloc _ _ _ hlt1]; exact hb
  refine ⟨hb2, ⟨h.lo, heap_setCell_self _ hb2, ?_⟩, ?_⟩
  · have := ownsRow_setCell_ne hown2 (a := ⟨b, 0, none⟩) (own_elem hown2 hb2 (by decide)) (.slice a' (xs.length + 1) c')
    rw [items_append]
    simpa [items] using this
  · exact (((hb1.alloc o).grown hgrow2 (fun k hk hlt => .inr (hv1 k hk hlt))).setCell ⟨b, 0, none⟩ _ (fun _ => .inl rfl))

set_option maxRecDepth 100000 in
set_option maxHeartbeats 1000000 in
theorem rappend_nil {w : World} {B b : Nat} {base : Int} (h : RefAt w B b base [] (.slice none 0 0)) (hB : B ≤ w.heap.size) (hb : 0 ≤ base) (hn : base + 1 ≤ 9223372036854775807) (x : ByteArray) :
    Calls Try.prog 10 #[.pointer (some ⟨b, 0, none⟩), .string x] w (RefPost w B b base [x] (.slice none 0 0) (.tuple #[.int .i64 (base + 1), .int .i64 0])) := by
  have c0 := h.c0
  have f0 := h.f0 0
  have hbs := h.lt
  have k0 : ∀ (t : Nat) (o : Obj), ((w.drewN t).alloc o).cell? ⟨b, 0, none⟩ = some (.slice none 0 0) := fun t o => (World.cell?_of_block (w := w.drewN t) (Below.heap_alloc _ _ _ hbs)).trans c0
  have HL := Lib.hid (rlast_at h hb (by simp; omega))
  obtain ⟨i0, hi, hz0, hz1, hz2⟩ := info_parts Try.infoItem
  go_enter Try.func10, Try.ntmps10
  go_wp2_with (first
    | (go_at_call 22; refine HL.out.mono ?_; rintro e w' ⟨rfl, m, rfl⟩)
    | (at_builtin; refine wpList_append_own_none rfl (.tmp 17) (.tmp 21) 39 rfl B 43 i0 2 Try.underlying39 hi _ 0 [] rfl (World.ownsRow_made (w.drewN m) #[] 0 hB (Nat.zero_le _) rfl) rfl ?_)
    | (at_builtin; refine wpList_append_own _ rfl (.tmp 22) (.tmp 26) 39 rfl B 43 i0 (.agg #[.int .i64 0, .string ⟨#[]⟩]) 2 24 Try.underlying39 hi hz0 hz1 hz2 rfl (by decide) _ _ _ rfl ((World.ownsRow_made (w.drewN m) #[] 0 hB (Nat.zero_le _) rfl).alloc _) ⟨w.heap.size + 1, 0, none⟩ 1 1 [.int .i64 (base + 1), .string x] rfl rfl ?c1 ?c2 ?c3 ?c4 ?c5 ?_))
  case c1 => exact news2 _ _ _ _ _ (by simp)
  case c2 => intro u hu; simp at hu; rcases hu with rfl | rfl <;> rfl
  case c3 => unfold maxLen; omega
  case c4 => omega
  case c5 => simp; omega
  intro v' w2 hown2 hgrow2 hnil
  clear hnil
  obtain ⟨a', c', rfl⟩ : ∃ a c, v' = .slice a 1 c := (ownsRow_slice hown2).elim fun a h => h.elim fun c h => ⟨a, c, h.1⟩
  have hp := RefAt.pushed (w1 := (w.drewN m).alloc (.cells #[] 43)) (v1 := .slice (some ⟨w.heap.size, 0, none⟩) 0 0) (x := x) h _ (World.ownsRow_made (w.drewN m) #[] 0 hB (Nat.zero_le _) rfl)
    (((Ch.refl _ w).drewN m).alloc _) (Below.heap_alloc _ _ _ hbs) (by intro k hk hlt; simp [Value.ownBlock] at hk; omega) (by simpa [items] using hown2) hgrow2
  have q0 : w2.cell? ⟨b, 0, none⟩ = some (.slice none 0 0) := by simp [World.cell?, hp.1]
  have q1 : w2.frozen? ⟨b, 0, none⟩ = false := by simp [World.frozen?, hp.1]
  have HP := Lib.hid hp
  clear hp hown2 hgrow2 h
  go_wp2
  go_ret2
  exact ⟨rfl, _, HP.out.2⟩

end Go.Proofs.Ytmlffomdlcfcbaa
