import Derived.Test.YtjnomnaeegcafaaG
import Derived.Laws.EntriesVeiled
namespace Go.Proofs.Ytjnomnaeegcafaa
open Go.RowKit Go.Shelf

theorem order_bad (w : World) (v : Value) (xs : List Mv) (spare : Int) (hr : ReadsM w v xs) (hl : xs.length * 16 ≤ 140737488355328) (hm : mayB xs spare = false) :
    Calls Try.prog 8 #[v, .int .i64 spare] w fun e w' => e = .returned (.tuple #[.slice none 0 0, .int .i64 1]) ∧ Below w.heap.size w w' := by
  have L := Lib.hid (may_any w v xs spare hr (by omega))
  rw [hm] at L
  clear hr hm
  go_enter Try.func8, Try.ntmps8
  go_wp2_with (first | (go_at_call 17; refine L.out.mono ?_; rintro e w1 ⟨rfl, hb1⟩))
  go_ret2
  exact ⟨rfl, hb1⟩

/-- What lies in the box of the moves that are left. -/
def Left (w : World) (B b6 : Nat) (left : List Mv) (vo : Value) (v : Value) : Prop :=
  w.heap[b6]? = some (.cells #[v] 22 (0, 0)) ∧ ((v = .slice none 0 0 ∧ left = []) ∨
    ∃ g cap rest zs, v = .slice (some ⟨g, 0, none⟩) left.length cap ∧ Row w g cap zs rest ∧ zs.take left.length = left ∧ left.length ≤ zs.length ∧ zs.length ≤ 31 ∧ cap ≤ maxLen ∧ B ≤ g ∧ vo.ownBlock ≠ some g)

theorem Left.reads {w : World} {B b6 : Nat} {left : List Mv} {vo v : Value} (h : Left w B b6 left vo v) : ReadsM w v left := by
  rcases h.2 with ⟨rfl, rfl⟩ | ⟨g, cap, rest, zs, rfl, hR, ht, hle, _⟩
  · exact ⟨none, 0, rfl, fun _ => ⟨rfl, rfl⟩, fun h => by simp at h⟩
  · have := hR.reads left.length hle
    rw [ht] at this
    exact this

theorem Left.ch {F : Nat → Prop} {w w' : World} {B b6 : Nat} {left : List Mv} {vo v : Value} (h : Left w B b6 left vo v) (hc : Ch F w w') (h6 : ¬ F b6) (hg : ∀ g, v.ownBlock = some g → ¬ F g) : Left w' B b6 left vo v := by
  refine ⟨(hc.block b6 (Array.getElem?_eq_some_iff.1 h.1).1 h6).trans h.1, ?_⟩
  rcases h.2 with h' | ⟨g, cap, rest, zs, rfl, hR, r⟩
  · exact .inl h'
  · exact .inr ⟨g, cap, rest, zs, rfl, hR.ch hc (hg g rfl), r⟩

/-- The state of the loop: what is left, what has come, and how many rounds may still come. -/
structure Going (w : World) (b6 b7 : Nat) (spare : Int) (total : List Mv) (k : Nat) (vo : Value) (wr : World) (left out : List Mv) (v : Value) : Prop where
  lft : Left wr w.heap.size b6 left vo v
  box7 : wr.heap[b7]? = some (.cells #[.func (.func 21) #[] #[.pointer (some ⟨b6, 0, none⟩)]] 41 (0, 0))
  own : wr.ownsRow w.heap.size 28 2 vo out.length (cellsM out)
  below : Below w.heap.size w wr
  lo6 : w.heap.size ≤ b6
  lo7 : w.heap.size ≤ b7
  wf : WF spare left
  mu : mu spare left ≤ k
  eq : orderF spare k left out = total
  len : out.length + k ≤ 63

theorem own_elem {w : World} {B : Nat} {e e' : TypeId} {size : Nat} {v : Value} {n : Nat} {xs : List Value} {b : Nat} {c : Array Value} {f : Nat × Nat} (h : w.ownsRow B e size v n xs) (hb : w.heap[b]? = some (.cells c e' f)) (hne : e' ≠ e) : v.ownBlock ≠ some b := by
  intro hv
  rcases h.2 with ⟨rfl, _⟩ | ⟨g, cap, cur, rfl, _, hh, _⟩
  · cases hv
  · simp [Value.ownBlock] at hv
    subst hv
    rw [hh] at hb
    simp at hb
    exact hne hb.2.1.symm

theorem own_ch {F : Nat → Prop} {w w' : World} {B : Nat} {e : TypeId} {size : Nat} {v : Value} {n : Nat} {xs : List Value} (h : w.ownsRow B e size v n xs) (hc : Ch F w w') (hv : ∀ g, v.ownBlock = some g → ¬ F g) : w'.ownsRow B e size v n xs := by
  refine ⟨h.1, ?_⟩
  rcases h.2 with h' | ⟨g, cap, cur, rfl, hg, hh, r⟩
  · exact .inl h'
  · exact .inr ⟨g, cap, cur, rfl, hg, (hc.block g (Array.getElem?_eq_some_iff.1 hh).1 (hv g rfl)).trans hh, r⟩

section
variable {w wr : World} {b6 b7 : Nat} {spare : Int} {total : List Mv} {k : Nat} {vo v : Value} {left out : List Mv}

theorem Left.lt (h : Left w k b6 left vo v) : b6 < w.heap.size := (Array.getElem?_eq_some_iff.1 h.1).1
theorem Left.c0 (h : Left w k b6 left vo v) : w.cell? ⟨b6, 0, none⟩ = some v := by simp [World.cell?, h.1]
theorem Left.f0 (h : Left w k b6 left vo v) : w.frozen? ⟨b6, 0, none⟩ = false := by simp [World.frozen?, h.1]
theorem Left.ne (h : Left w k b6 left vo v) (g : Nat) (hg : v.ownBlock = some g) : vo.ownBlock ≠ some g := by
  rcases h.2 with ⟨rfl, _⟩ | ⟨g', cap, rest, zs, rfl, _, _, _, _, _, _, hne⟩
  · cases hg
  · simp [Value.ownBlock] at hg; subst hg; exact hne
theorem Left.own_lt (h : Left w k b6 left vo v) (g : Nat) (hg : v.ownBlock = some g) : g < w.heap.size := by
  rcases h.2 with ⟨rfl, _⟩ | ⟨g', cap, rest, zs, rfl, hR, _⟩
  · cases hg
  · simp [Value.ownBlock] at hg; subst hg; exact hR.lt
theorem Left.other {vo' : Value} (h : Left w k b6 left vo v) (hn : ∀ g, v.ownBlock = some g → vo'.ownBlock ≠ some g) : Left w k b6 left vo' v := by
  refine ⟨h.1, ?_⟩
  rcases h.2 with h' | ⟨g', cap, rest, zs, rfl, h1, h2, h3, h4, h5, h6, _⟩
  · exact .inl h'
  · exact .inr ⟨g', cap, rest, zs, rfl, h1, h2, h3, h4, h5, h6, hn g' rfl⟩

theorem Going.c7 (h : Going w b6 b7 spare total k vo wr left out v) : wr.cell? ⟨b7, 0, none⟩ = some (.func (.func 21) #[] #[.pointer (some ⟨b6, 0, none⟩)]) := by simp [World.cell?, h.box7]

/-- New blocks alone. -/
theorem Going.above {w' : World} (h : Going w b6 b7 spare total k vo wr left out v) (hb : Below wr.heap.size wr w') : Going w b6 b7 spare total k vo w' left out v :=
  ⟨h.lft.ch (F := fun _ => False) (Ch.of_below hb) (by simp) (by simp), (hb.block b7 (Array.getElem?_eq_some_iff.1 h.box7).1).trans h.box7, own_ch (F := fun _ => False) h.own (Ch.of_below hb) (by simp), h.below.trans (hb.mono h.below.size), h.lo6, h.lo7, h.wf, h.mu, h.eq, h.len⟩

/-- One move more has come. -/
theorem Going.push (h : Going w b6 b7 spare total k vo wr left out v) (m : Mv) {vo' : Value} {w1 : World} (hown : w1.ownsRow w.heap.size 28 2 vo' (out.length + 1) (cellsM out ++ [.int .i64 m.1, .int .i64 m.2]))
    (hg : (wr.alloc (.cells #[.int .i64 m.1, .int .i64 m.2] 28)).grownBy w1 vo.ownBlock) (hloc : vo'.ownBlock = vo.ownBlock ∨ vo'.ownBlock = some (wr.alloc (.cells #[.int .i64 m.1, .int .i64 m.2] 28)).heap.size) :
    Left w1 w.heap.size b6 left vo' v ∧ w1.heap[b7]? = some (.cells #[.func (.func 21) #[] #[.pointer (some ⟨b6, 0, none⟩)]] 41 (0, 0)) ∧ w1.ownsRow w.heap.size 28 2 vo' (out ++ [m]).length (cellsM (out ++ [m])) ∧ Below w.heap.size w w1 := by
  have hc : Ch (fun k => vo.ownBlock = some k) wr w1 := ((Ch.refl _ wr).alloc _).grown hg (fun k hk _ => hk)
  have h6 : ¬ vo.ownBlock = some b6 := own_elem h.own h.lft.1 (by decide)
  have h7 : ¬ vo.ownBlock = some b7 := own_elem h.own h.box7 (by decide)
  refine ⟨(h.lft.ch hc h6 (fun g hg' => h.lft.ne g hg')).other ?_, (hc.block b7 (Array.getElem?_eq_some_iff.1 h.box7).1 h7).trans h.box7, ?_, h.below.trans (hc.below (fun i hi => (h.own.lt i hi).1) h.below.size)⟩
  · intro g hg'
    have hlt := h.lft.own_lt g hg'
    rcases hloc with e | e
    · rw [e]; exact h.lft.ne g hg'
    · rw [e]; simp; omega
  · rw [cellsM_append, List.length_append]
    exact hown
end

theorem Row.set1 {w : World} {g cap : Nat} {zs : List Mv} {rest : List Value} (h : Row w g cap zs rest) (i : Nat) (hi : i < zs.length) (a : Int) :
    Row (w.setCell ⟨g, i * 2, none⟩ (.int .i64 a)) g cap (zs.set i (a, (zs.getD i (0, 0)).2)) rest := by
  have e0 : zs = zs.take i ++ [zs[i]] ++ zs.drop (i + 1) := by simp
  have hgd : zs.getD i (0, 0) = zs[i] := by simp [List.getD, List.getElem?_eq_getElem hi]
  have e1 : zs.set i (a, (zs.getD i (0, 0)).2) = zs.take i ++ [(a, zs[i].2)] ++ zs.drop (i + 1) := by
    rw [List.set_eq_take_append_cons_drop, if_pos hi, hgd]; simp
  have hl : (cellsM (zs.take i)).length = i * 2 := by rw [cellsM_length]; simp; omega
  have hh := h.heap
  rw [e0, cellsM_append, cellsM_append, List.append_assoc, List.append_assoc] at hh
  have := heap_setCells_self (b := g) [.int .i64 a] (cellsM (zs.take i)) [.int .i64 zs[i].1] ([.int .i64 zs[i].2] ++ cellsM (zs.drop (i + 1)) ++ rest) w rfl (by simpa [cellsM] using hh)
  rw [hl] at this
  refine ⟨?_, by rw [List.length_set]; exact h.size⟩
  rw [e1, cellsM_append, cellsM_append]
  simpa [World.setCells, cellsM] using this

/-- The first i of the moves have been turned. -/
def bk (x spare : Int) (l : List Mv) (i : Nat) : List Mv := brk x spare (l.take i) ++ l.drop i
theorem bk_zero (x spare : Int) (l : List Mv) : bk x spare l 0 = l := by simp [bk, brk]
theorem bk_full (x spare : Int) (l : List Mv) : bk x spare l l.length = brk x spare l := by simp [bk]
theorem bk_length (x spare : Int) (l : List Mv) (i : Nat) : (bk x spare l i).length = l.length := by simp [bk, brk]; omega
theorem bk_at (x spare : Int) (l : List Mv) (i : Nat) (hi : i < l.length) : (bk x spare l i).getD i (0, 0) = l.getD i (0, 0) := by
  have hl : (brk x spare (l.take i)).length = i := by simp [brk]; omega
  simp only [bk, List.getD]
  rw [List.getElem?_append_right (by omega), hl]
  simp
theorem bk_succ (x spare : Int) (l : List Mv) (i : Nat) (hi : i < l.length) : bk x spare l (i + 1) = (bk x spare l i).set i (if (l.getD i (0, 0)).1 = x then (spare, (l.getD i (0, 0)).2) else l.getD i (0, 0)) := by
  have hl : (brk x spare (l.take i)).length = i := by simp [brk]; omega
  have hgd : l.getD i (0, 0) = l[i] := by simp [List.getD, List.getElem?_eq_getElem hi]
  have e2 : brk x spare (l.take (i + 1)) = brk x spare (l.take i) ++ [if l[i].1 = x then (spare, l[i].2) else l[i]] := by
    rw [List.take_succ_eq_append_getElem hi]; simp only [brk, List.map_append, List.map_cons, List.map_nil]
  simp only [bk]
  rw [e2, List.set_append_right _ _ (by omega), hl, Nat.sub_self, List.drop_eq_getElem_cons hi, List.set_cons_zero, hgd]
  simp

end Go.Proofs.Ytjnomnaeegcafaa
