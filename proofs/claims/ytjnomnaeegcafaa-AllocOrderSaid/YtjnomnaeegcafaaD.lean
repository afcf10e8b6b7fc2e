import Derived.Test.YtjnomnaeegcafaaC
import Derived.Deep.Upon
namespace Go.Proofs.Ytjnomnaeegcafaa
open Go.RowKit

/-- Only the blocks in F (and new ones) may have turned. -/
structure Ch (F : Nat → Prop) (w w' : World) : Prop where
  os : w'.os = w.os
  tape : w'.tape = w.tape
  output : w'.output = w.output
  size : w.heap.size ≤ w'.heap.size
  block : ∀ k, k < w.heap.size → ¬ F k → w'.heap[k]? = w.heap[k]?

theorem Ch.refl (F : Nat → Prop) (w : World) : Ch F w w := ⟨rfl, rfl, rfl, Nat.le_refl _, fun _ _ _ => rfl⟩
theorem Ch.trans {F F' : Nat → Prop} {a b c : World} (h : Ch F a b) (k : Ch F' b c) (hF : ∀ i, i < a.heap.size → F' i → F i) : Ch F a c :=
  ⟨k.os.trans h.os, k.tape.trans h.tape, k.output.trans h.output, Nat.le_trans h.size k.size, fun i hi hn => (k.block i (Nat.lt_of_lt_of_le hi h.size) (fun hf => hn (hF i hi hf))).trans (h.block i hi hn)⟩
theorem Ch.mono {F F' : Nat → Prop} {a b : World} (h : Ch F a b) (hF : ∀ i, F i → F' i) : Ch F' a b :=
  ⟨h.os, h.tape, h.output, h.size, fun i hi hn => h.block i hi (fun hf => hn (hF i hf))⟩
theorem Ch.of_below {F : Nat → Prop} {a b : World} (h : Below a.heap.size a b) : Ch F a b :=
  ⟨h.os, h.tape, h.output, h.size, fun i hi _ => h.block i hi⟩
theorem Ch.below {F : Nat → Prop} {B : Nat} {a b : World} (h : Ch F a b) (hB : ∀ i, F i → B ≤ i) (hs : B ≤ a.heap.size) : Below B a b :=
  ⟨h.os, h.tape, h.output, h.size, fun i hi => h.block i (by omega) (fun hf => by have := hB i hf; omega)⟩
theorem Ch.drewN {F : Nat → Prop} {a b : World} (h : Ch F a b) (n : Nat) : Ch F a (b.drewN n) := ⟨h.os, h.tape, h.output, h.size, h.block⟩
theorem Ch.alloc {F : Nat → Prop} {a b : World} (h : Ch F a b) (o : Obj) : Ch F a (b.alloc o) :=
  h.trans (F' := fun _ => False) ⟨rfl, rfl, rfl, by simp, fun k hk _ => Below.heap_alloc _ _ _ hk⟩ (fun _ _ hf => hf.elim)
theorem Ch.setCell {F : Nat → Prop} {a b : World} (h : Ch F a b) (p : Addr) (u : Value) (hp : p.block < a.heap.size → F p.block) : Ch F a (b.setCell p u) :=
  h.trans (F' := fun k => k = p.block) ⟨rfl, rfl, rfl, by simp [World.setCell], fun k _ hn => Below.heap_setCell _ _ _ _ hn⟩ (fun i hi hf => by subst hf; exact hp hi)
theorem Ch.grown {F : Nat → Prop} {a b c : World} {row : Option Nat} (h : Ch F a b) (hg : b.grownBy c row) (hr : ∀ k, row = some k → k < a.heap.size → F k) : Ch F a c :=
  h.trans (F' := fun k => row = some k) ⟨hg.os, hg.tape, hg.output, hg.size, fun k hk hn => hg.block k hk (fun e => hn e.symm)⟩ (fun i hi hf => hr i hf hi)

theorem heap_setCell_self {w : World} {b i : Nat} {c : Array Value} {e : TypeId} {f : Nat × Nat} (u : Value) (h : w.heap[b]? = some (.cells c e f)) :
    (w.setCell ⟨b, i, none⟩ u).heap[b]? = some (.cells (c.setIfInBounds i u) e f) := by
  simp [World.setCell, Array.getElem?_modify, h]

theorem heap_setCells_self {b : Nat} {e : TypeId} {f : Nat × Nat} : ∀ (vs pre mid post : List Value) (w : World), mid.length = vs.length → w.heap[b]? = some (.cells (pre ++ mid ++ post).toArray e f) →
    (w.setCells b pre.length vs).heap[b]? = some (.cells (pre ++ vs ++ post).toArray e f)
  | [], pre, mid, post, w, hm, h => by
    obtain rfl : mid = [] := List.eq_nil_of_length_eq_zero hm
    exact h
  | v :: vs, pre, [], post, w, hm, h => by simp at hm
  | v :: vs, pre, m :: mid, post, w, hm, h => by
    have h1 := heap_setCell_self (i := pre.length) v h
    have e1 : (pre ++ m :: mid ++ post).toArray.setIfInBounds pre.length v = ((pre ++ [v]) ++ mid ++ post).toArray := by
      apply Array.toList_inj.1
      simp [Array.toList_setIfInBounds, List.set_append]
    rw [e1] at h1
    have := heap_setCells_self vs (pre ++ [v]) mid post (w.setCell ⟨b, pre.length, none⟩ v) (by simpa using hm) h1
    simp only [List.length_append, List.length_cons, List.length_nil, Nat.zero_add] at this
    simpa [World.setCells] using this

theorem Ch.setCells {F : Nat → Prop} {a : World} {b : Nat} (hb : b < a.heap.size → F b) : ∀ (vs : List Value) (o : Nat) (w : World), Ch F a w → Ch F a (w.setCells b o vs)
  | [], _, _, h => h
  | v :: vs, o, w, h => Ch.setCells hb vs (o + 1) _ (h.setCell ⟨b, o, none⟩ v hb)

/-- A block of moves: those of zs, and what lies behind them. -/
structure Row (w : World) (g cap : Nat) (zs : List Mv) (rest : List Value) : Prop where
  heap : w.heap[g]? = some (.cells (cellsM zs ++ rest).toArray 28 (0, 0))
  size : zs.length * 2 + rest.length = cap * 2

section
variable {w w' : World} {g cap : Nat} {zs : List Mv} {rest : List Value}
theorem Row.lt (h : Row w g cap zs rest) : g < w.heap.size := (Array.getElem?_eq_some_iff.1 h.heap).1
theorem Row.frozen (h : Row w g cap zs rest) (i : Nat) : w.frozen? ⟨g, i, none⟩ = false := by simp [World.frozen?, h.heap]
theorem Row.le (h : Row w g cap zs rest) : zs.length ≤ cap := by have := h.size; omega
theorem Row.ch {F : Nat → Prop} (h : Row w g cap zs rest) (hc : Ch F w w') (hF : ¬ F g) : Row w' g cap zs rest := ⟨(hc.block g h.lt hF).trans h.heap, h.size⟩
theorem Row.there (h : Row w g cap zs rest) (i : Nat) (hi : i < cap * 2) : (w.cell? ⟨g, i, none⟩).isSome = true := by
  have : i < (cellsM zs ++ rest).length := by rw [List.length_append, cellsM_length]; have := h.size; omega
  simp only [World.cell?, h.heap, List.getElem?_toArray, List.getElem?_eq_getElem this]
  rfl
theorem Row.cells (h : Row w g cap zs rest) (i : Nat) (hi : i < zs.length) : w.cell? ⟨g, i * 2, none⟩ = some (.int .i64 (zs.getD i (0, 0)).1) ∧ w.cell? ⟨g, i * 2 + 1, none⟩ = some (.int .i64 (zs.getD i (0, 0)).2) := by
  have hl := cellsM_length zs
  have := cellsM_at zs i hi
  constructor
  · rw [← this.1]
    simp only [World.cell?, h.heap, List.getElem?_toArray]
    rw [List.getElem?_append_left (by omega)]
    rfl
  · rw [← this.2]
    simp only [World.cell?, h.heap, List.getElem?_toArray]
    rw [List.getElem?_append_left (by omega)]
    rfl
theorem Row.reads (h : Row w g cap zs rest) (n : Nat) (hn : n ≤ zs.length) : ReadsM w (.slice (some ⟨g, 0, none⟩) n cap) (zs.take n) := by
  have e : (zs.take n).length = n := by simp; omega
  refine ⟨some ⟨g, 0, none⟩, cap, by rw [e], ?_, ?_⟩
  · intro h0; cases h0
  refine fun _ => ⟨g, 0, rfl, h.lt, fun i hi => ?_⟩
  have := h.cells i (by omega)
  have e2 : (zs.take n).getD i (0, 0) = zs.getD i (0, 0) := by simp [List.getD, List.getElem?_take, show i < n by omega]
  rw [e2, Nat.zero_add]
  exact this
theorem Row.own {B : Nat} (h : Row w g cap zs rest) (hB : B ≤ g) (n : Nat) (hn : n ≤ zs.length) (hm : cap ≤ maxLen) : w.ownsRow B 28 2 (.slice (some ⟨g, 0, none⟩) n cap) n (cellsM (zs.take n)) := by
  have e : (zs.take n).length = n := by simp; omega
  refine ⟨by rw [cellsM_length, e], .inr ⟨g, cap, _, rfl, hB, h.heap, by have := h.le; omega, hm, ?_, ?_⟩⟩
  · simp only [List.size_toArray, List.length_append, cellsM_length]; exact h.size
  · have e2 : cellsM zs = cellsM (zs.take n) ++ cellsM (zs.drop n) := by rw [← cellsM_append, List.take_append_drop]
    rw [e2, List.append_assoc]
    have : n * 2 = (cellsM (zs.take n)).length := by rw [cellsM_length, e]
    rw [this]
    simp
end

/-- An owned row of moves, as a block. -/
theorem row_of_own {w : World} {B n : Nat} {v : Value} {zs : List Mv} (h : w.ownsRow B 28 2 v n (cellsM zs)) : (v = .slice none 0 0 ∧ n = 0 ∧ zs = []) ∨ ∃ g cap rest, v = .slice (some ⟨g, 0, none⟩) n cap ∧ B ≤ g ∧ cap ≤ maxLen ∧ zs.length = n ∧ Row w g cap zs rest := by
  obtain ⟨h1, h2⟩ := h
  rw [cellsM_length] at h1
  rcases h2 with ⟨hv, hn⟩ | ⟨g, cap, cur, hv, hg, hh, hle, hm, hs, ht⟩
  · exact .inl ⟨hv, hn, List.eq_nil_of_length_eq_zero (by omega)⟩
  · refine .inr ⟨g, cap, cur.toList.drop (n * 2), hv, hg, hm, by omega, ?_, ?_⟩
    · rw [← ht, List.take_append_drop]; exact hh
    · simp only [List.length_drop, Array.length_toList, hs]; omega

/-- One move is written over. -/
theorem Row.set {w : World} {g cap : Nat} {zs : List Mv} {rest : List Value} (h : Row w g cap zs rest) (i : Nat) (hi : i < zs.length) (m : Mv) :
    Row ((w.setCell ⟨g, i * 2, none⟩ (.int .i64 m.1)).setCell ⟨g, i * 2 + 1, none⟩ (.int .i64 m.2)) g cap (zs.set i m) rest := by
  have e0 : zs = zs.take i ++ [zs[i]] ++ zs.drop (i + 1) := by simp
  have e1 : zs.set i m = zs.take i ++ [m] ++ zs.drop (i + 1) := by
    rw [List.set_eq_take_append_cons_drop, if_pos hi]; simp
  have hl : (cellsM (zs.take i)).length = i * 2 := by rw [cellsM_length]; simp; omega
  have hh := h.heap
  rw [e0, cellsM_append, cellsM_append, List.append_assoc, List.append_assoc] at hh
  have := heap_setCells_self (b := g) [.int .i64 m.1, .int .i64 m.2] (cellsM (zs.take i)) (cellsM [zs[i]]) (cellsM (zs.drop (i + 1)) ++ rest) w (by simp [cellsM]) (by simpa using hh)
  rw [hl] at this
  refine ⟨?_, by rw [List.length_set]; exact h.size⟩
  rw [e1, cellsM_append, cellsM_append]
  simpa [World.setCells, cellsM] using this

/-- All behind some place is written over. -/
theorem Row.over {w : World} {g cap : Nat} {zs : List Mv} {rest : List Value} (h : Row w g cap zs rest) (i : Nat) (ys : List Mv) (hi : i + ys.length ≤ zs.length) :
    Row (w.setCells g (i * 2) (cellsM ys)) g cap (zs.take i ++ ys ++ zs.drop (i + ys.length)) rest := by
  have e0 : zs = zs.take i ++ (zs.drop i).take ys.length ++ zs.drop (i + ys.length) := by
    rw [List.append_assoc, ← List.drop_drop, List.take_append_drop, List.take_append_drop]
  have hl : (cellsM (zs.take i)).length = i * 2 := by rw [cellsM_length]; simp; omega
  have hh := h.heap
  rw [e0, cellsM_append, cellsM_append, List.append_assoc, List.append_assoc] at hh
  have := heap_setCells_self (b := g) (cellsM ys) (cellsM (zs.take i)) (cellsM ((zs.drop i).take ys.length)) (cellsM (zs.drop (i + ys.length)) ++ rest) w (by simp only [cellsM_length, List.length_take, List.length_drop]; omega) (by simpa using hh)
  rw [hl] at this
  refine ⟨?_, ?_⟩
  · rw [cellsM_append, cellsM_append]
    simpa using this
  · have := h.size
    simp only [List.length_append, List.length_take, List.length_drop]
    omega

/-- 'clear(s)' at moves. -/
theorem run_clear2 (w : World) (b o n c : Nat) (hn : 0 < n)
    (hc : ∀ j, j < n * 2 → (w.cell? ⟨b, o + j, none⟩).isSome = true) (hf : ∀ j, j < n * 2 → w.frozen? ⟨b, o + j, none⟩ = false) (ty : TypeId) :
    (Builtin.clear_ #[22] ty #[.slice (some ⟨b, o, none⟩) n c]).run Try.prog w = .ok (.tuple #[]) (w.setCells b o (cellsM (List.replicate n (0, 0)))) := by
  have hv : ∀ w, (zeroValue 28).run Try.prog w = .ok (.agg #[.int .i64 0, .int .i64 0]) w := fun w => by kernel_rfl
  have hzc : (Builtin.zeroCells (Value.agg #[.int .i64 0, .int .i64 0]).cells n).toList = cellsM (List.replicate n (0, 0)) := by
    have e1 : cellsM (List.replicate n (0, 0)) = List.replicate (n * 2) (.int .i64 0) := by
      clear hn hc hf
      induction n with
      | zero => rfl
      | succ n ih => rw [List.replicate_succ, cellsM_cons, ih, show (n + 1) * 2 = (n * 2) + 1 + 1 by omega, List.replicate_succ, List.replicate_succ]; rfl
    rw [e1]
    apply List.ext_getElem
    · simp [Builtin.zeroCells, Value.cells]
    · intro i h1 h2
      have : i % 2 = 0 ∨ i % 2 = 1 := by omega
      rcases this with h | h <;> simp [Builtin.zeroCells, Value.cells, h]
  have hst := run_storeCells_cells (P := Try.prog) b o (cellsM (List.replicate n (0, 0))) 0 w (by simpa [cellsM_length] using hc) (by simpa [cellsM_length] using hf) (cellsM_one _)
  simp only [Nat.add_zero] at hst
  obtain ⟨m, rfl⟩ : ∃ m, n = m + 1 := ⟨n - 1, by omega⟩
  simp [Builtin.clear_, run_underlying Try.underlying22, hv, hzc, hst]

end Go.Proofs.Ytjnomnaeegcafaa
