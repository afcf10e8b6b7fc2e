import Derived.Test.YtnmooepmpebepaaB
namespace Go.Proofs.Ytnmooepmpebepaa
open Go.RowKit

/-! ### Whole arrays -/
theorem Ch.setRow {F : Nat → Prop} {a b : World} (h : Ch F a b) (g : Nat) (c : Array Value) (hp : g < a.heap.size → F g) : Ch F a (b.setRow g c) :=
  h.trans (F' := fun k => k = g) ⟨rfl, rfl, rfl, by simp [World.setRow], fun k hk hn => by
    simp only [World.setRow]
    rw [Array.getElem?_modify, if_neg (fun e => hn e.symm)]⟩ (fun i hi hf => by subst hf; exact hp hi)

theorem wpList_load_arr {P : Program} {ops : Array Oper} {rest : List Oper} {op : Oper} {a : Act} {w : World} {Q : Exit → Act → World → Prop} (hgd : op.guard = none) (ty : TypeId) (x : Operand) (ho : op.op = .load ty x)
    (g : Nat) (t : TypeId) (cs : Array Value) (h : w.heap[g]? = some (.cells cs t (0, 0))) (n : Nat) (e : TypeId) (hu : P.underlying ty = some (.array n e)) (hi : (P.info? ty).map (·.size) = some cs.size) (hx : a.eval x = .pointer (some ⟨g, 0, none⟩))
    (k : wpList P ops Q rest (a.put op.dst (.agg cs)) w) : wpList P ops Q (op :: rest) a w :=
  wpList_load_row hgd ty x ho g hx t cs (0, 0) _ h hu rfl hi k

theorem wpList_store_arr {P : Program} {ops : Array Oper} {rest : List Oper} {op : Oper} {a : Act} {w : World} {Q : Exit → Act → World → Prop} (hgd : op.guard = none) (ty : TypeId) (x y : Operand) (ho : op.op = .store ty x y)
    (g : Nat) (t : TypeId) (old cs : Array Value) (h : w.heap[g]? = some (.cells old t (0, 0))) (hi : (P.info? ty).map (·.size) = some cs.size) (hold : old.size = cs.size) (h1 : cs.all (·.oneCell') = true)
    (hx : a.eval x = .pointer (some ⟨g, 0, none⟩)) (hy : a.eval y = .agg cs)
    (k : ∀ w', w'.heap[g]? = some (.cells cs t (0, 0)) → Ch (fun k => k = g) w w' → wpList P ops Q rest (a.put op.dst undef) w') : wpList P ops Q (op :: rest) a w :=
  wpList_store_row hgd ty x y ho g cs hx hy t old h hi hold h1 (k _ (setRow_heap w g old cs t (0, 0) h) ((Ch.refl _ w).setRow g cs (fun _ => rfl)))

theorem wcells_one (L : List Int) : (wcells L).toArray.all (·.oneCell') = true := by
  rw [Array.all_eq_true_iff_forall_mem]
  intro v hv
  simp only [wcells, List.mem_toArray, List.mem_map] at hv
  obtain ⟨x, _, rfl⟩ := hv
  rfl

theorem Try.size42 : (Try.prog.info? 42).map (·.size) = some 16 := by kernel_rfl
theorem Try.size36 : (Try.prog.info? 36).map (·.size) = some 8 := by kernel_rfl
theorem size42 {L : List Int} (h : L.length = 16) : (Try.prog.info? 42).map (·.size) = some (wcells L).toArray.size := by rw [Try.size42]; simp [wcells, h]
theorem size36 {L : List Int} (h : L.length = 8) : (Try.prog.info? 36).map (·.size) = some (wcells L).toArray.size := by rw [Try.size36]; simp [wcells, h]

theorem ret_arr {fn : Func} {p : Tmp} {ty : TypeId} (h : fn.results = #[.cell p ty]) {tmps : Array Value} {w : World} (g : Nat) (t : TypeId) (cs : Array Value) (n : Nat) (e : TypeId)
    (hp : tmps.getD p undef = .pointer (some ⟨g, 0, none⟩)) (hg : w.heap[g]? = some (.cells cs t (0, 0))) (hu : Try.prog.underlying ty = some (.array n e)) (hi : (Try.prog.info? ty).map (·.size) = some cs.size) :
    (results fn tmps).run Try.prog w = .ok (.agg cs) w :=
  results_cell_row h tmps w g t cs (0, 0) _ hp hg hu rfl hi

theorem run_index_one {P : Program} {w : World} (t e : TypeId) (n : Nat) (hu : P.underlying t = some (.array n e)) (k : IntKind) (he : P.underlying e = some (.int k)) (hs : (P.info? e).map (·.size) = some 1) (cs : Array Value) (i : Nat) (hi : i < n) (v : Value) (hv : cs[i]? = some v) (z : Int) (hz : z = (i : Int)) :
    (Instr.index t (.agg cs) (.int .i64 z)).run P w = .ok v w := by
  subst hz
  cases hq : P.info? e with
  | none => simp [hq] at hs
  | some i0 =>
    have h1 : i0.size = 1 := by simpa [hq] using hs
    have hagg : (isAgg e).run P w = .ok false w := by
      unfold isAgg
      rw [Sem.run_bind, run_underlying he w]
      rfl
    have hcond : (0 : Int) ≤ (i : Int) ∧ (i : Int) < (n : Int) := by omega
    simp [Instr.index, asIntOf, Sem.run_bind, run_underlying hu w, hcond, sizeOf, typeInfo, hq, h1, part, hagg, hv, Int.toNat_natCast]
    omega
theorem Try.size3 : (Try.prog.info? 3).map (·.size) = some 1 := by kernel_rfl
theorem idx58 (w : World) (cs : Array Value) (i : Nat) (hi : i < 4) (v : Value) (hv : cs[i]? = some v) (z : Int) (hz : z = (i : Int)) : (Instr.index 58 (.agg cs) (.int .i64 z)).run Try.prog w = .ok v w :=
  run_index_one 58 3 4 Try.underlying58 .i64 Try.underlying3 Try.size3 cs i hi v hv z hz

/-- Are four places good: all within, no two the same? -/
def okS (a b c d : Int) : Bool := decide (0 ≤ a ∧ a < 16 ∧ 0 ≤ b ∧ b < 16 ∧ 0 ≤ c ∧ c < 16 ∧ 0 ≤ d ∧ d < 16 ∧ a ≠ b ∧ a ≠ c ∧ b ≠ c ∧ a ≠ d ∧ b ≠ d ∧ c ≠ d)
def stirV (L : List Int) (a b c d : Int) (x y : Int) : List Int := if okS a b c d then stirS L a.toNat b.toNat c.toNat d.toNat x y else L

def ValEnd (w : World) (L : List Int) (e : Ending) (w' : World) : Prop := e = .returned (.agg (wcells L).toArray) ∧ Below w.heap.size w w'

/-- Which of the sixteen places lie among those. -/
def seenL (ps : List Int) : List Value := (List.range 16).map fun (q : Nat) => Value.bool (ps.contains (q : Int))
theorem seenL_at (ps : List Int) (q : Nat) (hq : q < 16) : (seenL ps).toArray[q]? = some (.bool (ps.contains (q : Int))) := by
  simp [seenL, List.getElem?_range hq]
theorem seenL_set (ps : List Int) (q : Nat) (_ : q < 16) : (seenL ps).set q (.bool true) = seenL (ps ++ [(q : Int)]) := by
  apply List.ext_getElem
  · simp [seenL]
  · intro i h1 h2
    have hi : i < 16 := by simpa [seenL] using h2
    rw [List.getElem_set]
    by_cases e : q = i
    · subst e; simp [seenL]
    · rw [if_neg e]
      have : ¬ (i : Int) = (q : Int) := by omega
      simp [seenL, this]

/-- What lies in memory while Stir looks at the places. -/
structure Looking (w : World) (L : List Int) (ps : List Int) (wr : World) : Prop where
  words : Words wr w.heap.size 42 L
  res : wr.heap[w.heap.size + 1]? = some (.cells (wcells (List.replicate 16 0)).toArray 42 (0, 0))
  seen : wr.heap[w.heap.size + 1 + 1]? = some (.cells (seenL ps).toArray 57 (0, 0))
  below : Below w.heap.size w wr
theorem Looking.cell {w wr : World} {L ps : List Int} (h : Looking w L ps wr) (q : Nat) (hq : q < 16) : wr.cell? ⟨w.heap.size + 1 + 1, q, none⟩ = some (.bool (ps.contains (q : Int))) := by
  rw [cell_of_row _ _ _ _ _ _ h.seen]; exact seenL_at ps q hq
theorem Looking.frozen {w wr : World} {L ps : List Int} (h : Looking w L ps wr) (q : Nat) : wr.frozen? ⟨w.heap.size + 1 + 1, q, none⟩ = false := by simp [World.frozen?, h.seen]
theorem Looking.next {w wr : World} {L ps : List Int} (h : Looking w L ps wr) (q : Nat) (hq : q < 16) : Looking w L (ps ++ [(q : Int)]) (wr.setCell ⟨w.heap.size + 1 + 1, q, none⟩ (.bool true)) := by
  have hc : Ch (fun k => k = w.heap.size + 1 + 1) wr (wr.setCell ⟨w.heap.size + 1 + 1, q, none⟩ (.bool true)) := (Ch.refl _ wr).setCell _ _ (fun _ => rfl)
  refine ⟨h.words.ch hc (by omega), (hc.block _ (Array.getElem?_eq_some_iff.1 h.res).1 (by omega)).trans h.res, ?_, h.below.trans (hc.below (by rintro i rfl; omega) h.below.size)⟩
  rw [heap_setCell_self _ h.seen, ← seenL_set ps q hq]
  simp

set_option maxRecDepth 100000 in
set_option maxHeartbeats 8000000 in
theorem bstir_any (w : World) (L : List Int) (hl : L.length = 16) (a b c d : Int) (x y : Int) :
    Calls Try.prog 18 #[.agg (wcells L).toArray, .int .i64 a, .int .i64 b, .int .i64 c, .int .i64 d, .int .u32 x, .int .u32 y] w (ValEnd w (stirV L a b c d x y)) := by
  have hsz : (wcells L).length = 16 := by rw [wcells_length]; exact hl
  obtain ⟨R, hR⟩ : ∃ R, stirV L a b c d x y = R := ⟨_, rfl⟩
  have HR := Lib.hid hR
  have hgood : okS a b c d = true → R = stirS L a.toNat b.toNat c.toNat d.toNat x y := fun h => by rw [← hR, stirV, if_pos h]
  have hbad : ¬ (okS a b c d = true) → R = L := fun h => by rw [← hR, stirV, if_neg h]
  rw [hR]
  have HG := Lib.hid hgood
  have HB := Lib.hid hbad
  clear hR hgood hbad
  go_enter Try.func18, Try.ntmps18
  go_wp2_with fail
  go_loopw [24] (fun i wr => ∃ k : Nat, i = .int .i64 k ∧ ((k = 0 ∧ Looking w L [] wr) ∨ (k = 1 ∧ Looking w L [a] wr ∧ 0 ≤ a ∧ a < 16) ∨ (k = 2 ∧ Looking w L [a, b] wr ∧ 0 ≤ a ∧ a < 16 ∧ 0 ≤ b ∧ b < 16 ∧ a ≠ b) ∨ (k = 3 ∧ Looking w L [a, b, c] wr ∧ 0 ≤ a ∧ a < 16 ∧ 0 ≤ b ∧ b < 16 ∧ a ≠ b ∧ 0 ≤ c ∧ c < 16 ∧ a ≠ c ∧ b ≠ c) ∨ (k = 4 ∧ Looking w L [a, b, c, d] wr ∧ okS a b c d = true))) (fun i _ => 4 - (intOf i).toNat)
  case atStart =>
    refine ⟨0, rfl, .inl ⟨rfl, ⟨⟨?_⟩, ?_, ?_, ?_⟩⟩⟩
    · rw [Below.heap_alloc _ _ _ (by simp only [World.size_alloc]; omega), Below.heap_alloc _ _ _ (by simp only [World.size_alloc]; omega)]; exact heap_alloc_new _ _
    · rw [Below.heap_alloc _ _ _ (by simp only [World.size_alloc]; omega)]
      have := heap_alloc_new (w.alloc (.cells (wcells L).toArray 42)) (.cells (wcells (List.replicate 16 0)).toArray 42)
      simp only [World.size_alloc] at this
      exact this
    · have := heap_alloc_new ((w.alloc (.cells (wcells L).toArray 42)).alloc (.cells (wcells (List.replicate 16 0)).toArray 42)) (.cells (seenL []).toArray 57)
      simp only [World.size_alloc] at this
      exact this
    · exact (((Below.refl _ w).alloc (Nat.le_refl _) _).alloc (by simp only [World.size_alloc]; omega) _).alloc (by simp only [World.size_alloc]; omega) _
  case round =>
    obtain ⟨k, rfl, hk⟩ := hrel
    rcases hk with ⟨rfl, hL⟩ | ⟨rfl, hL, g0⟩ | ⟨rfl, hL, g0⟩ | ⟨rfl, hL, g0⟩ | ⟨rfl, hL, g0⟩
    · have HL := Lib.hid hL
      clear hL
      have qi := fun (w : World) => idx58 w #[.int .i64 a, .int .i64 b, .int .i64 c, .int .i64 d] 0 (by decide) (.int .i64 a) rfl 0 rfl
      by_cases n0 : a < 0
      · have e0 : decide (a < 0) = true := by simpa using n0
        go_wp2_with (first | (refine wpList_load_arr (by rfl) 42 (.tmp 7) (by rfl) w.heap.size 42 _ HL.out.words.heap 16 35 Try.underlying42 (size42 hl) (by rfl) ?_) | (refine wpList_store_arr (by rfl) 42 (.tmp 14) (.tmp 38) (by rfl) (w.heap.size + 1) 42 _ _ HL.out.res (size42 hl) (by simp [wcells, hl]) (wcells_one L) (by rfl) (by rfl) ?_; intro W5 hW5 hC5))
        refine bodyPost_ret (ret_arr rfl (w.heap.size + 1) 42 _ 16 35 (by rfl) hW5 Try.underlying42 (size42 hl)) rfl ?_
        rw [HB.out (by unfold okS; rw [decide_eq_true_iff]; omega)]
        exact ⟨rfl, HL.out.below.trans (hC5.below (by rintro i rfl; omega) HL.out.below.size)⟩
      have e0 : decide (a < 0) = false := by simpa using n0
      by_cases n1 : 16 ≤ a
      · have e1 : decide (16 ≤ a) = true := by simpa using n1
        go_wp2_with (first | (refine wpList_load_arr (by rfl) 42 (.tmp 7) (by rfl) w.heap.size 42 _ HL.out.words.heap 16 35 Try.underlying42 (size42 hl) (by rfl) ?_) | (refine wpList_store_arr (by rfl) 42 (.tmp 14) (.tmp 38) (by rfl) (w.heap.size + 1) 42 _ _ HL.out.res (size42 hl) (by simp [wcells, hl]) (wcells_one L) (by rfl) (by rfl) ?_; intro W5 hW5 hC5))
        refine bodyPost_ret (ret_arr rfl (w.heap.size + 1) 42 _ 16 35 (by rfl) hW5 Try.underlying42 (size42 hl)) rfl ?_
        rw [HB.out (by unfold okS; rw [decide_eq_true_iff]; omega)]
        exact ⟨rfl, HL.out.below.trans (hC5.below (by rintro i rfl; omega) HL.out.below.size)⟩
      have e1 : decide (16 ≤ a) = false := by simpa using n1
      obtain ⟨n, rfl⟩ : ∃ n : Nat, a = n := ⟨a.toNat, by omega⟩
      have hn : n < 16 := by omega
      have p0 : (0 : Int) ≤ (n : Int) := by omega
      have p1 : (n : Int) < 16 := by omega
      have cn := HL.out.cell n hn
      have fn := HL.out.frozen n
      have n2 : (([] : List Int).contains (n : Int)) = false := rfl
      rw [n2] at cn
      clear n2
      go_wp2_with fail
      go_roundw
      case rel =>
        exact ⟨1, rfl, .inr (.inl ⟨rfl, HL.out.next n hn, by omega, by omega⟩)⟩
      case measure => simp [intOf]
    · have HL := Lib.hid hL
      clear hL
      have qi := fun (w : World) => idx58 w #[.int .i64 a, .int .i64 b, .int .i64 c, .int .i64 d] 1 (by decide) (.int .i64 b) rfl 1 rfl
      by_cases n0 : b < 0
      · have e0 : decide (b < 0) = true := by simpa using n0
        go_wp2_with (first | (refine wpList_load_arr (by rfl) 42 (.tmp 7) (by rfl) w.heap.size 42 _ HL.out.words.heap 16 35 Try.underlying42 (size42 hl) (by rfl) ?_) | (refine wpList_store_arr (by rfl) 42 (.tmp 14) (.tmp 38) (by rfl) (w.heap.size + 1) 42 _ _ HL.out.res (size42 hl) (by simp [wcells, hl]) (wcells_one L) (by rfl) (by rfl) ?_; intro W5 hW5 hC5))
        refine bodyPost_ret (ret_arr rfl (w.heap.size + 1) 42 _ 16 35 (by rfl) hW5 Try.underlying42 (size42 hl)) rfl ?_
        rw [HB.out (by unfold okS; rw [decide_eq_true_iff]; omega)]
        exact ⟨rfl, HL.out.below.trans (hC5.below (by rintro i rfl; omega) HL.out.below.size)⟩
      have e0 : decide (b < 0) = false := by simpa using n0
      by_cases n1 : 16 ≤ b
      · have e1 : decide (16 ≤ b) = true := by simpa using n1
        go_wp2_with (first | (refine wpList_load_arr (by rfl) 42 (.tmp 7) (by rfl) w.heap.size 42 _ HL.out.words.heap 16 35 Try.underlying42 (size42 hl) (by rfl) ?_) | (refine wpList_store_arr (by rfl) 42 (.tmp 14) (.tmp 38) (by rfl) (w.heap.size + 1) 42 _ _ HL.out.res (size42 hl) (by simp [wcells, hl]) (wcells_one L) (by rfl) (by rfl) ?_; intro W5 hW5 hC5))
        refine bodyPost_ret (ret_arr rfl (w.heap.size + 1) 42 _ 16 35 (by rfl) hW5 Try.underlying42 (size42 hl)) rfl ?_
        rw [HB.out (by unfold okS; rw [decide_eq_true_iff]; omega)]
        exact ⟨rfl, HL.out.below.trans (hC5.below (by rintro i rfl; omega) HL.out.below.size)⟩
      have e1 : decide (16 ≤ b) = false := by simpa using n1
      obtain ⟨n, rfl⟩ : ∃ n : Nat, b = n := ⟨b.toNat, by omega⟩
      have hn : n < 16 := by omega
      have p0 : (0 : Int) ≤ (n : Int) := by omega
      have p1 : (n : Int) < 16 := by omega
      have cn := HL.out.cell n hn
      have fn := HL.out.frozen n
      by_cases hm : (n : Int) ∈ ([a] : List Int)
      · have n2 : (([a] : List Int).contains (n : Int)) = true := by simpa using hm
        rw [n2] at cn
        simp only [List.mem_cons, List.not_mem_nil, or_false] at hm
        have HM := Lib.hid hm
        clear n2 hm
        go_wp2_with (first | (refine wpList_load_arr (by rfl) 42 (.tmp 7) (by rfl) w.heap.size 42 _ HL.out.words.heap 16 35 Try.underlying42 (size42 hl) (by rfl) ?_) | (refine wpList_store_arr (by rfl) 42 (.tmp 14) (.tmp 38) (by rfl) (w.heap.size + 1) 42 _ _ HL.out.res (size42 hl) (by simp [wcells, hl]) (wcells_one L) (by rfl) (by rfl) ?_; intro W5 hW5 hC5))
        refine bodyPost_ret (ret_arr rfl (w.heap.size + 1) 42 _ 16 35 (by rfl) hW5 Try.underlying42 (size42 hl)) rfl ?_
        rw [HB.out (by unfold okS; rw [decide_eq_true_iff]; have := HM.out; omega)]
        exact ⟨rfl, HL.out.below.trans (hC5.below (by rintro i rfl; omega) HL.out.below.size)⟩
      have n2 : (([a] : List Int).contains (n : Int)) = false := by simpa using hm
      rw [n2] at cn
      simp only [List.mem_cons, List.not_mem_nil, or_false] at hm
      clear n2
      go_wp2_with fail
      go_roundw
      case rel =>
        exact ⟨2, rfl, .inr (.inr (.inl ⟨rfl, HL.out.next n hn, by omega, by omega, by omega, by omega, by omega⟩))⟩
      case measure => simp [intOf]
    · have HL := Lib.hid hL
      clear hL
      have qi := fun (w : World) => idx58 w #[.int .i64 a, .int .i64 b, .int .i64 c, .int .i64 d] 2 (by decide) (.int .i64 c) rfl 2 rfl
      by_cases n0 : c < 0
      · have e0 : decide (c < 0) = true := by simpa using n0
        go_wp2_with (first | (refine wpList_load_arr (by rfl) 42 (.tmp 7) (by rfl) w.heap.size 42 _ HL.out.words.heap 16 35 Try.underlying42 (size42 hl) (by rfl) ?_) | (refine wpList_store_arr (by rfl) 42 (.tmp 14) (.tmp 38) (by rfl) (w.heap.size + 1) 42 _ _ HL.out.res (size42 hl) (by simp [wcells, hl]) (wcells_one L) (by rfl) (by rfl) ?_; intro W5 hW5 hC5))
        refine bodyPost_ret (ret_arr rfl (w.heap.size + 1) 42 _ 16 35 (by rfl) hW5 Try.underlying42 (size42 hl)) rfl ?_
        rw [HB.out (by unfold okS; rw [decide_eq_true_iff]; omega)]
        exact ⟨rfl, HL.out.below.trans (hC5.below (by rintro i rfl; omega) HL.out.below.size)⟩
      have e0 : decide (c < 0) = false := by simpa using n0
      by_cases n1 : 16 ≤ c
      · have e1 : decide (16 ≤ c) = true := by simpa using n1
        go_wp2_with (first | (refine wpList_load_arr (by rfl) 42 (.tmp 7) (by rfl) w.heap.size 42 _ HL.out.words.heap 16 35 Try.underlying42 (size42 hl) (by rfl) ?_) | (refine wpList_store_arr (by rfl) 42 (.tmp 14) (.tmp 38) (by rfl) (w.heap.size + 1) 42 _ _ HL.out.res (size42 hl) (by simp [wcells, hl]) (wcells_one L) (by rfl) (by rfl) ?_; intro W5 hW5 hC5))
        refine bodyPost_ret (ret_arr rfl (w.heap.size + 1) 42 _ 16 35 (by rfl) hW5 Try.underlying42 (size42 hl)) rfl ?_
        rw [HB.out (by unfold okS; rw [decide_eq_true_iff]; omega)]
        exact ⟨rfl, HL.out.below.trans (hC5.below (by rintro i rfl; omega) HL.out.below.size)⟩
      have e1 : decide (16 ≤ c) = false := by simpa using n1
      obtain ⟨n, rfl⟩ : ∃ n : Nat, c = n := ⟨c.toNat, by omega⟩
      have hn : n < 16 := by omega
      have p0 : (0 : Int) ≤ (n : Int) := by omega
      have p1 : (n : Int) < 16 := by omega
      have cn := HL.out.cell n hn
      have fn := HL.out.frozen n
      by_cases hm : (n : Int) ∈ ([a, b] : List Int)
      · have n2 : (([a, b] : List Int).contains (n : Int)) = true := by simpa using hm
        rw [n2] at cn
        simp only [List.mem_cons, List.not_mem_nil, or_false] at hm
        have HM := Lib.hid hm
        clear n2 hm
        go_wp2_with (first | (refine wpList_load_arr (by rfl) 42 (.tmp 7) (by rfl) w.heap.size 42 _ HL.out.words.heap 16 35 Try.underlying42 (size42 hl) (by rfl) ?_) | (refine wpList_store_arr (by rfl) 42 (.tmp 14) (.tmp 38) (by rfl) (w.heap.size + 1) 42 _ _ HL.out.res (size42 hl) (by simp [wcells, hl]) (wcells_one L) (by rfl) (by rfl) ?_; intro W5 hW5 hC5))
        refine bodyPost_ret (ret_arr rfl (w.heap.size + 1) 42 _ 16 35 (by rfl) hW5 Try.underlying42 (size42 hl)) rfl ?_
        rw [HB.out (by unfold okS; rw [decide_eq_true_iff]; have := HM.out; omega)]
        exact ⟨rfl, HL.out.below.trans (hC5.below (by rintro i rfl; omega) HL.out.below.size)⟩
      have n2 : (([a, b] : List Int).contains (n : Int)) = false := by simpa using hm
      rw [n2] at cn
      simp only [List.mem_cons, List.not_mem_nil, or_false, not_or] at hm
      clear n2
      go_wp2_with fail
      go_roundw
      case rel =>
        exact ⟨3, rfl, .inr (.inr (.inr (.inl ⟨rfl, HL.out.next n hn, by omega, by omega, by omega, by omega, by omega, by omega, by omega, by omega, by omega⟩)))⟩
      case measure => simp [intOf]
    · have HL := Lib.hid hL
      clear hL
      have qi := fun (w : World) => idx58 w #[.int .i64 a, .int .i64 b, .int .i64 c, .int .i64 d] 3 (by decide) (.int .i64 d) rfl 3 rfl
      by_cases n0 : d < 0
      · have e0 : decide (d < 0) = true := by simpa using n0
        go_wp2_with (first | (refine wpList_load_arr (by rfl) 42 (.tmp 7) (by rfl) w.heap.size 42 _ HL.out.words.heap 16 35 Try.underlying42 (size42 hl) (by rfl) ?_) | (refine wpList_store_arr (by rfl) 42 (.tmp 14) (.tmp 38) (by rfl) (w.heap.size + 1) 42 _ _ HL.out.res (size42 hl) (by simp [wcells, hl]) (wcells_one L) (by rfl) (by rfl) ?_; intro W5 hW5 hC5))
        refine bodyPost_ret (ret_arr rfl (w.heap.size + 1) 42 _ 16 35 (by rfl) hW5 Try.underlying42 (size42 hl)) rfl ?_
        rw [HB.out (by unfold okS; rw [decide_eq_true_iff]; omega)]
        exact ⟨rfl, HL.out.below.trans (hC5.below (by rintro i rfl; omega) HL.out.below.size)⟩
      have e0 : decide (d < 0) = false := by simpa using n0
      by_cases n1 : 16 ≤ d
      · have e1 : decide (16 ≤ d) = true := by simpa using n1
        go_wp2_with (first | (refine wpList_load_arr (by rfl) 42 (.tmp 7) (by rfl) w.heap.size 42 _ HL.out.words.heap 16 35 Try.underlying42 (size42 hl) (by rfl) ?_) | (refine wpList_store_arr (by rfl) 42 (.tmp 14) (.tmp 38) (by rfl) (w.heap.size + 1) 42 _ _ HL.out.res (size42 hl) (by simp [wcells, hl]) (wcells_one L) (by rfl) (by rfl) ?_; intro W5 hW5 hC5))
        refine bodyPost_ret (ret_arr rfl (w.heap.size + 1) 42 _ 16 35 (by rfl) hW5 Try.underlying42 (size42 hl)) rfl ?_
        rw [HB.out (by unfold okS; rw [decide_eq_true_iff]; omega)]
        exact ⟨rfl, HL.out.below.trans (hC5.below (by rintro i rfl; omega) HL.out.below.size)⟩
      have e1 : decide (16 ≤ d) = false := by simpa using n1
      obtain ⟨n, rfl⟩ : ∃ n : Nat, d = n := ⟨d.toNat, by omega⟩
      have hn : n < 16 := by omega
      have p0 : (0 : Int) ≤ (n : Int) := by omega
      have p1 : (n : Int) < 16 := by omega
      have cn := HL.out.cell n hn
      have fn := HL.out.frozen n
      by_cases hm : (n : Int) ∈ ([a, b, c] : List Int)
      · have n2 : (([a, b, c] : List Int).contains (n : Int)) = true := by simpa using hm
        rw [n2] at cn
        simp only [List.mem_cons, List.not_mem_nil, or_false] at hm
        have HM := Lib.hid hm
        clear n2 hm
        go_wp2_with (first | (refine wpList_load_arr (by rfl) 42 (.tmp 7) (by rfl) w.heap.size 42 _ HL.out.words.heap 16 35 Try.underlying42 (size42 hl) (by rfl) ?_) | (refine wpList_store_arr (by rfl) 42 (.tmp 14) (.tmp 38) (by rfl) (w.heap.size + 1) 42 _ _ HL.out.res (size42 hl) (by simp [wcells, hl]) (wcells_one L) (by rfl) (by rfl) ?_; intro W5 hW5 hC5))
        refine bodyPost_ret (ret_arr rfl (w.heap.size + 1) 42 _ 16 35 (by rfl) hW5 Try.underlying42 (size42 hl)) rfl ?_
        rw [HB.out (by unfold okS; rw [decide_eq_true_iff]; have := HM.out; omega)]
        exact ⟨rfl, HL.out.below.trans (hC5.below (by rintro i rfl; omega) HL.out.below.size)⟩
      have n2 : (([a, b, c] : List Int).contains (n : Int)) = false := by simpa using hm
      rw [n2] at cn
      simp only [List.mem_cons, List.not_mem_nil, or_false, not_or] at hm
      clear n2
      go_wp2_with fail
      go_roundw
      case rel =>
        exact ⟨4, rfl, .inr (.inr (.inr (.inr ⟨rfl, HL.out.next n hn, by unfold okS; rw [decide_eq_true_iff]; omega⟩)))⟩
      case measure => simp [intOf]
    · have ho : 0 ≤ a ∧ a < 16 ∧ 0 ≤ b ∧ b < 16 ∧ 0 ≤ c ∧ c < 16 ∧ 0 ≤ d ∧ d < 16 ∧ a ≠ b ∧ a ≠ c ∧ b ≠ c ∧ a ≠ d ∧ b ≠ d ∧ c ≠ d := by
        unfold okS at g0; rw [decide_eq_true_iff] at g0; exact g0
      have hRR := HG.out g0
      obtain ⟨an, rfl⟩ : ∃ n : Nat, a = n := ⟨a.toNat, by omega⟩
      obtain ⟨bn, rfl⟩ : ∃ n : Nat, b = n := ⟨b.toNat, by omega⟩
      obtain ⟨cn, rfl⟩ : ∃ n : Nat, c = n := ⟨c.toNat, by omega⟩
      obtain ⟨dn, rfl⟩ : ∃ n : Nat, d = n := ⟨d.toNat, by omega⟩
      simp only [Int.toNat_natCast] at hRR
      have hs := stir_any wr w.heap.size 42 L hL.words hl an bn cn dn (by omega) (by omega) (by omega) (by omega) x y
      rw [← hRR] at hs
      have hlR : R.length = 16 := by rw [hRR, stirS_length]; exact hl
      have HL := Lib.hid hL
      have HS := Lib.hid hs
      clear hL hs hRR ho g0
      go_wp2_with fail
      refine HS.out.mono ?_
      rintro e w6 ⟨rfl, hW6, hC6⟩
      have hr6 := (hC6.block _ (Array.getElem?_eq_some_iff.1 HL.out.res).1 (by omega)).trans HL.out.res
      have hb6 := HL.out.below.trans (hC6.below (by rintro i rfl; omega) HL.out.below.size)
      have H6 := Lib.hid (And.intro hW6 (And.intro hr6 hb6))
      clear hW6 hC6 hr6 hb6
      go_wp2_with (first | (refine wpList_load_arr (by rfl) 42 (.tmp 7) (by rfl) w.heap.size 42 _ H6.out.1.heap 16 35 Try.underlying42 (size42 hlR) (by rfl) ?_) | (refine wpList_store_arr (by rfl) 42 (.tmp 14) (.tmp 49) (by rfl) (w.heap.size + 1) 42 _ _ H6.out.2.1 (size42 hlR) (by simp [wcells, hlR]) (wcells_one R) (by rfl) (by rfl) ?_; intro W5 hW5 hC5))
      refine bodyPost_ret (ret_arr rfl (w.heap.size + 1) 42 _ 16 35 (by rfl) hW5 Try.underlying42 (size42 hlR)) rfl ?_
      exact ⟨rfl, H6.out.2.2.trans (hC5.below (by rintro i rfl; omega) H6.out.2.2.size)⟩

end Go.Proofs.Ytnmooepmpebepaa
