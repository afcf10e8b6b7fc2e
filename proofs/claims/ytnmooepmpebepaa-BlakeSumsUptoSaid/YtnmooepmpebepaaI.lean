import Derived.Test.YtnmooepmpebepaaG
namespace Go.Proofs.Ytnmooepmpebepaa
open Go.RowKit

/-! ### The hasher, in plain words -/
def bcells (L : List Int) : List Value := L.map (Value.int .u8)
theorem bcells_length (L : List Int) : (bcells L).length = L.length := by simp [bcells]
theorem bcells_one (L : List Int) : ∀ v ∈ bcells L, v.oneCell' = true := by
  intro v hv
  simp only [bcells, List.mem_map] at hv
  obtain ⟨x, _, rfl⟩ := hv
  rfl
theorem bcells_at (L : List Int) (i : Nat) (hi : i < L.length) : (bcells L)[i]? = some (.int .u8 (st L i)) := by
  simp [bcells, st, List.getD, List.getElem?_eq_getElem hi]

def w64 (x : Int) : Int := IntKind.u64.wrap x
theorem wrap_u64 (x : Int) : IntKind.u64.wrap x = x % 18446744073709551616 := by
  simp [IntKind.wrap, IntKind.bits, IntKind.signed]
theorem w64_add (x y : Int) : w64 (w64 x + y) = w64 (x + y) := by simp only [w64, wrap_u64]; omega
theorem w64_add2 (x y : Int) : w64 (x + w64 y) = w64 (x + y) := by simp only [w64, wrap_u64]; omega

def h0S : List Int := iv.set 0 (xr (st iv 0) 16842784)
/-- The words behind the first k blocks. -/
def chainS (msg : List Int) : Nat → List Int
  | 0 => h0S
  | k + 1 => workS (chainS msg k) ((msg.drop (64 * k)).take 64) (w64 ((64 * (k + 1) : Nat) : Int)) false
def padS (b : List Int) : List Int := b ++ List.replicate (64 - b.length) 0
/-- How many blocks lie before the last one. -/
def fullS (n : Nat) : Nat := (n - 1) / 64
def digestW (msg : List Int) : List Int := workS (chainS msg (fullS msg.length)) (padS (msg.drop (64 * fullS msg.length))) (w64 ((msg.length : Nat) : Int)) true
/-- The bytes of eight words. -/
def outB (H : List Int) : List Int := (List.range 32).map fun i => IntKind.u8.wrap (st H (i / 4) / 2 ^ (8 * (i % 4)))
def sumS (msg : List Int) : List Int := outB (digestW msg)

structure HS where
  h : List Int
  held : List Int
  n : Nat
  all : Int
def hcells (s : HS) : List Value := wcells s.h ++ (bcells s.held ++ [.int .i64 (s.n : Int), .int .u64 s.all])
/-- The hasher has been given these bytes. -/
structure Inv (s : HS) (msg : List Int) : Prop where
  lh : s.h.length = 8
  lheld : s.held.length = 64
  le : s.n ≤ 64
  eq : ∃ k, msg.length = 64 * k + s.n ∧ (s.n = 0 → k = 0) ∧ s.all = w64 ((64 * k : Nat) : Int) ∧ s.h = chainS msg k ∧ s.held.take s.n = msg.drop (64 * k)
def flushS (s : HS) : HS := if s.n = 64 then ⟨workS s.h s.held (w64 (s.all + 64)) false, s.held, 0, w64 (s.all + 64)⟩ else s
def takeS (s : HS) (b : List Int) (c : Nat) : HS := ⟨s.h, splice s.held s.n (b.take c), s.n + c, s.all⟩

theorem chainS_length (msg : List Int) (k : Nat) : (chainS msg k).length = 8 := by
  cases k with
  | zero => rfl
  | succ k => exact workS_length _ _ _ _
theorem chainS_app (msg x : List Int) : ∀ k, 64 * k ≤ msg.length → chainS (msg ++ x) k = chainS msg k
  | 0, _ => rfl
  | k + 1, h => by
    simp only [chainS]
    rw [chainS_app msg x k (by omega), List.drop_append_of_le_length (by omega), List.take_append_of_le_length (by simp; omega)]

theorem inv_new : Inv ⟨h0S, List.replicate 64 0, 0, 0⟩ [] :=
  ⟨rfl, by simp, by simp, 0, rfl, fun _ => rfl, by decide, rfl, rfl⟩

/-- What Add does in one round keeps the promise. -/
theorem inv_take {s : HS} {msg b : List Int} (h : Inv s msg) (hb : 0 < b.length) : Inv (takeS (flushS s) b (min b.length (64 - (flushS s).n))) (msg ++ b.take (min b.length (64 - (flushS s).n))) ∧ (flushS s).n < 64 ∧ 0 < min b.length (64 - (flushS s).n) := by
  obtain ⟨lh, lheld, le, k, hk, hz, hall, hh, hheld⟩ := h
  by_cases h64 : s.n = 64
  · have hf : flushS s = ⟨workS s.h s.held (w64 (s.all + 64)) false, s.held, 0, w64 (s.all + 64)⟩ := by unfold flushS; rw [if_pos h64]
    rw [hf]
    simp only [Nat.sub_zero]
    obtain ⟨c, hc⟩ : ∃ c, min b.length 64 = c := ⟨_, rfl⟩
    rw [hc]
    have hcl : (b.take c).length = c := by simp; omega
    have hheld' : s.held = msg.drop (64 * k) := by rw [← hheld, h64, List.take_of_length_le (by omega)]
    refine ⟨⟨workS_length _ _ _ _, ?_, by show 0 + c ≤ 64; omega, k + 1, ?_, ?_, ?_, ?_, ?_⟩, by show (0 : Nat) < 64; omega, by omega⟩
    · show (splice s.held 0 (b.take c)).length = 64
      rw [length_splice _ _ _ (by omega)]; exact lheld
    · show (msg ++ b.take c).length = 64 * (k + 1) + (0 + c)
      rw [List.length_append, hcl]; omega
    · intro h0; have : 0 + c = 0 := h0; omega
    · show w64 (s.all + 64) = _
      rw [hall, w64_add]; congr 1
    · show workS s.h s.held (w64 (s.all + 64)) false = chainS _ (k + 1)
      simp only [chainS]
      rw [chainS_app msg _ k (by omega), List.drop_append_of_le_length (by omega), List.take_append_of_le_length (by simp; omega), ← hheld', List.take_of_length_le (by omega), ← hh, hall, w64_add]
      congr 1
    · show (splice s.held 0 (b.take c)).take (0 + c) = _
      simp only [splice, List.take_zero, List.nil_append, Nat.zero_add]
      rw [List.take_append_of_le_length (by omega), List.take_of_length_le (by omega), List.drop_append_of_le_length (by omega), List.drop_of_length_le (by omega)]
      rfl
  · have hf : flushS s = s := by unfold flushS; rw [if_neg h64]
    rw [hf]
    obtain ⟨c, hc⟩ : ∃ c, min b.length (64 - s.n) = c := ⟨_, rfl⟩
    rw [hc]
    have hcl : (b.take c).length = c := by simp; omega
    refine ⟨⟨lh, ?_, by show s.n + c ≤ 64; omega, k, ?_, ?_, hall, ?_, ?_⟩, by omega, by omega⟩
    · show (splice s.held s.n (b.take c)).length = 64
      rw [length_splice _ _ _ (by omega)]; exact lheld
    · show (msg ++ b.take c).length = 64 * k + (s.n + c)
      rw [List.length_append, hcl]; omega
    · intro h0; have : s.n + c = 0 := h0; omega
    · show s.h = chainS _ k
      rw [chainS_app msg _ k (by omega)]; exact hh
    · show (splice s.held s.n (b.take c)).take (s.n + c) = _
      simp only [splice]
      rw [← List.append_assoc, List.take_append_of_le_length (by rw [List.length_append, List.length_take]; omega), List.take_of_length_le (by rw [List.length_append, List.length_take]; omega), hheld, List.drop_append_of_le_length (by omega)]

/-- The digest hangs on what was given alone. -/
theorem inv_digest {s : HS} {msg : List Int} (h : Inv s msg) : workS s.h (padS (s.held.take s.n)) (w64 (s.all + w64 (s.n : Int))) true = digestW msg := by
  obtain ⟨lh, lheld, le, k, hk, hz, hall, hh, hheld⟩ := h
  have hf : fullS msg.length = k := by
    unfold fullS
    by_cases h0 : s.n = 0
    · have := hz h0; omega
    · omega
  unfold digestW
  rw [hf, hheld, hh, hall, w64_add2, w64_add, hk]
  congr 1

/-! ### One cell of a block is written -/
theorem wpList_store_cell {P : Program} {ops : Array Oper} {rest : List Oper} {op : Oper} {a : Act} {w : World} {Q : Exit → Act → World → Prop} (hgd : op.guard = none) (hd : op.dst = none) (e : TypeId) (x y : Operand) (ho : op.op = .store e x y)
    (hi : (P.info? e).map (·.size) = some 1) (g : Nat) (t : TypeId) (cs : List Value) (h : w.heap[g]? = some (.cells cs.toArray t (0, 0))) (i : Nat) (hil : i < cs.length) (v : Value) (h1 : v.oneCell' = true) (hx : a.eval x = .pointer (some ⟨g, i, none⟩)) (hy : a.eval y = v)
    (k : ∀ w', w'.heap[g]? = some (.cells (cs.set i v).toArray t (0, 0)) → Ch (fun k => k = g) w w' → wpList P ops Q rest a w') : wpList P ops Q (op :: rest) a w := by
  refine wpList_plain hgd fun K hK => ?_
  have hc : w.cell? ⟨g, i, none⟩ = some cs[i] := by rw [cell_of_row _ _ _ _ _ _ h]; simp [List.getElem?_eq_getElem hil]
  have hfz : w.frozen? ⟨g, i, none⟩ = false := by simp [World.frozen?, h]
  have hst : (storeVar e ⟨g, i, none⟩ v).run P w = .ok () (w.setCell ⟨g, i, none⟩ v) := by
    cases hq : P.info? e with
    | none => simp [hq] at hi
    | some i0 => exact Go.Lib.rl_storeVar_one e i0 hq (by simpa [hq] using hi) ⟨g, i, none⟩ _ _ h1 w hc hfz
  unfold Oper.wp execOp
  simp only [ho, hx, hy, Instr.storeAt, Instr.sureAddr, Sem.run_bind, Sem.run_pure, Result.andThen_ok, hst]
  have hw : (w.setCell ⟨g, i, none⟩ v).heap[g]? = some (.cells (cs.set i v).toArray t (0, 0)) := by
    rw [heap_setCell_self _ h]
    simp
  have h2 := k _ hw ((Ch.refl _ w).setCell _ _ (fun _ => rfl))
  rw [← show a.put op.dst undef = a by rw [hd]; rfl] at h2
  exact hK _ _ h2

/-- A hasher in memory. -/
def HashAt (w : World) (g : Nat) (s : HS) : Prop := w.heap[g]? = some (.cells (hcells s).toArray 53 (0, 0))
section
variable {w w' : World} {g : Nat} {s : HS}
theorem HashAt.lt (h : HashAt w g s) : g < w.heap.size := (Array.getElem?_eq_some_iff.1 h).1
theorem HashAt.ch {F : Nat → Prop} (h : HashAt w g s) (hc : Ch F w w') (hF : ¬ F g) : HashAt w' g s := (hc.block g h.lt hF).trans h
theorem HashAt.mid (h : HashAt w g s) : Mid w g 53 [] s.h (bcells s.held ++ [.int .i64 (s.n : Int), .int .u64 s.all]) := by
  unfold Mid HashAt hcells at *
  simpa using h
theorem HashAt.of_mid {h : List Int} (k : Mid w g 53 [] h (bcells s.held ++ [.int .i64 (s.n : Int), .int .u64 s.all])) : HashAt w g ⟨h, s.held, s.n, s.all⟩ := by
  unfold Mid HashAt hcells at *
  simpa using k
theorem hcells_length (lh : s.h.length = 8) (lheld : s.held.length = 64) : (hcells s).length = 74 := by simp [hcells, wcells_length, bcells_length, lh, lheld]
theorem HashAt.n (h : HashAt w g s) (lh : s.h.length = 8) (lheld : s.held.length = 64) : w.cell? ⟨g, 72, none⟩ = some (.int .i64 (s.n : Int)) := by
  rw [cell_of_row _ _ _ _ _ _ h]
  simp only [hcells, List.getElem?_toArray]
  rw [List.getElem?_append_right (by rw [wcells_length, lh]; decide), List.getElem?_append_right (by rw [wcells_length, bcells_length, lh, lheld]; decide), wcells_length, bcells_length, lh, lheld]
  rfl
theorem HashAt.all (h : HashAt w g s) (lh : s.h.length = 8) (lheld : s.held.length = 64) : w.cell? ⟨g, 73, none⟩ = some (.int .u64 s.all) := by
  rw [cell_of_row _ _ _ _ _ _ h]
  simp only [hcells, List.getElem?_toArray]
  rw [List.getElem?_append_right (by rw [wcells_length, lh]; decide), List.getElem?_append_right (by rw [wcells_length, bcells_length, lh, lheld]; decide), wcells_length, bcells_length, lh, lheld]
  rfl
theorem HashAt.bytes (h : HashAt w g s) (lh : s.h.length = 8) : Bytes w g 8 s.held := by
  refine ⟨h.lt, fun i hi => ?_⟩
  rw [cell_of_row _ _ _ _ _ _ h]
  simp only [hcells, List.getElem?_toArray]
  rw [List.getElem?_append_right (by rw [wcells_length, lh]; omega), wcells_length, lh, show 8 + i - 8 = i by omega, List.getElem?_append_left (by rw [bcells_length]; exact hi)]
  exact bcells_at _ _ hi
theorem HashAt.frozen (h : HashAt w g s) (i : Nat) : w.frozen? ⟨g, i, none⟩ = false := by unfold HashAt at h; simp [World.frozen?, h]
theorem hcells_set_n (lh : s.h.length = 8) (lheld : s.held.length = 64) (n : Nat) : (hcells s).set 72 (.int .i64 (n : Int)) = hcells ⟨s.h, s.held, n, s.all⟩ := by
  simp only [hcells]
  rw [List.set_append_right _ _ (by rw [wcells_length, lh]; decide), List.set_append_right _ _ (by rw [wcells_length, bcells_length, lh, lheld]; decide), wcells_length, bcells_length, lh, lheld]
  rfl
theorem hcells_set_all (lh : s.h.length = 8) (lheld : s.held.length = 64) (x : Int) : (hcells s).set 73 (.int .u64 x) = hcells ⟨s.h, s.held, s.n, x⟩ := by
  simp only [hcells]
  rw [List.set_append_right _ _ (by rw [wcells_length, lh]; decide), List.set_append_right _ _ (by rw [wcells_length, bcells_length, lh, lheld]; decide), wcells_length, bcells_length, lh, lheld]
  rfl
theorem hcells_splice (lh : s.h.length = 8) (lheld : s.held.length = 64) (o : Nat) (b : List Int) (hb : o + b.length ≤ 64) : splice (hcells s) (8 + o) (bcells b) = hcells ⟨s.h, splice s.held o b, s.n, s.all⟩ := by
  have hw : (wcells s.h).length = 8 := by rw [wcells_length, lh]
  have hbl : (bcells s.held).length = 64 := by rw [bcells_length, lheld]
  have e1 : (hcells s).take (8 + o) = wcells s.h ++ (bcells s.held).take o := by
    simp only [hcells]
    rw [List.take_append, hw, List.take_of_length_le (by omega), show 8 + o - 8 = o by omega, List.take_append_of_le_length (by omega)]
  have e2 : (hcells s).drop (8 + o + (bcells b).length) = (bcells s.held).drop (o + b.length) ++ [.int .i64 (s.n : Int), .int .u64 s.all] := by
    simp only [hcells]
    rw [bcells_length, List.drop_append, hw, List.drop_of_length_le (by omega), List.nil_append, show 8 + o + b.length - 8 = o + b.length by omega, List.drop_append_of_le_length (by omega)]
  simp only [splice]
  rw [e1, e2]
  simp only [hcells, bcells, List.map_append, List.map_take, List.map_drop, List.append_assoc]
end

/-- A slice of bytes that reads as those, apart from a block. -/
def ReadsB (g : Nat) (w : World) (v : Value) (b : List Int) : Prop :=
  ∃ a cap, v = .slice a b.length cap ∧ b.length ≤ cap ∧ (0 < b.length → ∃ q off, a = some ⟨q, off, none⟩ ∧ q ≠ g ∧ q < w.heap.size ∧ ∀ j, j < b.length → w.cell? ⟨q, off + j, none⟩ = some (.int .u8 (st b j)))
theorem ReadsB.ch {g : Nat} {w w' : World} {v : Value} {b : List Int} (h : ReadsB g w v b) {F : Nat → Prop} (hc : Ch F w w') (hF : ∀ k, k < w.heap.size → F k → k = g) : ReadsB g w' v b := by
  obtain ⟨a, cap, hv, hle, hr⟩ := h
  refine ⟨a, cap, hv, hle, fun h0 => ?_⟩
  obtain ⟨q, off, ha, hq, hlt, hcell⟩ := hr h0
  exact ⟨q, off, ha, hq, Nat.lt_of_lt_of_le hlt hc.size, fun j hj => (World.cell?_of_block (hc.block q hlt (fun hf => hq (hF q hlt hf)))).trans (hcell j hj)⟩
/-- The rest of such a slice. -/
theorem slice26 {g : Nat} {w : World} {v : Value} {b : List Int} (h : ReadsB g w v b) (c : Nat) (hc : c ≤ b.length) : ∃ v', (∀ w0, (Instr.slice 26 v (some (.int .i64 (c : Int))) none none).run Try.prog w0 = .ok v' w0) ∧ ReadsB g w v' (b.drop c) := by
  obtain ⟨a, cap, rfl, hle, hr⟩ := h
  have he : Try.prog.elem 26 = 5 := by simp [Program.elem, Try.underlying26]
  refine ⟨sliced a c b.length cap 1, fun w0 => ?_, ?_⟩
  · rw [run_slice_l w0 26 a b.length cap (by rw [he]; exact Try.underlying26) .i64 _ (by omega) (by omega), he, sizeOf_run Try.size5]
    rfl
  · unfold sliced
    have hl : (b.drop c).length = b.length - c := List.length_drop
    refine ⟨_, cap - c, by rw [hl], by rw [hl]; omega, fun h0 => ?_⟩
    rw [hl] at h0
    have hpos : 0 < b.length := by omega
    have hcap : ¬ cap = c := by omega
    obtain ⟨q, off, rfl, hq, hlt, hcell⟩ := hr hpos
    refine ⟨q, off + c, ?_, hq, hlt, fun j hj => ?_⟩
    · rw [if_neg hcap]; simp [Addr.add_mid]
    · have hj' : c + j < b.length := by rw [hl] at hj; exact Nat.add_lt_of_lt_sub' hj
      rw [Nat.add_assoc, hcell (c + j) hj']
      simp [st, List.getD, List.getElem?_drop]

end Go.Proofs.Ytnmooepmpebepaa
