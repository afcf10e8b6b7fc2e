import Derived.Test.YtnmooepmpebepaaX
import Derived.Test.YtnmooepmpebepaaF
namespace Go.Proofs.Ytnmooepmpebepaa
open Go.RowKit

/-! ### The document's orders, in plain words and by its code -/
theorem irow_range {w : World} {g : Nat} {t : TypeId} (h : w.heap[g]? = some (.cells (icells sig.flatten).toArray t (0, 0))) (k : Nat) (hk : k < 10) : w.rangeAt g (k * 16) (icells (sig.getD k [])) := by
  intro j v hv
  have hj : j < 16 := by have := (List.getElem?_eq_some_iff.1 hv).1; rw [icells, List.length_map, sig_len k hk] at this; exact this
  rw [cell_of_row _ _ _ _ _ _ h, ← hv]
  simp only [icells, List.getElem?_toArray, List.getElem?_map]
  rw [sig_flat k hk j hj]
theorem irow_cell {w : World} {g : Nat} {t : TypeId} {S : List Nat} (h : w.heap[g]? = some (.cells (icells S).toArray t (0, 0))) (j : Nat) (hj : j < S.length) : w.cell? ⟨g, j, none⟩ = some (.int .i64 (sj S j)) := by
  rw [cell_of_row _ _ _ _ _ _ h]
  simp [icells, sj, List.getD, List.getElem?_eq_getElem hj]
theorem Try.size61 (k : Nat) (hk : k < 10) : (Try.prog.info? 61).map (·.size) = some (icells (sig.getD k [])).toArray.size := by
  have h : (Try.prog.info? 61).map (·.size) = some 16 := by kernel_rfl
  have hs := sig_len k hk
  rw [h]; simp only [icells, List.size_toArray, List.length_map]; rw [hs]
theorem zero61 : (Try.prog.info? 61).map (fun i => (i.zero, i.size)) = some (some (.agg (Array.replicate 16 (.int .i64 0))), 16) := by kernel_rfl
theorem zero42 : (Try.prog.info? 42).map (fun i => (i.zero, i.size)) = some (some (.agg (wcells (List.replicate 16 0)).toArray), 16) := by kernel_rfl

/-- A column, a diagonal. -/
def rq1 (M S : List Int) (R : List Nat) (i : Nat) : List Int := stirS S i (i + 4) (i + 8) (i + 12) (st M (sj R (2 * i))) (st M (sj R (2 * i + 1)))
def rq2 (M S : List Int) (R : List Nat) (i : Nat) : List Int := stirS S i (4 + (i + 1) % 4) (8 + (i + 2) % 4) (12 + (i + 3) % 4) (st M (sj R (8 + 2 * i))) (st M (sj R (9 + 2 * i)))
def hf1 (M V : List Int) (R : List Nat) : Nat → List Int
  | 0 => V
  | n + 1 => rq1 M (hf1 M V R n) R n
def hf2 (M V : List Int) (R : List Nat) : Nat → List Int
  | 0 => V
  | n + 1 => rq2 M (hf2 M V R n) R n
theorem round_halves (M V : List Int) (R : List Nat) : hf2 M (hf1 M V R 4) R 4 = roundS M V R := rfl
theorem hf1_length (M V : List Int) (R : List Nat) : ∀ n, (hf1 M V R n).length = V.length
  | 0 => rfl
  | n + 1 => by rw [hf1, rq1, stirS_length]; exact hf1_length M V R n
theorem hf2_length (M V : List Int) (R : List Nat) : ∀ n, (hf2 M V R n).length = V.length
  | 0 => rfl
  | n + 1 => by rw [hf2, rq2, stirS_length]; exact hf2_length M V R n
theorem stirV_col (L : List Int) (i : Nat) (hi : i < 4) (x y : Int) : stirV L (i : Int) ((i : Int) + 4) ((i : Int) + 8) ((i : Int) + 12) x y = stirS L i (i + 4) (i + 8) (i + 12) x y := by
  unfold stirV
  rw [if_pos (by unfold okS; rw [decide_eq_true_iff]; omega)]
  rw [show ((i : Int) + 4).toNat = i + 4 by omega, show ((i : Int) + 8).toNat = i + 8 by omega, show ((i : Int) + 12).toNat = i + 12 by omega, Int.toNat_natCast]
theorem stirV_dia (L : List Int) (i : Nat) (hi : i < 4) (x y : Int) : stirV L (i : Int) (4 + (((i + 1) % 4 : Nat) : Int)) (8 + (((i + 2) % 4 : Nat) : Int)) (12 + (((i + 3) % 4 : Nat) : Int)) x y = stirS L i (4 + (i + 1) % 4) (8 + (i + 2) % 4) (12 + (i + 3) % 4) x y := by
  unfold stirV
  rw [if_pos (by unfold okS; rw [decide_eq_true_iff]; omega)]
  rw [show (4 + (((i + 1) % 4 : Nat) : Int)).toNat = 4 + (i + 1) % 4 by omega, show (8 + (((i + 2) % 4 : Nat) : Int)).toNat = 8 + (i + 2) % 4 by omega, show (12 + (((i + 3) % 4 : Nat) : Int)).toNat = 12 + (i + 3) % 4 by omega, Int.toNat_natCast]
theorem st_append_left {A B : List Int} {j : Nat} (h : j < A.length) : st (A ++ B) j = st A j := by simp [st, List.getD, List.getElem?_append_left h]
theorem st_append_right {A B : List Int} {j : Nat} (h : A.length = 8) : st (A ++ B) (j + 8) = st B j := by
  simp only [st, List.getD]
  rw [List.getElem?_append_right (by omega), h, Nat.add_sub_cancel]
theorem startS_iv (i : Nat) (h : i < 8) : startS (i : Int) = st iv i := by
  unfold startS
  rw [if_pos (by omega), Int.toNat_natCast]

/-- A load of a whole array in a still region. -/
theorem still_load {P : Program} {ops : Array Oper} {rest : List Oper} {o : Oper} {a : Act} {w : World} {Q : Act → Prop} {ty : TypeId} {x : Operand} (hw : Region.wanted o (yielded ops a.tmps) = true) (hop : o.op = .load ty x) (g : Nat) (cs : List Value) (hx : a.eval x = .pointer (some ⟨g, 0, none⟩)) (hS : w.rangeAt g 0 cs)
    (d : TypeDesc) (hu : P.underlying ty = some d) (hd : d.isRow = true) (hi : (P.info? ty).map (·.size) = some cs.length) (k : ∀ K : Act → Prop, (∀ a, wpStill P ops w Q rest a → K a) → K (a.put o.dst (.agg cs.toArray))) : wpStill P ops w Q (o :: rest) a := by
  unfold wpStill
  rw [if_pos hw]
  unfold Oper.still execOp
  simp only [hop, hx, Instr.loadAt, Instr.sureAddr, Sem.run_bind, Sem.run_pure, Result.andThen_ok, run_loadVar_mid w g 0 ty cs d hS hu hd hi, Oper.stillUpon]
  exact ⟨trivial, k _ (fun _ h => h)⟩
end Go.Proofs.Ytnmooepmpebepaa
