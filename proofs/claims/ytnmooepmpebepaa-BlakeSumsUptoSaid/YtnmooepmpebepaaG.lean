import Derived.Test.YtnmooepmpebepaaE
import Derived.Deep.MidRow
import Derived.Laws.CopyOwn
import Derived.IntWalk
namespace Go.Proofs.Ytnmooepmpebepaa
open Go.RowKit

/-! ### A block's work, in plain words -/
/-- A word of four bytes. -/
def mw (b0 b1 b2 b3 : Int) : Int :=
  bits .or .u32 (bits .or .u32 (bits .or .u32 (IntKind.u32.wrap b0) (IntKind.u32.wrap (IntKind.u32.wrap b1 * 256))) (IntKind.u32.wrap (IntKind.u32.wrap b2 * 65536))) (IntKind.u32.wrap (IntKind.u32.wrap b3 * 16777216))
def mS (B : List Int) : List Int := (List.range 16).map fun i => mw (st B (4 * i)) (st B (4 * i + 1)) (st B (4 * i + 2)) (st B (4 * i + 3))
theorem mS_length (B : List Int) : (mS B).length = 16 := by simp [mS]
theorem mS_at (B : List Int) (i : Nat) (hi : i < 16) : st (mS B) i = mw (st B (4 * i)) (st B (4 * i + 1)) (st B (4 * i + 2)) (st B (4 * i + 3)) := by
  conv => lhs; unfold mS st
  simp only [List.getD]
  rw [List.getElem?_map, List.getElem?_range hi]
  rfl
def sj (S : List Nat) (j : Nat) : Nat := S.getD j 0
def roundS (M : List Int) (v : List Int) (S : List Nat) : List Int :=
  stirS (stirS (stirS (stirS (stirS (stirS (stirS (stirS v 0 4 8 12 (st M (sj S 0)) (st M (sj S 1)))
    1 5 9 13 (st M (sj S 2)) (st M (sj S 3)))
    2 6 10 14 (st M (sj S 4)) (st M (sj S 5)))
    3 7 11 15 (st M (sj S 6)) (st M (sj S 7)))
    0 5 10 15 (st M (sj S 8)) (st M (sj S 9)))
    1 6 11 12 (st M (sj S 10)) (st M (sj S 11)))
    2 7 8 13 (st M (sj S 12)) (st M (sj S 13)))
    3 4 9 14 (st M (sj S 14)) (st M (sj S 15))
def nt (x : Int) : Int := bits .xor .u32 4294967295 x
/-- The sixteen words at the beginning of a block's work. -/
def v0S (H : List Int) (t : Int) (last : Bool) : List Int :=
  let v := H ++ iv
  let v := v.set 12 (xr (st v 12) (IntKind.u32.wrap t))
  let v := v.set 13 (xr (st v 13) (IntKind.u32.wrap (t / 4294967296)))
  if last then v.set 14 (nt (st v 14)) else v
def outS (H v : List Int) : List Int := (List.range 8).map fun i => xr (st H i) (xr (st v i) (st v (i + 8)))
def workS (H B : List Int) (t : Int) (last : Bool) : List Int := outS H (sig.foldl (roundS (mS B)) (v0S H t last))
theorem workS_length (H B : List Int) (t : Int) (last : Bool) : (workS H B t last).length = 8 := by simp [workS, outS]
theorem outS_at (H v : List Int) (i : Nat) (hi : i < 8) : st (outS H v) i = xr (st H i) (xr (st v i) (st v (i + 8))) := by
  conv => lhs; unfold outS st
  simp only [List.getD]
  rw [List.getElem?_map, List.getElem?_range hi]
  rfl
theorem st_ext {A B : List Int} (h : A.length = B.length) (k : ∀ i, i < A.length → st A i = st B i) : A = B := by
  apply List.ext_getElem h
  intro i h1 h2
  have := k i h1
  simpa [st, List.getD, List.getElem?_eq_getElem h1, List.getElem?_eq_getElem h2] using this
theorem st_set_self {L : List Int} {i : Nat} {x : Int} (h : i < L.length) : st (L.set i x) i = x := by simp [st, List.getD, h]
theorem st_set_ne {L : List Int} {i j : Nat} {x : Int} (h : i ≠ j) : st (L.set i x) j = st L j := by simp [st, List.getD, h]
theorem sj_lt (k : Nat) (hk : k < 10) (j : Nat) (hj : j < 16) : sj (sig.getD k []) j < 16 := by
  have : ∀ k, k < 10 → ∀ j, j < 16 → sj (sig.getD k []) j < 16 := by decide
  exact this k hk j hj
theorem sig_len (k : Nat) (hk : k < 10) : (sig.getD k []).length = 16 := by
  have : ∀ k, k < 10 → (sig.getD k []).length = 16 := by decide
  exact this k hk
theorem sig_flat (k : Nat) (hk : k < 10) (j : Nat) (hj : j < 16) : sig.flatten[k * 16 + j]? = (sig.getD k [])[j]? := by
  have : ∀ k, k < 10 → ∀ j, j < 16 → sig.flatten[k * 16 + j]? = (sig.getD k [])[j]? := by decide
  exact this k hk j hj
theorem roundS_length (M v : List Int) (S : List Nat) : (roundS M v S).length = v.length := by simp [roundS, stirS_length]
theorem rounds_length (M : List Int) : ∀ (T : List (List Nat)) (v : List Int), (T.foldl (roundS M) v).length = v.length
  | [], _ => rfl
  | S :: T, v => by rw [List.foldl_cons, rounds_length M T, roundS_length]
theorem sig_succ (M v : List Int) (k : Nat) (hk : k < 10) : (sig.take (k + 1)).foldl (roundS M) v = roundS M ((sig.take k).foldl (roundS M) v) (sig.getD k []) := by
  have hl : k < sig.length := hk
  rw [List.take_succ_eq_append_getElem hl, List.foldl_append]
  simp [List.getD, List.getElem?_eq_getElem hl]
theorem v0S_length (H : List Int) (h : H.length = 8) (t : Int) (last : Bool) : (v0S H t last).length = 16 := by
  unfold v0S
  cases last <;> simp [h, iv]

/-! ### Blocks -/
theorem wpList_copy_ch {P : Program} {w : World} {ops : Array Oper} {rest : List Oper} {o : Oper} {a : Act} {Q : Exit → Act → World → Prop} (hgd : o.guard = none) (d s : Operand) (dT sT : TypeId)
    (ho : o.op = .call { callee := .builtin .copy, args := #[d, s], argTypes := #[dT, sT] }) (elem : TypeId) (hu : P.underlying dT = some (.slice elem)) (hsz : (P.info? elem).map (·.size) = some 1)
    (g off dLen dCap : Nat) (ad : Addr) (sLen sCap : Nat) (hd : a.eval d = .slice (some ⟨g, off, none⟩) dLen dCap) (hs : a.eval s = .slice (some ad) sLen sCap)
    (cur : List Value) (t : TypeId) (hg : w.heap[g]? = some (.cells cur.toArray t (0, 0))) (cs : List Value) (hn : cs.length = Nat.min sLen dLen)
    (hsrc : ∀ j v, cs[j]? = some v → w.cell? (ad.add j) = some v) (hfit : off + cs.length ≤ cur.length) (h1 : ∀ v ∈ cs, v.oneCell' = true)
    (h : ∀ w', w'.heap[g]? = some (.cells (splice cur off cs).toArray t (0, 0)) → Ch (fun k => k = g) w w' → wpList P ops Q rest (a.put o.dst (goInt cs.length)) w') : wpList P ops Q (o :: rest) a w :=
  wpList_copy_own hgd d s dT sT ho elem hu hsz g off dLen dCap ad sLen sCap hd hs cur.toArray t hg cs hn hsrc (by simpa using hfit) h1
    (h _ (by simpa [splice] using setRow_heap w g _ _ t _ hg) ((Ch.refl _ w).setRow g _ (fun _ => rfl)))

/-- Words in the midst of a block. -/
def Mid (w : World) (g : Nat) (t : TypeId) (pre : List Value) (H : List Int) (post : List Value) : Prop := w.heap[g]? = some (.cells (pre ++ wcells H ++ post).toArray t (0, 0))
section
variable {w w' : World} {g : Nat} {t : TypeId} {pre post : List Value} {H : List Int}
theorem Mid.lt (h : Mid w g t pre H post) : g < w.heap.size := (Array.getElem?_eq_some_iff.1 h).1
theorem Mid.ch {F : Nat → Prop} (h : Mid w g t pre H post) (hc : Ch F w w') (hF : ¬ F g) : Mid w' g t pre H post := (hc.block g h.lt hF).trans h
theorem Mid.cell (h : Mid w g t pre H post) (o i : Nat) (ho : pre.length = o) (hi : i < H.length) : w.cell? ⟨g, o + i, none⟩ = some (.int .u32 (st H i)) := by
  rw [cell_of_row _ _ _ _ _ _ h]
  simp only [List.getElem?_toArray, List.append_assoc]
  rw [List.getElem?_append_right (by omega), show o + i - pre.length = i by omega, List.getElem?_append_left (by rw [wcells_length]; omega)]
  simp [wcells, st, List.getD, List.getElem?_eq_getElem hi]
theorem Mid.frozen (h : Mid w g t pre H post) (i : Nat) : w.frozen? ⟨g, i, none⟩ = false := by unfold Mid at h; simp [World.frozen?, h]
theorem Mid.set (h : Mid w g t pre H post) (o i : Nat) (ho : pre.length = o) (hi : i < H.length) (x : Int) : Mid (w.setCell ⟨g, o + i, none⟩ (.int .u32 x)) g t pre (H.set i x) post := by
  unfold Mid
  rw [heap_setCell_self _ h]
  congr 2
  apply Array.toList_inj.1
  simp only [Array.toList_setIfInBounds, List.append_assoc]
  rw [List.set_append_right _ _ (by omega), show o + i - pre.length = i by omega, List.set_append_left _ _ (by rw [wcells_length]; omega)]
  simp [wcells, List.map_set]
theorem Mid.mk (h : w.heap[g]? = some (.cells (pre ++ wcells H ++ post).toArray t (0, 0))) : Mid w g t pre H post := h
end
theorem wpList_store_mid1 {P : Program} {ops : Array Oper} {rest : List Oper} {op : Oper} {a : Act} {w : World} {Q : Exit → Act → World → Prop} (hgd : op.guard = none) (hd : op.dst = none) (x y : Operand) (ho : op.op = .store 35 x y)
    (hi : (P.info? 35).map (·.size) = some 1) (g : Nat) (t : TypeId) (pre post : List Value) (H : List Int) (h : Mid w g t pre H post) (o : Nat) (hop : pre.length = o) (i : Nat) (hil : i < H.length) (v : Int) (hx : a.eval x = .pointer (some ⟨g, o + i, none⟩)) (hy : a.eval y = .int .u32 v)
    (k : ∀ w', Mid w' g t pre (H.set i v) post → Ch (fun k => k = g) w w' → wpList P ops Q rest a w') : wpList P ops Q (op :: rest) a w := by
  refine wpList_plain hgd fun K hK => ?_
  have h1 : (storeVar 35 ⟨g, o + i, none⟩ (.int .u32 v)).run P w = .ok () (w.setCell ⟨g, o + i, none⟩ (.int .u32 v)) := by
    cases hq : P.info? 35 with
    | none => simp [hq] at hi
    | some i0 => exact Go.Lib.rl_storeVar_one 35 i0 hq (by simpa [hq] using hi) ⟨g, o + i, none⟩ _ _ rfl w (h.cell o i hop hil) (h.frozen _)
  unfold Oper.wp execOp
  simp only [ho, hx, hy, Instr.storeAt, Instr.sureAddr, Sem.run_bind, Sem.run_pure, Result.andThen_ok, h1]
  have h2 := k _ (h.set o i hop hil v) ((Ch.refl _ w).setCell _ _ (fun _ => rfl))
  rw [← show a.put op.dst undef = a by rw [hd]; rfl] at h2
  exact hK _ _ h2

theorem Try.size5 : (Try.prog.info? 5).map (·.size) = some 1 := by kernel_rfl
theorem Try.size71 (k : Nat) (hk : k < 10) : (Try.prog.info? 71).map (·.size) = some (ucells (sig.getD k [])).toArray.size := by
  have h : (Try.prog.info? 71).map (·.size) = some 16 := by kernel_rfl
  have hs := sig_len k hk
  rw [h]; simp only [ucells, List.size_toArray, List.length_map]; rw [hs]
theorem ucells_one (S : List Nat) : (ucells S).toArray.all (·.oneCell') = true := by
  rw [Array.all_eq_true_iff_forall_mem]
  intro v hv
  simp only [ucells, List.mem_toArray, List.mem_map] at hv
  obtain ⟨x, _, rfl⟩ := hv
  rfl
theorem table_range {w : World} {g : Nat} {t : TypeId} (h : w.heap[g]? = some (.cells (ucells sig.flatten).toArray t (0, 0))) (k : Nat) (hk : k < 10) : w.rangeAt g (k * 16) (ucells (sig.getD k [])) := by
  intro j v hv
  have hj : j < 16 := by have := (List.getElem?_eq_some_iff.1 hv).1; rw [ucells, List.length_map, sig_len k hk] at this; exact this
  rw [cell_of_row _ _ _ _ _ _ h, ← hv]
  simp only [ucells, List.getElem?_toArray, List.getElem?_map]
  rw [sig_flat k hk j hj]
theorem row_cell {w : World} {g : Nat} {t : TypeId} {S : List Nat} (h : w.heap[g]? = some (.cells (ucells S).toArray t (0, 0))) (j : Nat) (hj : j < S.length) : w.cell? ⟨g, j, none⟩ = some (.int .u8 (sj S j)) := by
  rw [cell_of_row _ _ _ _ _ _ h]
  simp [ucells, sj, List.getD, List.getElem?_eq_getElem hj]
theorem sizeOf_run {P : Program} {e : TypeId} {n : Nat} (h : (P.info? e).map (·.size) = some n) (w : World) : (sizeOf e).run P w = .ok n w := by
  cases hq : P.info? e with
  | none => simp [hq] at h
  | some i0 => have h1 : i0.size = n := by simpa [hq] using h
               simp [sizeOf, typeInfo, hq, h1]
theorem slice38 (gb ob : Nat) (i : Nat) (hi : i < 16) (w : World) : (Instr.sliceAt 38 (.pointer (some ⟨gb, ob, none⟩)) (some (.int .i64 (4 * (i : Int)))) (some (.int .i64 (4 * (i : Int) + 4))) none).run Try.prog w = .ok (.slice (some ⟨gb, ob + 4 * i, none⟩) 4 (64 - 4 * i)) w := by
  have ha : Try.prog.arrayLen 38 = 64 := by simp [Program.arrayLen, Try.underlying38]
  have he : Try.prog.elem 38 = 5 := by simp [Program.elem, Try.underlying38]
  have hl : ((4 * (i : Int)).toNat) = 4 * i := by omega
  have hh : ((4 * (i : Int) + 4).toNat) = 4 * i + 4 := by omega
  rw [run_sliceAt_array_lh w 38 ⟨gb, ob, none⟩ (by rw [ha, he]; exact Try.underlying38) .i64 .i64 _ _ (by omega) (by omega) (by rw [ha]; omega), he, sizeOf_run Try.size5, ha, hl, hh]
  show Result.ok _ w = _
  unfold slicedAt
  rw [if_neg (by omega), Nat.mul_one, Addr.add_mid, show 4 * i + 4 - 4 * i = 4 by omega]

/-- Bytes in a block. -/
def Bytes (w : World) (g o : Nat) (B : List Int) : Prop := g < w.heap.size ∧ ∀ i, i < B.length → w.cell? ⟨g, o + i, none⟩ = some (.int .u8 (st B i))
theorem Bytes.ch {F : Nat → Prop} {w w' : World} {g o : Nat} {B : List Int} (h : Bytes w g o B) (hc : Ch F w w') (hF : ¬ F g) : Bytes w' g o B :=
  ⟨Nat.lt_of_lt_of_le h.1 hc.size, fun i hi => (World.cell?_of_block (hc.block g h.1 hF)).trans (h.2 i hi)⟩

end Go.Proofs.Ytnmooepmpebepaa
