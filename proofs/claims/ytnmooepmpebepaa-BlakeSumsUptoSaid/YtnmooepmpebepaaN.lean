import Derived.Test.YtnmooepmpebepaaM
import Derived.ChangeKeysEq
namespace Go.Proofs.Ytnmooepmpebepaa
open Go.RowKit

/-! ### An array is like itself -/
theorem part_one {P : Program} {e : TypeId} {k : IntKind} (he : P.underlying e = some (.int k)) (X : Array Value) (i : Nat) (v : Value) (hv : X[i]? = some v) (w : World) : (part e X i).run P w = .ok v w := by
  have hagg : (isAgg e).run P w = .ok false w := by
    unfold isAgg
    rw [Sem.run_bind, run_underlying he w]
    rfl
  simp [part, Sem.run_bind, hagg, hv]
theorem eqItems_self {P : Program} {e : TypeId} {k : IntKind} (he : P.underlying e = some (.int k)) (d : Nat) (X : Array Value) (w : World) : ∀ (is : List Nat), (∀ i ∈ is, ∃ k' z, X[i]? = some (.int k' z)) → (Op.eqItems (d + 1) e 1 X X is).run P w = .ok true w
  | [], _ => by simp [Op.eqItems]
  | i :: is, h => by
    obtain ⟨k', z, hv⟩ := h i (by simp)
    have ih := eqItems_self he d X w is (fun j hj => h j (by simp [hj]))
    simp [Op.eqItems, Sem.run_bind, Nat.mul_one, part_one he X i _ hv w, run_equalIn_int w d e k' k z z he, ih]
theorem equal_self {P : Program} {t e : TypeId} {n : Nat} {k : IntKind} (hu : P.underlying t = some (.array n e)) (he : P.underlying e = some (.int k)) (hc : P.cellsOf e = 1) (hi : (P.info? e).isSome = true) (X : Array Value) (hX : ∀ i, i < n → ∃ k' z, X[i]? = some (.int k' z)) (w : World) :
    (Op.equalIn 10000 t (.agg X) (.agg X)).run P w = .ok true w := by
  obtain ⟨i0, hi0⟩ := Option.isSome_iff_exists.1 hi
  rw [show (10000 : Nat) = 9999 + 1 from rfl, run_equalIn_array w 9999 X X hu hi0, hc]
  exact eqItems_self he 9998 X w _ (fun i hi => hX i (by simpa using hi))
theorem Try.cells5 : Try.prog.cellsOf 5 = 1 := by kernel_rfl
theorem Try.cells35 : Try.prog.cellsOf 35 = 1 := by kernel_rfl
theorem Try.some5 : (Try.prog.info? 5).isSome = true := by kernel_rfl
theorem Try.some35 : (Try.prog.info? 35).isSome = true := by kernel_rfl
theorem eq28 (D : List Int) (lD : D.length = 32) (w : World) : (Op.equalIn 10000 28 (.agg (bcells D).toArray) (.agg (bcells D).toArray)).run Try.prog w = .ok true w :=
  equal_self Try.underlying28 Try.underlying5 Try.cells5 Try.some5 _ (fun i hi => ⟨.u8, st D i, by simpa using bcells_at D i (by omega)⟩) w
theorem wcells_at (L : List Int) (i : Nat) (hi : i < L.length) : (wcells L)[i]? = some (.int .u32 (st L i)) := by
  simp [wcells, st, List.getD, List.getElem?_eq_getElem hi]
theorem eq36 (D : List Int) (lD : D.length = 8) (w : World) : (Op.equalIn 10000 36 (.agg (wcells D).toArray) (.agg (wcells D).toArray)).run Try.prog w = .ok true w :=
  equal_self Try.underlying36 Try.underlying35 Try.cells35 Try.some35 _ (fun i hi => ⟨.u32, st D i, by simpa using wcells_at D i (by omega)⟩) w
theorem eq42 (D : List Int) (lD : D.length = 16) (w : World) : (Op.equalIn 10000 42 (.agg (wcells D).toArray) (.agg (wcells D).toArray)).run Try.prog w = .ok true w :=
  equal_self Try.underlying42 Try.underlying35 Try.cells35 Try.some35 _ (fun i hi => ⟨.u32, st D i, by simpa using wcells_at D i (by omega)⟩) w

/-! ### lives -/
theorem reads_made (w : World) (g : Nat) (hg : g ≠ w.heap.size) (b : List Int) : ReadsB g (w.alloc (.cells (bcells b).toArray 5)) (.slice (some ⟨w.heap.size, 0, none⟩) b.length b.length) b :=
  ⟨_, _, rfl, Nat.le_refl _, fun _ => ⟨_, _, rfl, fun h => hg h.symm, by simp, fun j hj => by
    rw [cell_of_row _ _ _ _ _ _ (heap_alloc_new w _), Nat.zero_add]
    simpa using bcells_at b j hj⟩⟩
theorem sumS_bytes (msg : List Int) (i : Nat) (hi : i < 32) : 0 ≤ st (sumS msg) i ∧ st (sumS msg) i < 256 := by
  rw [sumS, outB_at _ _ hi]
  have : ∀ x : Int, 0 ≤ IntKind.u8.wrap x ∧ IntKind.u8.wrap x < 256 := fun x => by
    simp only [IntKind.wrap, IntKind.bits, IntKind.signed]
    simp
    omega
  exact this _

set_option maxRecDepth 100000 in
theorem text_lives : ((textS (sumS [97, 98, 99])).toList == (⟨#[53, 48, 56, 99, 53, 101, 56, 99, 51, 50, 55, 99, 49, 52, 101, 50, 101, 49, 97, 55, 50, 98, 97, 51, 52, 101, 101, 98, 52, 53, 50, 102, 51, 55, 52, 53, 56, 98, 50, 48, 57, 101, 100, 54, 51, 97, 50, 57, 52, 100, 57, 57, 57, 98, 52, 99, 56, 54, 54, 55, 53, 57, 56, 50]⟩ : ByteArray).toList) = true := by kernel_rfl

end Go.Proofs.Ytnmooepmpebepaa
