import Derived.Test.YtnmooepmpebepaaQ
import Derived.ProofKit
import Derived.Lib.SmallJoins
import Derived.SizedLaws
import Derived.SliceStrings
import Derived.Deep.Slices
import Derived.Deep.Fields
import Derived.ChangeSame
import Derived.OpenShut
namespace Go.Proofs.Ytnmooepmpebepaa
open Go.ChangeShapes Go.WideShapes Go.ChangeAt Go.RowKit Go.Joins Go.Deep

theorem Try.own : ownKnob Try.prog.godebug = none := by kernel_rfl
theorem Try.laidOut : laidOutB Try.prog = true := by kernel_rfl

theorem Try.cells28 : Try.prog.cellsOf 28 = 32 := by kernel_rfl
theorem Try.cells36 : Try.prog.cellsOf 36 = 8 := by kernel_rfl
theorem Try.cells38 : Try.prog.cellsOf 38 = 64 := by kernel_rfl
theorem Try.cells42 : Try.prog.cellsOf 42 = 16 := by kernel_rfl

section
variable {H : Type} {enc : TypeId × Value → H} {P : Program} {w : World} {base : Nat} {spare : Nat → Bool} {held : Bool}
/-- An array of whole numbers that came in. -/
theorem open_ints {t e : TypeId} {n : Nat} {k : IntKind} {v : Value} {d : DataW H} {p : List MemPlace} (hu : P.underlying t = some (.array n e)) (he : P.underlying e = some (.int k)) (hce : P.cellsOf e = 1) (hct : P.cellsOf t = n)
    (hv : Value.okWide P w .any base t v) (h : DataW.Trod enc P w 0 spare held t v d p) :
    ∃ L : List Int, v = .agg (L.map (Value.int k)).toArray ∧ L.length = n ∧ ∀ i, i < n → (Lit.int k (st L i)).wf = true := by
  obtain ⟨cs, rfl, hsz, _⟩ : ∃ cs, v = .agg cs ∧ cs.size = P.cellsOf t ∧ Row.okWide P w .any base t cs := by
    simpa [Value.okWide, hu] using hv
  obtain ⟨fuel, hf⟩ := h
  have hcl : (Value.agg cs).cells.toList = cs.toList := rfl
  rw [hcl] at hf
  obtain ⟨xs, m, _, _, hcl, hxl, hel⟩ := DataW.trod_array hu hf
  rw [hct] at hcl
  have key : ∀ i, i < n → ∃ z, cs.toList[i]? = some (.int k z) ∧ (Lit.int k z).wf = true := by
    intro i hi
    have h1 := hel i hi
    rw [hce, Nat.mul_one] at h1
    rw [List.getElem?_eq_getElem (show i < xs.length by omega)] at h1
    have hic : i < cs.toList.length := by omega
    have h2 : (cs.toList.drop i).take 1 = [cs.toList[i]] := by
      rw [List.drop_eq_getElem_cons hic]; rfl
    rw [h2] at h1
    obtain ⟨z, e0, _, hwf⟩ := DataW.trod_int he h1
    simp only [List.cons.injEq, and_true] at e0
    exact ⟨z, by rw [List.getElem?_eq_getElem hic, e0], hwf⟩
  have hget : ∀ i, i < n → cs.toList[i]? = some (.int k (st (cs.toList.map fun v => match v with | .int _ z => z | _ => 0) i)) ∧ (Lit.int k (st (cs.toList.map fun v => match v with | .int _ z => z | _ => 0) i)).wf = true := by
    intro i hi
    obtain ⟨z, hz, hwf⟩ := key i hi
    have : st (cs.toList.map fun v => match v with | .int _ z => z | _ => 0) i = z := by
      simp only [st, List.getD, List.getElem?_map]
      rw [hz]
      rfl
    rw [this]
    exact ⟨hz, hwf⟩
  refine ⟨cs.toList.map fun v => match v with | .int _ z => z | _ => 0, ?_, by rw [List.length_map]; omega, fun i hi => (hget i hi).2⟩
  congr 1
  apply Array.toList_inj.1
  apply List.ext_getElem
  · simp
  · intro i h1 h2
    have := (hget i (by omega)).1
    rw [List.getElem?_eq_getElem h1] at this
    simp only [Option.some.injEq] at this
    rw [this]
    simp [st, List.getD, List.getElem?_map, List.getElem?_eq_getElem h1]
end

theorem u8_of {x : Int} (h : (Lit.int .u8 x).wf = true) : 0 ≤ x ∧ x < 256 := by
  have := bounds_u8 h
  omega
theorem u32_of {x : Int} (h : (Lit.int .u32 x).wf = true) : 0 ≤ x ∧ x < 4294967296 := by
  have := bounds_u32 h
  omega
end Go.Proofs.Ytnmooepmpebepaa
