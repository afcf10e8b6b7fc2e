import Derived.Test.YtnmooepmpebepaaRows
import Derived.BigQuiet
import Derived.Deep.CutBlock
import Derived.Deep.DeepCutAuto
import Derived.Deep.DeepFit
import Derived.Deep.Draws
import Derived.Deep.QuietTactic
import Derived.Deep.RegionHeld3
import Derived.Deep.RegionLaw
import Derived.Deep.LoopGhost
import Derived.Deep.Upon
import Derived.Deep.WholeRow
import Derived.Lib.Hide
import Derived.Lib.SliceRun
import Derived.WalkKit
import Derived.WalkLawsBesides
import Derived.WalkSpells
import Derived.StillTailTactics
namespace Go.Proofs.Ytnmooepmpebepaa
open Go.RowKit

/-! ### Words: what is reckoned with them -/
def ad (x y : Int) : Int := IntKind.u32.wrap (x + y)
def xr (x y : Int) : Int := bits .xor .u32 x y
/-- Turned right: by the n whose power is q, where p is the power of 32 - n. -/
def ro (x p q : Int) : Int := bits .or .u32 (IntKind.u32.wrap (x * p)) (x / q)

theorem bits_or_comm (k : IntKind) (x y : Int) : bits .or k x y = bits .or k y x := by
  unfold bits
  simp only [BitVec.or_comm]
theorem bits_xor_comm (k : IntKind) (x y : Int) : bits .xor k x y = bits .xor k y x := by
  unfold bits
  simp only [BitVec.xor_comm]

theorem rot16 (x : Int) (w : World) : Calls Try.prog 31 #[.int .u32 x, .int .i64 (-16)] w fun e w' => e = .returned (.int .u32 (ro x 65536 65536)) ∧ w = w' := by
  have hb : bits .and .u64 (IntKind.u64.wrap (-16)) 31 = 16 := by decide
  go_enter Try.func31, Try.ntmps31
  go_wp2
  go_ret
  exact ⟨rfl, rfl⟩
theorem rot12 (x : Int) (w : World) : Calls Try.prog 31 #[.int .u32 x, .int .i64 (-12)] w fun e w' => e = .returned (.int .u32 (ro x 1048576 4096)) ∧ w = w' := by
  have hb : bits .and .u64 (IntKind.u64.wrap (-12)) 31 = 20 := by decide
  go_enter Try.func31, Try.ntmps31
  go_wp2
  go_ret
  exact ⟨rfl, rfl⟩
theorem rot8 (x : Int) (w : World) : Calls Try.prog 31 #[.int .u32 x, .int .i64 (-8)] w fun e w' => e = .returned (.int .u32 (ro x 16777216 256)) ∧ w = w' := by
  have hb : bits .and .u64 (IntKind.u64.wrap (-8)) 31 = 24 := by decide
  go_enter Try.func31, Try.ntmps31
  go_wp2
  go_ret
  exact ⟨rfl, rfl⟩
theorem rot7 (x : Int) (w : World) : Calls Try.prog 31 #[.int .u32 x, .int .i64 (-7)] w fun e w' => e = .returned (.int .u32 (ro x 33554432 128)) ∧ w = w' := by
  have hb : bits .and .u64 (IntKind.u64.wrap (-7)) 31 = 25 := by decide
  go_enter Try.func31, Try.ntmps31
  go_wp2
  go_ret
  exact ⟨rfl, rfl⟩

theorem right16 (x : Int) (w : World) : Calls Try.prog 28 #[.int .u32 x, .int .i64 16] w fun e w' => e = .returned (.int .u32 (ro x 65536 65536)) ∧ ∃ n, w' = w.drewN n := by
  go_enter Try.func28, Try.ntmps28
  go_wp2
  go_quiet (fail)
  go_wp2
  go_ret
  exact ⟨by rw [ro, bits_or_comm]; rfl, _, rfl⟩
theorem right12 (x : Int) (w : World) : Calls Try.prog 28 #[.int .u32 x, .int .i64 12] w fun e w' => e = .returned (.int .u32 (ro x 1048576 4096)) ∧ ∃ n, w' = w.drewN n := by
  go_enter Try.func28, Try.ntmps28
  go_wp2
  go_quiet (fail)
  go_wp2
  go_ret
  exact ⟨by rw [ro, bits_or_comm]; rfl, _, rfl⟩
theorem right8 (x : Int) (w : World) : Calls Try.prog 28 #[.int .u32 x, .int .i64 8] w fun e w' => e = .returned (.int .u32 (ro x 16777216 256)) ∧ ∃ n, w' = w.drewN n := by
  go_enter Try.func28, Try.ntmps28
  go_wp2
  go_quiet (fail)
  go_wp2
  go_ret
  exact ⟨by rw [ro, bits_or_comm]; rfl, _, rfl⟩
theorem right7 (x : Int) (w : World) : Calls Try.prog 28 #[.int .u32 x, .int .i64 7] w fun e w' => e = .returned (.int .u32 (ro x 33554432 128)) ∧ ∃ n, w' = w.drewN n := by
  go_enter Try.func28, Try.ntmps28
  go_wp2
  go_quiet (fail)
  go_wp2
  go_ret
  exact ⟨by rw [ro, bits_or_comm]; rfl, _, rfl⟩

/-! ### A block of words -/
def wcells (L : List Int) : List Value := L.map (Value.int .u32)
theorem wcells_length (L : List Int) : (wcells L).length = L.length := by simp [wcells]

/-- Only the blocks in F (and new ones) may have turned. -/
structure Ch (F : Nat → Prop) (w w' : World) : Prop where
  os : w'.os = w.os
  tape : w'.tape = w.tape
  output : w'.output = w.output
  size : w.heap.size ≤ w'.heap.size
  block : ∀ k, k < w.heap.size → ¬ F k → w'.heap[k]? = w.heap[k]?

theorem Ch.refl (F : Nat → Prop) (w : World) : Ch F w w := ⟨rfl, rfl, rfl, Nat.le_refl _, fun _ _ _ => rfl⟩
theorem Ch.trans {F F' : Nat → Prop} {a b c : World} (h : Ch F a b) (k : Ch F' b c) (hF : ∀ i, i < a.heap.size → F' i → F i) : Ch F a c :=
  ⟨k.os.trans h.os, k.tape.trans h.tape, k.output.trans h.output, Nat.le_trans h.size k.size, fun i hi hn => (k.block i (Nat.lt_of_lt_of_le hi h.size) (fun hf => hn (hF i hi hf))).trans (h.block i hi hn)⟩
theorem Ch.mono {F F' : Nat → Prop} {a b : World} (h : Ch F a b) (hF : ∀ i, F i → F' i) : Ch F' a b :=
  ⟨h.os, h.tape, h.output, h.size, fun i hi hn => h.block i hi (fun hf => hn (hF i hf))⟩
theorem Ch.of_below {F : Nat → Prop} {a b : World} (h : Below a.heap.size a b) : Ch F a b :=
  ⟨h.os, h.tape, h.output, h.size, fun i hi _ => h.block i hi⟩
theorem Ch.below {F : Nat → Prop} {B : Nat} {a b : World} (h : Ch F a b) (hB : ∀ i, F i → B ≤ i) (hs : B ≤ a.heap.size) : Below B a b :=
  ⟨h.os, h.tape, h.output, h.size, fun i hi => h.block i (by omega) (fun hf => by have := hB i hf; omega)⟩
theorem Ch.drewN {F : Nat → Prop} {a b : World} (h : Ch F a b) (n : Nat) : Ch F a (b.drewN n) := ⟨h.os, h.tape, h.output, h.size, h.block⟩
theorem Ch.alloc {F : Nat → Prop} {a b : World} (h : Ch F a b) (o : Obj) : Ch F a (b.alloc o) :=
  h.trans (F' := fun _ => False) ⟨rfl, rfl, rfl, by simp, fun k hk _ => Below.heap_alloc _ _ _ hk⟩ (fun _ _ hf => hf.elim)
theorem Ch.setCell {F : Nat → Prop} {a b : World} (h : Ch F a b) (p : Addr) (u : Value) (hp : p.block < a.heap.size → F p.block) : Ch F a (b.setCell p u) :=
  h.trans (F' := fun k => k = p.block) ⟨rfl, rfl, rfl, by simp [World.setCell], fun k _ hn => Below.heap_setCell _ _ _ _ hn⟩ (fun i hi hf => by subst hf; exact hp hi)

theorem heap_setCell_self {w : World} {b i : Nat} {c : Array Value} {e : TypeId} {f : Nat × Nat} (u : Value) (h : w.heap[b]? = some (.cells c e f)) :
    (w.setCell ⟨b, i, none⟩ u).heap[b]? = some (.cells (c.setIfInBounds i u) e f) := by
  simp [World.setCell, Array.getElem?_modify, h]

def st (L : List Int) (i : Nat) : Int := L.getD i 0

structure Words (w : World) (g : Nat) (t : TypeId) (L : List Int) : Prop where
  heap : w.heap[g]? = some (.cells (wcells L).toArray t (0, 0))
section
variable {w w' : World} {g : Nat} {t : TypeId} {L : List Int}
theorem Words.lt (h : Words w g t L) : g < w.heap.size := (Array.getElem?_eq_some_iff.1 h.heap).1
theorem Words.frozen (h : Words w g t L) (i : Nat) : w.frozen? ⟨g, i, none⟩ = false := by simp [World.frozen?, h.heap]
theorem Words.cell (h : Words w g t L) (i : Nat) (hi : i < L.length) : w.cell? ⟨g, i, none⟩ = some (.int .u32 (st L i)) := by
  simp [World.cell?, h.heap, wcells, st, List.getD, List.getElem?_eq_getElem hi]
theorem Words.ch {F : Nat → Prop} (h : Words w g t L) (hc : Ch F w w') (hF : ¬ F g) : Words w' g t L := ⟨(hc.block g h.lt hF).trans h.heap⟩
theorem Words.below (h : Words w g t L) (hb : Below w.heap.size w w') : Words w' g t L := h.ch (F := fun _ => False) (Ch.of_below hb) (by simp)
theorem Words.drewN (h : Words w g t L) (n : Nat) : Words (w.drewN n) g t L := ⟨h.heap⟩
theorem Words.set (h : Words w g t L) (i : Nat) (x : Int) : Words (w.setCell ⟨g, i, none⟩ (.int .u32 x)) g t (L.set i x) := by
  refine ⟨?_⟩
  rw [heap_setCell_self _ h.heap]
  simp [wcells, List.map_set]
end

/-! ### What stirring makes of sixteen words -/
def s1 (L : List Int) (a b : Nat) (x : Int) : List Int := L.set a (ad (st L a) (ad (st L b) x))
def s2 (L : List Int) (d a : Nat) (p q : Int) : List Int := L.set d (ro (xr (st L d) (st L a)) p q)
def s3 (L : List Int) (c d : Nat) : List Int := L.set c (ad (st L c) (st L d))
def stirS (L : List Int) (a b c d : Nat) (x y : Int) : List Int :=
  s2 (s3 (s2 (s1 (s2 (s3 (s2 (s1 L a b x) d a 65536 65536) c d) b c 1048576 4096) a b y) d a 16777216 256) c d) b c 33554432 128
theorem s1_length (L : List Int) (a b : Nat) (x : Int) : (s1 L a b x).length = L.length := by simp [s1]
theorem s2_length (L : List Int) (d a : Nat) (p q : Int) : (s2 L d a p q).length = L.length := by simp [s2]
theorem s3_length (L : List Int) (c d : Nat) : (s3 L c d).length = L.length := by simp [s3]
theorem stirS_length (L : List Int) (a b c d : Nat) (x y : Int) : (stirS L a b c d x y).length = L.length := by simp [stirS, s1_length, s2_length, s3_length]

end Go.Proofs.Ytnmooepmpebepaa
