import Derived.Test.YtjnomnaeegcafaaB
import Derived.Deep.DeepCutAuto
import Derived.Deep.CutBlock
namespace Go.Proofs.Ytjnomnaeegcafaa
open Go.RowKit

/-- A closure that tells of a move whether it is one of some: it may lay new blocks, no more. -/
def Tells (P : Program) (g : Nat) (lb : Array Value) (p : Mv → Bool) (w : World) : Prop :=
  ∀ (m : Mv) (w' : World), Below w.heap.size w w' → Calls P g (#[.agg #[.int .i64 m.1, .int .i64 m.2]] ++ lb) w' fun e w'' => e = .returned (.bool (p m)) ∧ Below w'.heap.size w' w''

theorem Tells.below {P : Program} {g : Nat} {lb : Array Value} {p : Mv → Bool} {w w' : World} (h : Tells P g lb p w) (hb : Below w.heap.size w w') : Tells P g lb p w' :=
  fun m w'' hb' => h m w'' (hb.trans (hb'.mono hb.size))

/-- The place of the first that fits. -/
def firstP (p : Mv → Bool) : List Mv → Nat → Int
  | [], _ => -1
  | m :: xs, k => if p m then (k : Int) else firstP p xs (k + 1)

theorem firstP_drop (p : Mv → Bool) (xs : List Mv) (k : Nat) (hk : k < xs.length) : firstP p (xs.drop k) k = if p (xs.getD k (0, 0)) then (k : Int) else firstP p (xs.drop (k + 1)) (k + 1) := by
  rw [List.drop_eq_getElem_cons hk]
  simp [firstP, List.getD, List.getElem?_eq_getElem hk]

theorem firstP_none (p : Mv → Bool) : ∀ (xs : List Mv) (k : Nat), (∀ m ∈ xs, p m = false) → firstP p xs k = -1
  | [], _, _ => rfl
  | m :: xs, k, h => by
    simp only [firstP, h m (by simp)]
    exact firstP_none p xs (k + 1) (fun x hx => h x (by simp [hx]))

theorem firstP_any (p : Mv → Bool) : ∀ (xs : List Mv) (k : Nat), decide (0 ≤ firstP p xs k) = xs.any p
  | [], _ => rfl
  | m :: xs, k => by
    rw [List.any_cons]
    by_cases h : p m = true
    · have e : firstP p (m :: xs) k = k := by show (if p m then _ else _) = _; rw [if_pos h]
      have e2 : (0 : Int) ≤ firstP p (m :: xs) k := by rw [e]; omega
      rw [decide_eq_true e2, h, Bool.true_or]
    · have e : firstP p (m :: xs) k = firstP p xs (k + 1) := by show (if p m then _ else _) = _; rw [if_neg h]
      have ih := firstP_any p xs (k + 1)
      rw [← e] at ih
      rw [ih]
      simp [h]

theorem firstP_some (p : Mv → Bool) : ∀ (xs : List Mv) (k : Nat), xs.any p = true → ∃ j, j < xs.length ∧ firstP p xs k = (k + j : Nat) ∧ p (xs.getD j (0, 0)) = true
  | [], _, h => by simp at h
  | m :: xs, k, h => by
    simp only [firstP]
    cases hm : p m
    · obtain ⟨j, h1, h2, h3⟩ := firstP_some p xs (k + 1) (by simpa [hm] using h)
      exact ⟨j + 1, by simpa using h1, by simp only [Bool.false_eq_true, if_false]; rw [h2]; congr 1; omega, by simpa using h3⟩
    · exact ⟨0, by simp, by simp, by simpa using hm⟩

set_option maxRecDepth 100000 in
set_option maxHeartbeats 2000000 in
theorem index_any (w : World) (v : Value) (xs : List Mv) (hr : ReadsM w v xs) (hl : xs.length ≤ 140737488355328) (g : Nat) (lb : Array Value) (p : Mv → Bool) (ht : Tells Try.prog g lb p w)
    (eg : ∀ args w, (callFunc g args).run Try.prog w = .ok (.enter g args) w) :
    Calls Try.prog 24 #[v, .func (.func g) #[] lb] w fun e w' => e = .returned (.int .i64 (firstP p xs 0)) ∧ Below w.heap.size w w' := by
  obtain ⟨a, cap, rfl, -, hc⟩ := hr
  have HC := Lib.hid hc
  have HT := Lib.hid ht
  clear hc ht
  go_enter Try.func24, Try.ntmps24
  go_wp2
  go_loopw [8] (fun i wr => ∃ (k : Nat), k ≤ xs.length ∧ i = .int .i64 k ∧ Below w.heap.size w wr ∧ firstP p xs 0 = firstP p (xs.drop k) k) (fun i _ => xs.length - (intOf i).toNat)
  case atStart => exact ⟨0, Nat.zero_le _, rfl, Below.refl _ _, by simp⟩
  case round =>
    obtain ⟨k, hk, rfl, hbel, hall⟩ := hrel
    by_cases hkl : k < xs.length
    · obtain ⟨b, off, rfl, hlt, hcc⟩ := HC.out (by omega)
      have c0 := (hbel.cell (p := ⟨b, off + k * 2, none⟩) hlt).trans (hcc k hkl).1
      have c1 := (hbel.cell (p := ⟨b, off + k * 2 + 1, none⟩) hlt).trans (hcc k hkl).2
      rw [firstP_drop p xs k hkl] at hall
      obtain ⟨m, hm⟩ : ∃ m, xs.getD k (0, 0) = m := ⟨_, rfl⟩
      rw [hm] at hall c0 c1
      have L := Lib.hid (HT.out m wr hbel)
      have e1 : decide ((k : Int) < (xs.length : Int)) = true := by simp; omega
      have p0 : (0 : Int) ≤ (k : Int) := by omega
      have p1 : (k : Int) < (xs.length : Int) := by omega
      have HH := Lib.hid hcc
      clear hm hcc
      cases hp : p m
      · have hall2 : firstP p xs 0 = firstP p (xs.drop (k + 1)) (k + 1) := by rw [hall, hp]; rfl
        have HA := Lib.hid hall2
        clear hall hall2
        rw [hp] at L
        go_wp2_with fail
        refine L.out.mono ?_
        rintro e w1 ⟨rfl, hb1⟩
        have hb2 := hbel.trans (hb1.mono hbel.size)
        clear c0 c1 L
        go_wp2
        go_roundw
        case rel => exact ⟨k + 1, by omega, by go_num, hb2, HA.out⟩
        case measure => simp [intOf]; omega
      · have hall2 : firstP p xs 0 = k := by rw [hall, hp]; rfl
        have HA := Lib.hid hall2
        clear hall hall2
        rw [hp] at L
        go_wp2_with fail
        refine L.out.mono ?_
        rintro e w1 ⟨rfl, hb1⟩
        have hb2 := hbel.trans (hb1.mono hbel.size)
        clear c0 c1 L
        go_wp2
        go_ret
        exact ⟨by rw [HA.out]; rfl, hb2⟩
    · obtain rfl : k = xs.length := by omega
      have e1 : decide ((xs.length : Int) < (xs.length : Int)) = false := by simp
      have hall2 : firstP p xs 0 = -1 := by rw [hall]; simp [firstP]
      have HA := Lib.hid hall2
      clear hall hall2
      go_wp2
      go_ret
      exact ⟨by rw [HA.out]; rfl, hbel⟩

theorem contains_any (w : World) (v : Value) (xs : List Mv) (hr : ReadsM w v xs) (hl : xs.length ≤ 140737488355328) (g : Nat) (lb : Array Value) (p : Mv → Bool) (ht : Tells Try.prog g lb p w)
    (eg : ∀ args w, (callFunc g args).run Try.prog w = .ok (.enter g args) w) :
    Calls Try.prog 22 #[v, .func (.func g) #[] lb] w fun e w' => e = .returned (.bool (xs.any p)) ∧ Below w.heap.size w w' := by
  have L := Lib.hid (index_any w v xs hr hl g lb p ht eg)
  obtain ⟨a, cap, rfl, -, -⟩ := hr
  obtain ⟨q, hq⟩ : ∃ q, firstP p xs 0 = q := ⟨_, rfl⟩
  have hqa := firstP_any p xs 0
  rw [hq] at L hqa
  have HQ := Lib.hid hqa
  clear ht hqa hq
  go_enter Try.func22, Try.ntmps22
  go_wp2_with (first | (go_at_call 24; refine L.out.mono ?_; rintro e w1 ⟨rfl, hb1⟩))
  go_ret
  exact ⟨by rw [← HQ.out]; rfl, hb1⟩

/-! ### The closures -/
/-- A move onto itself. -/
theorem tells_same (w : World) : Tells Try.prog 20 #[] (fun m => m.1 == m.2) w := by
  rintro ⟨m1, m2⟩ w' hb
  simp only [Array.append_empty]
  go_enter Try.func20, Try.ntmps20
  go_wp2
  go_ret
  exact ⟨rfl, (Below.refl _ w').alloc (Nat.le_refl _) _⟩

/-- A move from a register that stands in a box. -/
theorem tells_from (w : World) (b : Nat) (r : Int) (hc : w.cell? ⟨b, 0, none⟩ = some (.int .i64 r)) : Tells Try.prog 23 #[.pointer (some ⟨b, 0, none⟩)] (fun m => m.1 == r) w := by
  rintro ⟨m1, m2⟩ w' hb
  have hlt := World.block_lt_of_cell? _ _ hc
  have c0 := (hb.cell (p := ⟨b, 0, none⟩) hlt).trans hc
  clear hc
  have c1 : ∀ o, (w'.alloc o).cell? ⟨b, 0, none⟩ = some (.int .i64 r) := fun o => Lib.cell?_alloc_some o c0
  simp only [List.append_toArray, List.cons_append, List.nil_append]
  go_enter Try.func23, Try.ntmps23
  go_wp2
  go_ret
  exact ⟨rfl, (Below.refl _ w').alloc (Nat.le_refl _) _⟩

end Go.Proofs.Ytjnomnaeegcafaa
