import Derived.Test.YtjnomnaeegcafaaE
namespace Go.Proofs.Ytjnomnaeegcafaa
open Go.RowKit

/-! ### What the order of moves is, in plain words -/
def freeM (l : List Mv) (m : Mv) : Bool := !(l.any fun x => x.1 == m.2)
def brk (x spare : Int) (l : List Mv) : List Mv := l.map fun m => if m.1 = x then (spare, m.2) else m
def orderF (spare : Int) : Nat → List Mv → List Mv → List Mv
  | 0, _, out => out
  | _ + 1, [], out => out
  | f + 1, m :: r, out =>
    if (m :: r).any (freeM (m :: r)) then orderF spare f ((m :: r).eraseIdx (firstP (freeM (m :: r)) (m :: r) 0).toNat) (out ++ [(m :: r).getD (firstP (freeM (m :: r)) (m :: r) 0).toNat (0, 0)])
    else orderF spare f (brk m.2 spare (m :: r)) (out ++ [(m.2, spare)])
theorem orderF_nil (spare : Int) (f : Nat) (out : List Mv) : orderF spare f [] out = out := by cases f <;> rfl

structure WF (spare : Int) (l : List Mv) : Prop where
  nodup : (l.map Prod.snd).Nodup
  ne : ∀ m ∈ l, m.2 ≠ spare
def mu (spare : Int) (l : List Mv) : Nat := 2 * l.length + (if l.any (fun m => m.1 == spare) then 0 else 1)

theorem nodup_sub_length : ∀ (a b : List Int), a.Nodup → (∀ x ∈ a, x ∈ b) → a.length ≤ b.length
  | [], _, _, _ => Nat.zero_le _
  | x :: a, b, hn, hs => by
    have hx : x ∈ b := hs x (by simp)
    have hn' := List.nodup_cons.1 hn
    have ih := nodup_sub_length a (b.erase x) hn'.2 (fun y hy => by
      have hne : y ≠ x := fun e => hn'.1 (e ▸ hy)
      exact (List.mem_erase_of_ne hne).2 (hs y (by simp [hy])))
    rw [List.length_erase_of_mem hx] at ih
    have : 0 < b.length := List.length_pos_of_mem hx
    simp only [List.length_cons]
    omega

theorem brk_snd (x spare : Int) (l : List Mv) : (brk x spare l).map Prod.snd = l.map Prod.snd := by
  simp only [brk, List.map_map]
  apply List.map_congr_left
  intro m _
  show (if m.1 = x then (spare, m.2) else m).2 = m.2
  split <;> rfl
theorem brk_length (x spare : Int) (l : List Mv) : (brk x spare l).length = l.length := by simp [brk]

theorem WF.brk {spare : Int} {l : List Mv} (h : WF spare l) (x : Int) : WF spare (brk x spare l) := by
  refine ⟨by rw [brk_snd]; exact h.nodup, fun m hm => ?_⟩
  have : m.2 ∈ (Go.Proofs.Ytjnomnaeegcafaa.brk x spare l).map Prod.snd := List.mem_map_of_mem hm
  rw [brk_snd] at this
  obtain ⟨m', h1, h2⟩ := List.mem_map.1 this
  rw [← h2]; exact h.ne m' h1
theorem WF.erase {spare : Int} {l : List Mv} (h : WF spare l) (j : Nat) : WF spare (l.eraseIdx j) := by
  have hs : (l.eraseIdx j).Sublist l := List.eraseIdx_sublist l j
  exact ⟨(hs.map Prod.snd).nodup h.nodup, fun m hm => h.ne m (hs.subset hm)⟩

theorem mu_erase {spare : Int} {l : List Mv} {j : Nat} (hj : j < l.length) : mu spare (l.eraseIdx j) < mu spare l := by
  unfold mu
  rw [List.length_eraseIdx, if_pos hj]
  split <;> split <;> omega

theorem noSpare {spare : Int} {l : List Mv} (h : WF spare l) (hf : l.any (freeM l) = false) : l.any (fun m => m.1 == spare) = false := by
  rw [← Bool.not_eq_true]
  intro hs
  obtain ⟨m, hm, he⟩ := List.any_eq_true.1 hs
  have he' : m.1 = spare := by simpa using he
  have hsub : ∀ x ∈ l.map Prod.snd, x ∈ (l.map Prod.fst).erase spare := by
    intro x hx
    obtain ⟨q, hq, rfl⟩ := List.mem_map.1 hx
    have h1 : freeM l q = false := by
      have := List.any_eq_false.1 hf q hq
      simpa using this
    have h2 : (l.any fun y => y.1 == q.2) = true := by simpa [freeM] using h1
    obtain ⟨y, hy, hyq⟩ := List.any_eq_true.1 h2
    have hyq' : y.1 = q.2 := by simpa using hyq
    refine (List.mem_erase_of_ne (h.ne q hq)).2 ?_
    rw [← hyq']; exact List.mem_map_of_mem hy
  have hl := nodup_sub_length _ _ h.nodup hsub
  have hmem : spare ∈ l.map Prod.fst := by rw [← he']; exact List.mem_map_of_mem hm
  rw [List.length_erase_of_mem hmem] at hl
  have : 0 < (l.map Prod.fst).length := List.length_pos_of_mem hmem
  simp only [List.length_map] at hl this
  omega

theorem mu_brk {spare : Int} {m : Mv} {r : List Mv} (h : WF spare (m :: r)) (hf : (m :: r).any (freeM (m :: r)) = false) : mu spare (brk m.2 spare (m :: r)) < mu spare (m :: r) := by
  have h1 := noSpare h hf
  have h2 : (brk m.2 spare (m :: r)).any (fun x => x.1 == spare) = true := by
    have hm : freeM (m :: r) m = false := by
      have := List.any_eq_false.1 hf m (by simp)
      simpa using this
    have h3 : ((m :: r).any fun y => y.1 == m.2) = true := by
      unfold freeM at hm
      cases hq : ((m :: r).any fun y => y.1 == m.2)
      · rw [hq] at hm; cases hm
      · rfl
    obtain ⟨y, hy, hyq⟩ := List.any_eq_true.1 h3
    have hyq' : y.1 = m.2 := by simpa using hyq
    refine List.any_eq_true.2 ⟨(spare, y.2), ?_, by simp⟩
    refine List.mem_map.2 ⟨y, hy, ?_⟩
    rw [if_pos hyq']
  unfold mu
  rw [brk_length, h1, h2]
  simp

/-! ### may -/
theorem allM_nodup (spare : Int) : ∀ (xs : List Mv) (tos : List Int), tos.Nodup → allM spare tos xs = true → (tos ++ xs.map Prod.snd).Nodup ∧ ∀ m ∈ xs, isReg m.1 = true ∧ isReg m.2 = true ∧ m.1 ≠ spare ∧ m.2 ≠ spare
  | [], tos, hn, _ => by simpa using hn
  | m :: xs, tos, hn, h => by
    simp only [allM, Bool.and_eq_true, goodM, Bool.not_eq_true'] at h
    obtain ⟨⟨⟨⟨⟨h1, h2⟩, h3⟩, h4⟩, h5⟩, h6⟩ := h
    have hnot : m.2 ∉ tos := by simpa using h5
    have hn2 : (tos ++ [m.2]).Nodup := by
      rw [List.nodup_append]
      exact ⟨hn, by simp, fun a ha b hb => by simp at hb; subst hb; exact fun e => hnot (e ▸ ha)⟩
    obtain ⟨h7, h8⟩ := allM_nodup spare xs (tos ++ [m.2]) hn2 h6
    refine ⟨by simpa using h7, fun q hq => ?_⟩
    rcases List.mem_cons.1 hq with rfl | hq
    · exact ⟨h1, h2, by simpa using h3, by simpa using h4⟩
    · exact h8 q hq

theorem may_facts {xs : List Mv} {spare : Int} (h : mayB xs spare = true) : (xs.map Prod.snd).Nodup ∧ (∀ m ∈ xs, isReg m.1 = true ∧ isReg m.2 = true ∧ m.1 ≠ spare ∧ m.2 ≠ spare) ∧ isReg spare = true ∧ xs.length ≤ 31 := by
  simp only [mayB, Bool.and_eq_true] at h
  obtain ⟨h1, h2⟩ := h
  obtain ⟨h3, h4⟩ := allM_nodup spare xs [] (by simp) h1
  refine ⟨by simpa using h3, h4, h2, ?_⟩
  have := nodup_sub_length (xs.map Prod.snd) ((List.range 31).map fun (n : Nat) => (n : Int)) (by simpa using h3) (fun x hx => by
    obtain ⟨q, hq, rfl⟩ := List.mem_map.1 hx
    have h5 := (h4 q hq).2.1
    simp only [isReg, Bool.and_eq_true, decide_eq_true_eq] at h5
    exact List.mem_map.2 ⟨q.2.toNat, by simp; omega, by omega⟩)
  simpa using this

/-- The moves that are not onto themselves. -/
def realM (xs : List Mv) : List Mv := xs.filter fun m => !(m.1 == m.2)
def orderAll (xs : List Mv) (spare : Int) : List Mv := orderF spare (2 * xs.length + 1) (realM xs) []

theorem realM_wf {xs : List Mv} {spare : Int} (h : mayB xs spare = true) : WF spare (realM xs) := by
  obtain ⟨h1, h2, _, _⟩ := may_facts h
  have hs : (realM xs).Sublist xs := List.filter_sublist
  exact ⟨(hs.map Prod.snd).nodup h1, fun m hm => (h2 m (hs.subset hm)).2.2.2⟩
theorem realM_mu (xs : List Mv) (spare : Int) : mu spare (realM xs) ≤ 2 * xs.length + 1 := by
  have : (realM xs).length ≤ xs.length := List.length_filter_le _ _
  unfold mu
  split <;> omega

end Go.Proofs.Ytjnomnaeegcafaa
