import Derived.Test.YtjnomnaeegcafaaF
namespace Go.Proofs.Ytjnomnaeegcafaa
open Go.RowKit

/-! ### Moves one after the other -/
def step (X : Int → Int) (m : Mv) : Int → Int := fun r => if r = m.2 then X m.1 else X r
def exec (X : Int → Int) (ms : List Mv) : Int → Int := ms.foldl step X

theorem orderF_out (spare : Int) : ∀ (k : Nat) (left out : List Mv), orderF spare k left out = out ++ orderF spare k left []
  | 0, _, out => by simp [orderF]
  | k + 1, [], out => by simp [orderF]
  | k + 1, m :: r, out => by
    simp only [orderF]
    split
    · rw [orderF_out spare k _ (out ++ _), orderF_out spare k _ ([] ++ _)]; simp
    · rw [orderF_out spare k _ (out ++ _), orderF_out spare k _ ([] ++ _)]; simp

theorem nodup_erase {left : List Mv} (hn : (left.map Prod.snd).Nodup) {j : Nat} (hj : j < left.length) : ∀ m ∈ left.eraseIdx j, m.2 ≠ (left[j]).2 := by
  intro m hm e
  obtain ⟨i, hi, rfl⟩ := List.mem_iff_getElem.1 hm
  rw [List.length_eraseIdx_of_lt hj] at hi
  rw [List.getElem_eraseIdx] at e
  have hnn := List.pairwise_iff_getElem.1 hn
  split at e
  · rename_i h
    exact hnn i j (by simp; omega) (by simpa using hj) h (by simpa using e)
  · rename_i h
    exact hnn j (i + 1) (by simpa using hj) (by simp; omega) (by omega) (by simpa using e.symm)

theorem mem_erase {left : List Mv} {j : Nat} (hj : j < left.length) {m : Mv} (hm : m ∈ left) : m = left[j] ∨ m ∈ left.eraseIdx j := by
  obtain ⟨i, hi, rfl⟩ := List.mem_iff_getElem.1 hm
  by_cases e : i = j
  · subst e; exact .inl rfl
  · refine .inr (List.mem_iff_getElem.2 ?_)
    by_cases h : i < j
    · exact ⟨i, by rw [List.length_eraseIdx_of_lt hj]; omega, by rw [List.getElem_eraseIdx, dif_pos h]⟩
    · refine ⟨i - 1, by rw [List.length_eraseIdx_of_lt hj]; omega, ?_⟩
      rw [List.getElem_eraseIdx, dif_neg (by omega)]
      congr 1
      omega

theorem exec_order (spare : Int) : ∀ (k : Nat) (left : List Mv) (X : Int → Int), WF spare left → mu spare left ≤ k →
    (∀ m ∈ left, exec X (orderF spare k left []) m.2 = X m.1) ∧ ∀ r, r ≠ spare → (∀ m ∈ left, m.2 ≠ r) → exec X (orderF spare k left []) r = X r
  | 0, left, X, _, hmu => by
    have : left = [] := by
      unfold mu at hmu
      exact List.eq_nil_of_length_eq_zero (by omega)
    subst this
    exact ⟨fun m hm => by simp at hm, fun r _ _ => rfl⟩
  | k + 1, [], X, _, _ => ⟨fun m hm => by simp at hm, fun r _ _ => rfl⟩
  | k + 1, m0 :: r0, X, hwf, hmu => by
    obtain ⟨left, hleft⟩ : ∃ left, m0 :: r0 = left := ⟨_, rfl⟩
    simp only [orderF]
    rw [hleft] at hwf hmu ⊢
    split
    · rename_i hany
      obtain ⟨j, hj, hfj, hpre, hfree⟩ := firstP_first (freeM left) left 0 hany
      rw [hfj, Nat.zero_add, Int.toNat_natCast]
      have hgd : left.getD j (0, 0) = left[j] := by simp [List.getD, List.getElem?_eq_getElem hj]
      rw [hgd] at hfree ⊢
      have hfr : ∀ m ∈ left, m.1 ≠ (left[j]).2 := by
        intro m hm e
        have : (left.any fun x => x.1 == (left[j]).2) = true := List.any_eq_true.2 ⟨m, hm, by simpa using e⟩
        simp [freeM, this] at hfree
      rw [orderF_out, List.nil_append]
      have hmu' := mu_erase (spare := spare) hj
      obtain ⟨h1, h2⟩ := exec_order spare k (left.eraseIdx j) (step X left[j]) (hwf.erase j) (by omega)
      have hex : ∀ r, exec X ([left[j]] ++ orderF spare k (left.eraseIdx j) []) r = exec (step X left[j]) (orderF spare k (left.eraseIdx j) []) r := fun r => rfl
      refine ⟨fun m hm => ?_, fun r hr hne => ?_⟩
      · rw [hex]
        rcases mem_erase hj hm with rfl | hm'
        · rw [h2 _ (hwf.ne _ (List.getElem_mem hj)) (nodup_erase hwf.nodup hj)]
          simp [step]
        · rw [h1 m hm']
          simp only [step]
          rw [if_neg (hfr m hm)]
      · rw [hex, h2 r hr (fun m hm => hne m ((List.eraseIdx_sublist left j).subset hm))]
        simp only [step]
        rw [if_neg (fun e => hne _ (List.getElem_mem hj) e.symm)]
    · rename_i hany
      have hany' : left.any (freeM left) = false := by simpa using hany
      have hns := noSpare hwf hany'
      have hmu' : mu spare (brk m0.2 spare left) < mu spare left := by rw [← hleft] at hwf hany' ⊢; exact mu_brk hwf hany'
      rw [orderF_out, List.nil_append]
      obtain ⟨h1, h2⟩ := exec_order spare k (brk m0.2 spare left) (step X (m0.2, spare)) (hwf.brk _) (by omega)
      have hex : ∀ r, exec X ([(m0.2, spare)] ++ orderF spare k (brk m0.2 spare left) []) r = exec (step X (m0.2, spare)) (orderF spare k (brk m0.2 spare left) []) r := fun r => rfl
      refine ⟨fun m hm => ?_, fun r hr hne => ?_⟩
      · rw [hex]
        have hm' : (if m.1 = m0.2 then (spare, m.2) else m) ∈ brk m0.2 spare left := List.mem_map.2 ⟨m, hm, rfl⟩
        have := h1 _ hm'
        by_cases e : m.1 = m0.2
        · rw [if_pos e] at this
          rw [this, e]
          simp [step]
        · rw [if_neg e] at this
          rw [this]
          simp only [step]
          rw [if_neg]
          intro e2
          have := List.any_eq_false.1 hns m hm
          simp [e2] at this
      · rw [hex, h2 r hr (fun m hm => ?_)]
        · simp only [step]
          rw [if_neg hr]
        · have : m.2 ∈ (brk m0.2 spare left).map Prod.snd := List.mem_map_of_mem hm
          rw [brk_snd] at this
          obtain ⟨q, hq, e⟩ := List.mem_map.1 this
          rw [← e]; exact hne q hq

theorem regs_order (spare : Int) (P : Int → Prop) (hs : P spare) : ∀ (k : Nat) (left : List Mv), (∀ m ∈ left, P m.1 ∧ P m.2) → ∀ m ∈ orderF spare k left [], P m.1 ∧ P m.2
  | 0, _, _, m, hm => by simp [orderF] at hm
  | k + 1, [], _, m, hm => by simp [orderF] at hm
  | k + 1, m0 :: r0, hl, m, hm => by
    simp only [orderF] at hm
    split at hm
    · rw [orderF_out, List.nil_append] at hm
      rcases List.mem_append.1 hm with h | h
      · rename_i hany
        obtain ⟨j, hj, hfj, -, -⟩ := firstP_first (freeM (m0 :: r0)) (m0 :: r0) 0 hany
        rw [hfj, Nat.zero_add, Int.toNat_natCast] at h
        have hgd : (m0 :: r0).getD j (0, 0) = (m0 :: r0)[j] := by simp [List.getD, List.getElem?_eq_getElem hj]
        rw [hgd] at h
        simp only [List.mem_singleton] at h
        rw [h]; exact hl _ (List.getElem_mem hj)
      · exact regs_order spare P hs k _ (fun q hq => hl q ((List.eraseIdx_sublist _ _).subset hq)) m h
    · rw [orderF_out, List.nil_append] at hm
      rcases List.mem_append.1 hm with h | h
      · simp only [List.mem_singleton] at h
        rw [h]; exact ⟨(hl m0 (by simp)).2, hs⟩
      · refine regs_order spare P hs k _ (fun q hq => ?_) m h
        obtain ⟨q', hq', rfl⟩ := List.mem_map.1 hq
        split
        · exact ⟨hs, (hl q' hq').2⟩
        · exact hl q' hq'

/-- All at once. -/
def put (Y : Int → Int) (m : Mv) : Int → Int := fun r => if r = m.2 then 100 + m.1 else Y r
def puts (Y : Int → Int) (ms : List Mv) : Int → Int := ms.foldl put Y
theorem puts_none : ∀ (ms : List Mv) (Y : Int → Int) (r : Int), (∀ m ∈ ms, m.2 ≠ r) → puts Y ms r = Y r
  | [], _, _, _ => rfl
  | m :: ms, Y, r, h => by
    show puts (put Y m) ms r = _
    rw [puts_none ms _ r (fun q hq => h q (by simp [hq]))]
    simp only [put]
    rw [if_neg (fun e => h m (by simp) e.symm)]
theorem puts_some : ∀ (ms : List Mv) (Y : Int → Int), (ms.map Prod.snd).Nodup → ∀ m ∈ ms, puts Y ms m.2 = 100 + m.1
  | [], _, _, _, h => by simp at h
  | q :: ms, Y, hn, m, h => by
    have hn' := List.nodup_cons.1 hn
    show puts (put Y q) ms m.2 = _
    rcases List.mem_cons.1 h with rfl | h'
    · rw [puts_none ms _ _ (fun p hp e => hn'.1 (List.mem_map.2 ⟨p, hp, e⟩))]
      simp [put]
    · exact puts_some ms _ hn'.2 m h'

/-- The law: done one after the other they do what all do at once. -/
theorem moves_law {xs : List Mv} {spare : Int} (h : mayB xs spare = true) (r : Int) (hr : r ≠ spare) : exec (fun r => 100 + r) (orderAll xs spare) r = puts (fun r => 100 + r) xs r := by
  obtain ⟨hn, hreg, hs, hlen⟩ := may_facts h
  obtain ⟨h1, h2⟩ := exec_order spare (2 * xs.length + 1) (realM xs) (fun r => 100 + r) (realM_wf h) (realM_mu xs spare)
  by_cases hin : ∃ m ∈ xs, m.2 = r
  · obtain ⟨m, hm, rfl⟩ := hin
    rw [puts_some xs _ hn m hm]
    by_cases e : m.1 = m.2
    · rw [e]
      refine h2 m.2 hr (fun q hq => ?_)
      have hq' := List.mem_filter.1 hq
      intro e2
      have hqm : q = m := by
        obtain ⟨i, hi, rfl⟩ := List.mem_iff_getElem.1 hq'.1
        obtain ⟨j, hj, rfl⟩ := List.mem_iff_getElem.1 hm
        have hnn := List.pairwise_iff_getElem.1 hn
        rcases Nat.lt_trichotomy i j with h | h | h
        · exact absurd (by rw [List.getElem_map, List.getElem_map]; exact e2) (hnn i j (by simpa using hi) (by simpa using hj) h)
        · subst h; rfl
        · exact absurd (by rw [List.getElem_map, List.getElem_map]; exact e2.symm) (hnn j i (by simpa using hj) (by simpa using hi) h)
      have := hq'.2
      rw [hqm] at this
      simp [e] at this
    · exact h1 m (List.mem_filter.2 ⟨hm, by simpa using e⟩)
  · rw [puts_none xs _ r (fun m hm e => hin ⟨m, hm, e⟩)]
    exact h2 r hr (fun m hm e => hin ⟨m, (List.mem_filter.1 hm).1, e⟩)
theorem moves_regs {xs : List Mv} {spare : Int} (h : mayB xs spare = true) : ∀ m ∈ orderAll xs spare, (0 ≤ m.1 ∧ m.1 ≤ 30) ∧ (0 ≤ m.2 ∧ m.2 ≤ 30) := by
  obtain ⟨hn, hreg, hs, hlen⟩ := may_facts h
  have hp : ∀ x, isReg x = true → 0 ≤ x ∧ x ≤ 30 := fun x hx => by simpa [isReg] using hx
  exact regs_order spare (fun x => 0 ≤ x ∧ x ≤ 30) (hp _ hs) _ _ (fun m hm => by
    have := hreg m (List.mem_filter.1 hm).1
    exact ⟨hp _ this.1, hp _ this.2.1⟩)

end Go.Proofs.Ytjnomnaeegcafaa
