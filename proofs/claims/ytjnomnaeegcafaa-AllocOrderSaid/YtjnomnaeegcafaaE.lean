import Derived.Test.YtjnomnaeegcafaaD
namespace Go.Proofs.Ytjnomnaeegcafaa
open Go.RowKit

theorem cellNew (w : World) (c : Array Value) (e : TypeId) (b i : Nat) (hb : b = w.heap.size) : (w.alloc (.cells c e)).cell? ⟨b, i, none⟩ = c[i]? := by
  subst hb
  unfold World.cell?
  rw [heap_alloc_new]
  rfl
theorem cellOld (w : World) (o : Obj) (b i : Nat) (hb : b < w.heap.size) : (w.alloc o).cell? ⟨b, i, none⟩ = w.cell? ⟨b, i, none⟩ := World.cell?_of_block (Below.heap_alloc _ _ _ hb)

theorem Try.infoMv : (Try.prog.info? 28).map (fun i => (i.zero, i.size, i.bytes)) = some (some (.agg #[.int .i64 0, .int .i64 0]), 2, 16) := by kernel_rfl

def ClonedM (w : World) (xs : List Mv) (e : Ending) (w' : World) : Prop :=
  ∃ a c, e = .returned (.slice a xs.length c) ∧ w'.ownsRow w.heap.size 28 2 (.slice a xs.length c) xs.length (cellsM xs) ∧ Below w.heap.size w w'

theorem clone_nil (w : World) (n c : Nat) :
    Calls Try.prog 19 #[.slice none n c] w fun e w' => e = .returned (.slice none 0 0) ∧ w = w' := by
  have q24 : ∀ (w : World) (a : Option Addr) (n c n' c' : Nat), (binOp .eql 22 (.slice a n c) (.slice none n' c')).run Try.prog w = .ok (.bool a.isNone) w := fun w a n c n' c' => Lib.run_eql_slice_nil w _ _ a n c n' c' Try.underlying22
  go_enter Try.func19, Try.ntmps19
  go_wp2
  go_ret
  exact ⟨rfl, rfl⟩

theorem ownsRow_slice {w : World} {B : Nat} {e : TypeId} {size : Nat} {v : Value} {n : Nat} {xs : List Value} (h : w.ownsRow B e size v n xs) : ∃ a c, v = .slice a n c := by
  rcases h.2 with ⟨rfl, rfl⟩ | ⟨g, cap, cur, rfl, _⟩
  · exact ⟨none, 0, rfl⟩
  · exact ⟨_, _, rfl⟩

set_option maxHeartbeats 400000 in
theorem clone_some (w : World) (a : Addr) (c : Nat) (xs : List Mv) (hn : xs.length * 16 ≤ 140737488355328)
    (hc : Hid (∀ j u, (cellsM xs)[j]? = some u → w.cell? (a.add j) = some u)) :
    Calls Try.prog 19 #[.slice (some a) xs.length c] w (ClonedM w xs) := by
  have q24 : ∀ (w : World) (a : Option Addr) (n c n' c' : Nat), (binOp .eql 22 (.slice a n c) (.slice none n' c')).run Try.prog w = .ok (.bool a.isNone) w := fun w a n c n' c' => Lib.run_eql_slice_nil w _ _ a n c n' c' Try.underlying22
  obtain ⟨i0, hi, hz0, hz1, hz2⟩ := info_parts Try.infoMv
  go_enter Try.func19, Try.ntmps19
  go_wp2_with (at_builtin; refine wpList_append_own _ rfl _ _ 22 rfl w.heap.size 28 i0 (.agg #[.int .i64 0, .int .i64 0]) 2 16 Try.underlying22 hi hz0 hz1 hz2 rfl (by decide) _ _ _ rfl (World.ownsRow_made w #[] 0 (Nat.le_refl _) (Nat.zero_le _) rfl) a xs.length c (cellsM xs) rfl ?qc1 ?qc2 ?qc3 ?qc4 ?qc5 ?qc6 ?_)
  case qc1 => exact cellsM_length xs
  case qc2 =>
    intro j u hj
    exact Lib.cell?_alloc_some _ (hc.out j u hj)
  case qc3 => exact cellsM_one xs
  case qc4 => unfold maxLen; omega
  case qc5 => omega
  case qc6 => simp
  intro v' w1 hown hgrow hnil
  go_wp2
  go_ret
  obtain ⟨a', c', rfl⟩ := ownsRow_slice hown
  refine ⟨a', c', rfl, by simpa using hown, ?_⟩
  exact ((Below.refl _ w).alloc (Nat.le_refl _) _).grown hgrow (by simp) (by intro k hk; simp [Value.ownBlock] at hk; omega)

theorem clone_any (w : World) (v : Value) (xs : List Mv) (h : ReadsM w v xs) (hn : xs.length * 16 ≤ 140737488355328) :
    Calls Try.prog 19 #[v] w (ClonedM w xs) := by
  obtain ⟨a, cap, rfl, h2, h3⟩ := h
  cases a with
  | none =>
    obtain ⟨rfl, rfl⟩ := h2 rfl
    exact (clone_nil w 0 0).mono fun e w' ⟨he, hw⟩ => by subst hw; exact ⟨none, 0, he, World.ownsRow_nil _ _ _ _, Below.refl _ _⟩
  | some a =>
    refine clone_some w a cap xs hn (Lib.hid ?_)
    intro j u hj
    have hlt := (List.getElem?_eq_some_iff.1 hj).1
    rw [cellsM_length] at hlt
    obtain ⟨b, off, he, _, hcc⟩ := h3 (by omega)
    cases he
    rw [Addr.add_lit]
    have hi : j / 2 < xs.length := by omega
    have h4 := hcc (j / 2) hi
    have h5 := cellsM_at xs (j / 2) hi
    rcases (show j = j / 2 * 2 ∨ j = j / 2 * 2 + 1 by omega) with hj2 | hj2
    · rw [hj2, h5.1] at hj
      rw [hj2, ← hj]; exact h4.1
    · rw [hj2, h5.2] at hj
      rw [hj2, ← hj]; exact h4.2

theorem firstP_first (p : Mv → Bool) : ∀ (xs : List Mv) (k : Nat), xs.any p = true → ∃ j, j < xs.length ∧ firstP p xs k = ((k + j : Nat) : Int) ∧ (xs.take j).filter (fun m => !p m) = xs.take j ∧ p (xs.getD j (0, 0)) = true
  | [], _, h => by simp at h
  | m :: xs, k, h => by
    by_cases hm : p m = true
    · exact ⟨0, by simp, by show (if p m then _ else _) = _; rw [if_pos hm]; simp, by simp, by simpa using hm⟩
    · obtain ⟨j, h1, h2, h3, h4⟩ := firstP_first p xs (k + 1) (by simpa [hm] using h)
      refine ⟨j + 1, by simpa using h1, ?_, ?_, by simpa using h4⟩
      · show (if p m then _ else _) = _
        rw [if_neg hm, h2]; congr 1; omega
      · rw [List.take_succ_cons, List.filter_cons, if_pos (by simpa using hm), h3]

/-- The loop's content: what is kept so far, and what is not yet looked at. -/
structure Sifted (p : Mv → Bool) (zs ys : List Mv) (i j : Nat) : Prop where
  len : ys.length = zs.length
  lt : i < j
  le : j ≤ zs.length
  head : ys.take i = (zs.take j).filter fun m => !p m
  tail : ys.drop j = zs.drop j

theorem Sifted.getD {p : Mv → Bool} {zs ys : List Mv} {i j : Nat} (h : Sifted p zs ys i j) (hj : j < zs.length) : ys.getD j (0, 0) = zs.getD j (0, 0) := by
  have h1 : ys.getD j (0, 0) = (ys.drop j).getD 0 (0, 0) := by simp [List.getD, List.getElem?_drop]
  have h2 : zs.getD j (0, 0) = (zs.drop j).getD 0 (0, 0) := by simp [List.getD, List.getElem?_drop]
  rw [h1, h2, h.tail]

theorem Sifted.drop {p : Mv → Bool} {zs ys : List Mv} {i j : Nat} (h : Sifted p zs ys i j) (hj : j < zs.length) (hp : p (zs.getD j (0, 0)) = true) : Sifted p zs ys i (j + 1) := by
  refine ⟨h.len, by have := h.lt; omega, hj, ?_, ?_⟩
  · rw [h.head, List.take_succ_eq_append_getElem hj, List.filter_append]
    have : p zs[j] = true := by simpa [List.getD, List.getElem?_eq_getElem hj] using hp
    simp [this]
  · rw [← List.drop_drop, ← List.drop_drop, h.tail]

theorem Sifted.keep {p : Mv → Bool} {zs ys : List Mv} {i j : Nat} (h : Sifted p zs ys i j) (hj : j < zs.length) (hp : p (zs.getD j (0, 0)) = false) : Sifted p zs (ys.set i (zs.getD j (0, 0))) (i + 1) (j + 1) := by
  have hi : i < ys.length := by rw [h.len]; have := h.lt; omega
  have hlt := h.lt
  refine ⟨by rw [List.length_set]; exact h.len, by omega, hj, ?_, ?_⟩
  · have hz : zs[j] = zs.getD j (0, 0) := by simp [List.getD, List.getElem?_eq_getElem hj]
    have e1 : (ys.set i (zs.getD j (0, 0))).take (i + 1) = ys.take i ++ [zs.getD j (0, 0)] := by
      apply List.ext_getElem
      · simp; omega
      · intro k h1 h2
        simp only [List.getElem_take, List.getElem_set, List.getElem_append, List.length_take]
        have : k < i + 1 := by simp at h1; omega
        by_cases hk : i = k
        · subst hk; simp [show min i ys.length = i by omega]
        · rw [if_neg hk, dif_pos (by omega)]
    rw [e1, h.head, List.take_succ_eq_append_getElem hj, List.filter_append, hz]
    simp only [List.filter_cons, List.filter_nil, hp]
    rfl
  · rw [List.drop_set_of_lt (by omega), ← List.drop_drop, ← List.drop_drop, h.tail]

def Deleted (w : World) (g cap : Nat) (rest : List Value) (p : Mv → Bool) (zs : List Mv) (e : Ending) (w' : World) : Prop :=
  ∃ ys, e = .returned (.slice (some ⟨g, 0, none⟩) (zs.filter fun m => !p m).length cap) ∧ Row w' g cap ys rest ∧ ys.length = zs.length ∧ ys.take (zs.filter fun m => !p m).length = (zs.filter fun m => !p m) ∧ Ch (fun k => k = g) w w'

set_option maxRecDepth 100000 in
set_option maxHeartbeats 4000000 in
theorem deleteFunc_row (w : World) (g cap : Nat) (rest : List Value) (zs : List Mv) (hr : Row w g cap zs rest) (hl : zs.length ≤ 140737488355328) (pg : Nat) (lb : Array Value) (p : Mv → Bool) (ht : ∀ w', Tells Try.prog pg lb p w')
    (eg : ∀ args w, (callFunc pg args).run Try.prog w = .ok (.enter pg args) w) :
    Calls Try.prog 18 #[.slice (some ⟨g, 0, none⟩) zs.length cap, .func (.func pg) #[] lb] w (Deleted w g cap rest p zs) := by
  have hle := hr.le
  have hI := index_any w (.slice (some ⟨g, 0, none⟩) zs.length cap) zs (by simpa using hr.reads zs.length (Nat.le_refl _)) (by omega) pg lb p (ht w) eg
  cases hany : zs.any p
  · have hall : ∀ m ∈ zs, p m = false := by simpa using hany
    rw [firstP_none p zs 0 hall] at hI
    have hf : (zs.filter fun m => !p m) = zs := List.filter_eq_self.2 (fun m hm => by simp [hall m hm])
    have HI := Lib.hid hI
    have HR := Lib.hid hr
    clear hI hr hall hany ht
    go_enter Try.func18, Try.ntmps18
    go_wp2_with fail
    refine HI.out.mono ?_
    rintro e w1 ⟨rfl, hb⟩
    clear HI
    go_wp2
    go_ret
    have hc : Ch (fun k => k = g) w w1 := Ch.of_below hb
    refine ⟨zs, by rw [hf]; rfl, HR.out.ch (F := fun _ => False) (Ch.of_below hb) (by simp), rfl, by rw [hf]; simp, hc⟩
  · obtain ⟨i0, h1, h2, h3, h4⟩ := firstP_first p zs 0 hany
    rw [h2, Nat.zero_add] at hI
    have hS : Sifted p zs zs i0 (i0 + 1) := ⟨rfl, by omega, by omega, by
      have : p zs[i0] = true := by simpa [List.getD, List.getElem?_eq_getElem h1] using h4
      rw [List.take_succ_eq_append_getElem h1, List.filter_append, h3]; simp [this], rfl⟩
    have HI := Lib.hid hI
    have HR := Lib.hid hr
    have HT := Lib.hid ht
    have HS := Lib.hid hS
    have hlt := hr.lt
    clear hI hr hany ht hS h2 h3 h4
    have b1 : ((i0 : Int) == -1) = false := by simp
    go_enter Try.func18, Try.ntmps18
    go_wp2_with fail
    refine HI.out.mono ?_
    rintro e w1 ⟨rfl, hb⟩
    have hR1 : Row w1 g cap zs rest := HR.out.ch (F := fun _ => False) (Ch.of_below hb) (by simp)
    have hc1 : Ch (fun k => k = g) w w1 := Ch.of_below hb
    clear HI HR hb
    go_wp2
    go_loopw [5, 6] (fun si sj wr => ∃ (i j : Nat) (ys : List Mv), si = .int .i64 i ∧ sj = .int .i64 j ∧ Sifted p zs ys i j ∧ Row wr g cap ys rest ∧ Ch (fun k => k = g) w wr) (fun _ sj _ => zs.length - (intOf sj).toNat)
    case atStart => exact ⟨i0, i0 + 1, zs, rfl, by go_num, HS.out, hR1, hc1⟩
    case round =>
      obtain ⟨i, j, ys, rfl, rfl, hS, hR, hc⟩ := hrel
      have hij := hS.lt
      have hjl := hS.le
      have hyl := hS.len
      clear HS hR1 hc1
      by_cases hj : j < zs.length
      · have c0 := (hR.cells j (by omega)).1
        have c1 := (hR.cells j (by omega)).2
        have d0 := (hR.cells i (by omega)).1
        have d1 := (hR.cells i (by omega)).2
        have f0 := hR.frozen (i * 2)
        have f1 := hR.frozen (i * 2 + 1)
        rw [hS.getD hj] at c0 c1
        obtain ⟨m, hm⟩ : ∃ m, zs.getD j (0, 0) = m := ⟨_, rfl⟩
        obtain ⟨u, hu⟩ : ∃ u, ys.getD i (0, 0) = u := ⟨_, rfl⟩
        rw [hm] at c0 c1
        rw [hu] at d0 d1
        have HX := Lib.hid hm
        have HS := Lib.hid hS
        have HR := Lib.hid hR
        have HC := Lib.hid hc
        clear hm hu hS hR hc
        have e1 : decide ((j : Int) < (zs.length : Int)) = true := by simp; omega
        have p0 : (0 : Int) ≤ (j : Int) := by omega
        have p1 : (j : Int) < (zs.length : Int) := by omega
        have p2 : (0 : Int) ≤ (i : Int) := by omega
        have p3 : (i : Int) < (zs.length : Int) := by omega
        go_wp2_with fail
        refine (HT.out _ m _ (Below.refl _ _)).mono ?_
        rintro e w2 ⟨rfl, hb2⟩
        have hba : Below wr.heap.size wr w2 := ((Below.refl _ wr).alloc (Nat.le_refl _) _).trans (hb2.mono (by simp))
        have hR2 : Row w2 g cap ys rest := HR.out.ch (F := fun _ => False) (Ch.of_below hba) (by simp)
        have hC2 : Ch (fun k => k = g) w w2 := HC.out.trans (F' := fun _ => False) (Ch.of_below hba) (fun _ _ h => h.elim)
        have k0 : w2.cell? ⟨wr.heap.size, 0, none⟩ = some (.int .i64 m.1) := (hb2.cell (p := ⟨wr.heap.size, 0, none⟩) (by simp)).trans (cellNew _ _ _ _ _ rfl)
        have k1 : w2.cell? ⟨wr.heap.size, 1, none⟩ = some (.int .i64 m.2) := (hb2.cell (p := ⟨wr.heap.size, 1, none⟩) (by simp)).trans (cellNew _ _ _ _ _ rfl)
        replace d0 := (hba.cell (p := ⟨g, i * 2, none⟩) HR.out.lt).trans d0
        replace d1 := (hba.cell (p := ⟨g, i * 2 + 1, none⟩) HR.out.lt).trans d1
        replace f0 := hR2.frozen (i * 2)
        replace f1 := hR2.frozen (i * 2 + 1)
        have HR2 := Lib.hid hR2
        have HC2 := Lib.hid hC2
        clear hb2 hba hR2 hC2 c0 c1
        cases hp : p m
        · have hS2 := HS.out.keep hj (by rw [HX.out]; exact hp)
          rw [HX.out] at hS2
          have HS2 := Lib.hid hS2
          clear hS2
          go_wp2_with fail
          have hR3 := HR2.out.set i (by omega) m
          have hC3 := (HC2.out.setCell ⟨g, i * 2, none⟩ (.int .i64 m.1) (fun _ => rfl)).setCell ⟨g, i * 2 + 1, none⟩ (.int .i64 m.2) (fun _ => rfl)
          go_roundw
          case rel => exact ⟨i + 1, j + 1, _, by go_num, by go_num, HS2.out, hR3, hC3⟩
          case measure => simp [intOf]; omega
        · have hS2 := HS.out.drop hj (by rw [HX.out]; exact hp)
          have HS2 := Lib.hid hS2
          clear hS2
          go_wp2_with fail
          go_roundw
          case rel => exact ⟨i, j + 1, _, rfl, by go_num, HS2.out, HR2.out, HC2.out⟩
          case measure => simp [intOf]; omega
      · obtain rfl : j = zs.length := by omega
        have e1 : decide ((zs.length : Int) < (zs.length : Int)) = false := by simp
        have hhead := hS.head
        rw [List.take_length] at hhead
        have hfl : (zs.filter fun m => !p m).length = i := by rw [← hhead]; simp; omega
        have hclr := run_clear2 wr g (i * 2) (zs.length - i) (cap - i) (by omega) (fun q hq => hR.there _ (by have := hR.le; omega)) (fun q _ => hR.frozen _)
        have hR4 := hR.over i (List.replicate (zs.length - i) (0, 0)) (by simp; omega)
        have hC4 : Ch (fun k => k = g) w (wr.setCells g (i * 2) (cellsM (List.replicate (zs.length - i) (0, 0)))) := Ch.setCells (F := fun k => k = g) (fun _ => rfl) _ _ _ hc
        have HR4 := Lib.hid hR4
        have HC4 := Lib.hid hC4
        have HF := Lib.hid (And.intro hhead hfl)
        obtain ⟨W4, hW4⟩ : ∃ W4, wr.setCells g (i * 2) (cellsM (List.replicate (zs.length - i) (0, 0))) = W4 := ⟨_, rfl⟩
        rw [hW4] at hclr HR4 HC4
        clear hR4 hC4 hhead hfl hS hR hc hW4
        have p2 : (0 : Int) ≤ (i : Int) := by omega
        have p3 : (i : Int) ≤ (zs.length : Int) := by omega
        go_wp2
        go_ret
        refine ⟨_, by rw [HF.out.2]; rfl, HR4.out, ?_, ?_, HC4.out⟩
        · simp only [List.length_append, List.length_take, List.length_replicate, List.length_drop]; omega
        · rw [HF.out.2, ← HF.out.1, List.append_assoc, List.take_append_of_le_length (by simp; omega), List.take_take, Nat.min_self]

set_option maxHeartbeats 1000000 in
theorem deleteFunc_nil (w : World) (fv : Value) : Calls Try.prog 18 #[.slice none 0 0, fv] w fun e w' => e = .returned (.slice none 0 0) ∧ w = w' := by
  have hI : Calls Try.prog 24 #[.slice none 0 0, fv] w fun e w' => e = .returned (.int .i64 (-1)) ∧ w = w' := by
    go_enter Try.func24, Try.ntmps24
    go_wp2
    go_loopw [8] (fun i wr => i = .int .i64 0 ∧ wr = w) (fun _ _ => 0)
    case atStart => exact ⟨rfl, rfl⟩
    case round =>
      obtain ⟨rfl, rfl⟩ := hrel
      go_wp2
      go_ret
      exact ⟨rfl, rfl⟩
  have HI := Lib.hid hI
  clear hI
  go_enter Try.func18, Try.ntmps18
  go_wp2_with fail
  refine HI.out.mono ?_
  rintro e w1 ⟨rfl, rfl⟩
  go_wp2
  go_ret
  exact ⟨rfl, rfl⟩

theorem erase_parts (zs : List Mv) (n at0 : Nat) (hn : n ≤ zs.length) (ha : at0 < n) : (zs.take n).eraseIdx at0 = zs.take at0 ++ (zs.drop (at0 + 1)).take (n - at0 - 1) := by
  rw [List.eraseIdx_eq_take_drop_succ, List.take_take, List.drop_take, show min at0 n = at0 by omega, show n - (at0 + 1) = n - at0 - 1 by omega]

set_option maxRecDepth 100000 in
set_option maxHeartbeats 4000000 in
theorem delete_core (w : World) (g cap : Nat) (rest : List Value) (zs : List Mv) (hr : Row w g cap zs rest) (hl : zs.length ≤ 140737488355328) (n at0 : Nat) (hn : n ≤ zs.length) (ha : at0 < n) (off' : Nat)
    (hoff : off' = if cap = at0 + 1 then 0 else (at0 + 1) * 2) :
    Calls Try.prog 26 #[.slice (some ⟨g, 0, none⟩) n cap, .int .i64 at0, .int .i64 (at0 + 1)] w fun e w' =>
      ∃ ys, e = .returned (.slice (some ⟨g, 0, none⟩) (n - 1) cap) ∧ Row w' g cap ys rest ∧ ys.length = zs.length ∧ ys.take (n - 1) = (zs.take n).eraseIdx at0 ∧ Ch (fun k => k = g) w w' := by
  have hle := hr.le
  obtain ⟨i0, hi, hz0, hz1, hz2⟩ := info_parts Try.infoMv
  obtain ⟨m, hm⟩ : ∃ m, n - at0 - 1 = m := ⟨_, rfl⟩
  obtain ⟨ys, hys⟩ : ∃ ys, (zs.drop (at0 + 1)).take m = ys := ⟨_, rfl⟩
  have hyl : ys.length = m := by rw [← hys]; simp; omega
  have hE := erase_parts zs n at0 hn ha
  rw [hm, hys] at hE
  have hr1 : Row w.drew g cap zs rest := ⟨hr.heap, hr.size⟩
  have hnews : ∀ j u, (cellsM ys)[j]? = some u → w.drew.cell? ((⟨g, off', none⟩ : Addr).add j) = some u := by
    intro j u hj
    have hlt := (List.getElem?_eq_some_iff.1 hj).1
    rw [cellsM_length, hyl] at hlt
    rw [if_neg (by omega)] at hoff
    subst hoff
    have hi' : j / 2 < ys.length := by omega
    have hgd : ys.getD (j / 2) (0, 0) = zs.getD (at0 + 1 + j / 2) (0, 0) := by
      rw [← hys]; simp [List.getD, List.getElem?_take, List.getElem?_drop, show j / 2 < m by omega]
    have h4 := hr1.cells (at0 + 1 + j / 2) (by omega)
    have h5 := cellsM_at ys (j / 2) hi'
    rw [Addr.add_lit]
    rcases (show j = j / 2 * 2 ∨ j = j / 2 * 2 + 1 by omega) with hj2 | hj2
    · rw [hj2, h5.1] at hj
      rw [hj2, ← hj, hgd, ← h4.1]; congr 2; omega
    · rw [hj2, h5.2] at hj
      rw [hj2, ← hj, hgd, ← h4.2]; congr 2; omega
  have hspare : ∀ j, j < (cellsM ys).length → (w.drew.cell? ⟨g, 0 + at0 * 2 + j, none⟩).isSome = true ∧ w.drew.frozen? ⟨g, 0 + at0 * 2 + j, none⟩ = false := by
    intro j hj
    rw [cellsM_length, hyl] at hj
    exact ⟨hr1.there _ (by omega), hr1.frozen _⟩
  have hR1 := hr1.over at0 ys (by omega)
  have hC1 : Ch (fun k => k = g) w (w.drew.setCells g (at0 * 2) (cellsM ys)) := Ch.setCells (F := fun k => k = g) (fun _ => rfl) _ _ _ ((Ch.refl _ w).drewN 1)
  obtain ⟨zs1, hzs1⟩ : ∃ zs1, zs.take at0 ++ ys ++ zs.drop (at0 + ys.length) = zs1 := ⟨_, rfl⟩
  rw [hzs1] at hR1
  have hz1l : zs1.length = zs.length := by rw [← hzs1]; simp; omega
  have hz1t : zs1.take (n - 1) = zs.take at0 ++ ys := by
    rw [← hzs1, List.take_left' (by simp; omega)]
  obtain ⟨W1, hW1⟩ : ∃ W1, w.drew.setCells g (0 + at0 * 2) (cellsM ys) = W1 := ⟨_, rfl⟩
  have hW1' : w.drew.setCells g (at0 * 2) (cellsM ys) = W1 := by rw [← hW1, Nat.zero_add]
  rw [hW1'] at hR1 hC1
  have hclr := run_clear2 W1 g ((n - 1) * 2) 1 (cap - (n - 1)) (by omega) (fun q hq => hR1.there _ (by omega)) (fun q _ => hR1.frozen _)
  have hR4 := hR1.over (n - 1) [(0, 0)] (by simp; omega)
  have hC4 : Ch (fun k => k = g) w (W1.setCells g ((n - 1) * 2) (cellsM [(0, 0)])) := Ch.setCells (F := fun k => k = g) (fun _ => rfl) _ _ _ hC1
  have hlast : (zs1.take (n - 1) ++ [(0, 0)] ++ zs1.drop (n - 1 + 1)).length = zs.length ∧ (zs1.take (n - 1) ++ [(0, 0)] ++ zs1.drop (n - 1 + 1)).take (n - 1) = (zs.take n).eraseIdx at0 := by
    constructor
    · simp; omega
    · rw [List.append_assoc, List.take_append_of_le_length (by simp; omega), List.take_take, Nat.min_self, hz1t, hE]
  obtain ⟨W4, hW4⟩ : ∃ W4, W1.setCells g ((n - 1) * 2) (cellsM [(0, 0)]) = W4 := ⟨_, rfl⟩
  have hrep : cellsM (List.replicate 1 (0, 0)) = cellsM [(0, 0)] := rfl
  rw [hrep, hW4] at hclr
  simp only [List.length_cons, List.length_nil, Nat.zero_add] at hR4
  rw [hW4] at hR4 hC4
  have HE := Lib.hid (And.intro hlast (And.intro hR4 hC4))
  have HN := Lib.hid (And.intro (cellsM_length ys ▸ (by rw [hyl]) : (cellsM ys).length = m * 2) (And.intro hnews hspare))
  have HW := Lib.hid hW1
  have HW2 := Lib.hid hW1'
  clear hr hr1 hE hys hyl hnews hspare hR1 hC1 hzs1 hz1l hz1t hW1 hW1' hR4 hC4 hlast hrep hW4
  have p0 : (0 : Int) ≤ (at0 : Int) := by omega
  have p1 : (at0 : Int) + 1 ≤ (n : Int) := by omega
  have p2 : (n : Int) ≤ (cap : Int) := by omega
  have b1 : ((at0 : Int) == (at0 : Int) + 1) = false := by simp; omega
  have hnm : n = at0 + m + 1 := by omega
  by_cases hcap : cap = at0 + 1
  · rw [if_pos hcap] at hoff
    subst hoff hcap
    obtain rfl : m = 0 := by omega
    subst hnm
    simp only [Nat.add_zero, Nat.add_sub_cancel, Nat.add_sub_cancel_left] at *
    have x0 : (0 : Int) ≤ (at0 : Int) + 1 := by omega
    have x1 : (at0 : Int) ≤ (at0 : Int) + 1 := by omega
    have x2 : at0 ≤ at0 + 1 := by omega
    go_enter Try.func26, Try.ntmps26
    go_wp2_with fail
    go_region_law (first | (refine step_append_room rfl (.tmp 22) (.tmp 25) 22 rfl 28 i0 2 Try.underlying22 hi hz1 g 0 at0 (at0 + 1) (by rfl) ⟨g, 0, none⟩ 0 0 (cellsM ys) (by rfl) HN.out.1 HN.out.2.1 (cellsM_one ys) (by omega) HN.out.2.2 ?_))
    first | rw [HW.out] | rw [HW2.out]
    have y1 : ¬ at0 + 1 = at0 := by omega
    go_wp2
    go_ret
    exact ⟨_, rfl, HE.out.2.1, HE.out.1.1, HE.out.1.2, HE.out.2.2⟩
  · rw [if_neg hcap] at hoff
    subst hoff hnm
    simp only [Nat.add_sub_cancel] at *
    have x0 : (0 : Int) ≤ (at0 : Int) + 1 := by omega
    have x1 : at0 ≤ cap := by omega
    have x2 : (at0 : Int) ≤ (cap : Int) := by omega
    have x3 : at0 + 1 ≤ cap := by omega
    have x4 : at0 + 1 ≤ at0 + m + 1 := by omega
    have x5 : (at0 : Int) + 1 ≤ (at0 : Int) + m + 1 := by omega
    have x6 : (at0 : Int) + m + 1 ≤ cap := by omega
    have x7 : at0 + m + 1 ≤ cap := by omega
    go_enter Try.func26, Try.ntmps26
    go_wp2_with fail
    go_region_law (first | (refine step_append_room rfl (.tmp 22) (.tmp 25) 22 rfl 28 i0 2 Try.underlying22 hi hz1 g 0 at0 cap (by rfl) ⟨g, (at0 + 1) * 2, none⟩ m (cap - (at0 + 1)) (cellsM ys) (by rfl) HN.out.1 HN.out.2.1 (cellsM_one ys) (by omega) HN.out.2.2 ?_))
    first | rw [HW.out] | rw [HW2.out]
    have y1 : ¬ cap = at0 + m := by omega
    have y2 : (0 : Int) ≤ (at0 : Int) + m := by omega
    have y3 : (at0 : Int) + m ≤ (at0 : Int) + m + 1 := by omega
    have y4 : at0 + m ≤ at0 + m + 1 := by omega
    go_wp2
    go_ret
    exact ⟨_, rfl, HE.out.2.1, HE.out.1.1, HE.out.1.2, HE.out.2.2⟩

theorem delete_row (w : World) (g cap : Nat) (rest : List Value) (zs : List Mv) (hr : Row w g cap zs rest) (hl : zs.length ≤ 140737488355328) (n at0 : Nat) (hn : n ≤ zs.length) (ha : at0 < n) :
    Calls Try.prog 26 #[.slice (some ⟨g, 0, none⟩) n cap, .int .i64 at0, .int .i64 (at0 + 1)] w fun e w' =>
      ∃ ys, e = .returned (.slice (some ⟨g, 0, none⟩) (n - 1) cap) ∧ Row w' g cap ys rest ∧ ys.length = zs.length ∧ ys.take (n - 1) = (zs.take n).eraseIdx at0 ∧ Ch (fun k => k = g) w w' :=
  delete_core w g cap rest zs hr hl n at0 hn ha _ rfl

end Go.Proofs.Ytjnomnaeegcafaa
