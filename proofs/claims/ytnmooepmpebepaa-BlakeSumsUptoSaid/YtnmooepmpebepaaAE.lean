import Derived.Test.YtnmooepmpebepaaAD
import Derived.Test.YtnmooepmpebepaaV
namespace Go.Proofs.Ytnmooepmpebepaa
open Go.RowKit

theorem ReadsB.here {w : World} {g : Nat} {v : Value} {b : List Int} (h : ReadsB g w v b) : ReadsB w.heap.size w v b := reads_other h (fun q hq => by omega)
/-- 'string(v)' of bytes. -/
theorem conv_reads {w : World} {g : Nat} {v : Value} {b : List Int} (h : ReadsB g w v b) : (convert 26 9 v).run Try.prog w = .ok (.string (strOfNums b)) w := by
  obtain ⟨a, cap, rfl, hle, hr⟩ := h
  cases a with
  | none =>
    have hb : b = [] := by
      rcases Nat.eq_zero_or_pos b.length with h0 | h0
      · exact List.eq_nil_of_length_eq_zero h0
      · obtain ⟨q, off, ha, _⟩ := hr h0
        cases ha
    subst hb
    exact run_convert_bytes_nil (P := Try.prog) w 26 5 Try.underlying26 Try.underlying5 0 cap 9 Try.underlying9
  | some ad =>
    have hl : (loadCells ad b.length).run Try.prog w = .ok (b.map (Value.int .u8)).toArray w := by
      have := run_loadCells_list (P := Try.prog) w ad (b.map (Value.int .u8)) (fun j u hj => by
        have hjl : j < b.length := by have := (List.getElem?_eq_some_iff.1 hj).1; rwa [List.length_map] at this
        obtain ⟨q, off, ha, _, _, hc⟩ := hr (by omega)
        cases ha
        rw [Addr.add_mid, hc j hjl, ← hj]
        exact (bcells_at b j hjl).symm)
      simpa using this
    rw [run_convert_bytes_string w 26 9 5 _ b.length cap Try.underlying26 Try.underlying5 Try.underlying9, run_bytesToString w _ b.length cap b hl, foldl_push_bytes]
    simp [strOfNums, ByteArray.empty, ByteArray.emptyWithCapacity]
    rfl

theorem slice_one {a : Option Addr} {n c : Nat} : (Value.slice a n c).oneCell' = true := rfl
/-- Slices of bytes in a new slice of slices. -/
theorem parts_new (w : World) (us : List Value) (ps : List (List Int)) (_ : us.length = ps.length) (h : ∀ k, k < ps.length → ∃ u, us[k]? = some u ∧ u.oneCell' = true ∧ ReadsB w.heap.size w u (ps.getD k [])) :
    Parts (w.alloc (.cells us.toArray 26)) (.slice (some ⟨w.heap.size, 0, none⟩) ps.length ps.length) ps := by
  have hh := heap_alloc_new w (.cells us.toArray 26)
  refine ⟨_, _, rfl, fun _ => ⟨_, 0, rfl, by simp, fun k hk => ?_⟩⟩
  rw [Nat.zero_add]
  obtain ⟨u, h1, h2, h3⟩ := h k hk
  refine ⟨u, (cell_of_row _ _ k _ _ _ hh).trans (by simpa using h1), h2, ?_⟩
  exact (reads_below h3 (alloc_below _ _)).here
theorem reads_nil (w : World) (g : Nat) : ReadsB g w (.slice none 0 0) [] := ⟨none, 0, rfl, Nat.le_refl _, fun h => by simp at h⟩

/-- What is to be read while the sums are compared. -/
structure Sums (w : World) (va vb vl vo : Value) (a b l : List Int) (w' : World) : Prop where
  below : Below w.heap.size w w'
  ra : ReadsB w'.heap.size w' va a
  rb : ReadsB w'.heap.size w' vb b
  rl : ReadsB w'.heap.size w' vl l
  ro : ReadsB w'.heap.size w' vo a
theorem Sums.above {w w1 w2 : World} {va vb vl vo : Value} {a b l : List Int} (h : Sums w va vb vl vo a b l w1) (hb : Below w1.heap.size w1 w2) : Sums w va vb vl vo a b l w2 :=
  ⟨h.below.trans (hb.mono h.below.size), (reads_below h.ra hb).here, (reads_below h.rb hb).here, (reads_below h.rl hb).here, (reads_below h.ro hb).here⟩

/-- Sum of parts that were just laid. -/
theorem sum_parts {w w1 : World} {va vb vl vo : Value} {a b l : List Int} (h : Sums w va vb vl vo a b l w1) {g : Nat} {cs : List Value} (hg : w1.rangeAt g 0 cs) (us : List Value) (ps : List (List Int)) (n : Nat) (hn : ps.length = n) (hl : us.length = ps.length) (hn2 : n ≤ 3)
    (hu : ∀ k, k < ps.length → ∃ u, us[k]? = some u ∧ u.oneCell' = true ∧ ReadsB w1.heap.size w1 u (ps.getD k [])) (D : List Int) (hD : sumS ps.flatten = D) :
    Calls Try.prog 14 #[.slice (some ⟨w1.heap.size, 0, none⟩) n n] (w1.alloc (.cells us.toArray 26)) fun e w' => e = .returned (.agg (bcells D).toArray) ∧ w'.rangeAt g 0 cs ∧ Sums w va vb vl vo a b l w' := by
  subst hn
  refine (sum_any _ _ ps (parts_new w1 us ps hl hu) (by omega)).mono ?_
  rintro e w2 ⟨rfl, hb2⟩
  have hb3 := (alloc_below w1 (.cells us.toArray 26)).trans (hb2.mono (by simp))
  exact ⟨by rw [hD], range_below hg hb3, h.above hb3⟩

/-! ### A region that draws, holds makings and calls, and loads an array more than once: by hand -/
section
variable {P : Program} {l : List Oper} {Q : Exit → Act → World → Prop} {S : World → Prop} {fuel : Nat} {listed : Array Bool} {a : Act} {w : World}
theorem held_take (i : Nat) (hi : i < l.length) (v : Value) (hs : Region.noSelect l.toArray = true) (hf : Region.free .any l.toArray listed i = true) (hr : (Region.ready .any l.toArray listed).contains i = true) (hw : Region.wanted l[i] (yielded l.toArray a.tmps) = true)
    (hS : S w) (hy : ∀ w, S w → (execOp a.eval l[i]).run P w = .ok (.value v) w) (k : ∀ K : Act → Prop, (∀ a, wpAnyH P .any l.toArray (NoPanic Q) S fuel (listed.setIfInBounds i true) a w → K a) → K (a.put l[i].dst v)) : wpAnyH P .any l.toArray (NoPanic Q) S (fuel + 1) listed a w :=
  wpAnyH_take (i := i) (oi := l[i]) (v := v) (by simp [hi]) hs hf hr (fun _ _ _ h => h) (Or.inl ⟨hw, hy⟩) hS (k _ (fun _ h => h))
theorem held_move (i : Nat) (hi : i < l.length) (hs : Region.noSelect l.toArray = true) (hf : Region.free .any l.toArray listed i = true) (hr : (Region.ready .any l.toArray listed).contains i = true) (hw : Region.wanted l[i] (yielded l.toArray a.tmps) = true)
    (hS : S w) {x : Operand} (hop : l[i].op = .move x) (k : ∀ K : Act → Prop, (∀ a, wpAnyH P .any l.toArray (NoPanic Q) S fuel (listed.setIfInBounds i true) a w → K a) → K (a.put l[i].dst (a.eval x))) : wpAnyH P .any l.toArray (NoPanic Q) S (fuel + 1) listed a w :=
  held_take i hi _ hs hf hr hw hS (fun w _ => by unfold execOp; simp [hop]) k
theorem held_assign (i : Nat) (hi : i < l.length) (hs : Region.noSelect l.toArray = true) (hf : Region.free .any l.toArray listed i = true) (hr : (Region.ready .any l.toArray listed).contains i = true) (hw : Region.wanted l[i] (yielded l.toArray a.tmps) = true)
    (hS : S w) {x : Operand} (hop : l[i].op = .assign x) (k : ∀ K : Act → Prop, (∀ a, wpAnyH P .any l.toArray (NoPanic Q) S fuel (listed.setIfInBounds i true) a w → K a) → K (a.put l[i].dst (a.eval x))) : wpAnyH P .any l.toArray (NoPanic Q) S (fuel + 1) listed a w :=
  held_take i hi _ hs hf hr hw hS (fun w _ => by unfold execOp; simp [hop]) k
theorem held_pick (i : Nat) (hi : i < l.length) (hs : Region.noSelect l.toArray = true) (hf : Region.free .any l.toArray listed i = true) (hr : (Region.ready .any l.toArray listed).contains i = true) (hw : Region.wanted l[i] (yielded l.toArray a.tmps) = true)
    (hS : S w) {c x y : Operand} (hop : l[i].op = .pick c x y) (hc : a.eval c = .bool true) (k : ∀ K : Act → Prop, (∀ a, wpAnyH P .any l.toArray (NoPanic Q) S fuel (listed.setIfInBounds i true) a w → K a) → K (a.put l[i].dst (a.eval x))) : wpAnyH P .any l.toArray (NoPanic Q) S (fuel + 1) listed a w :=
  held_take i hi _ hs hf hr hw hS (fun w _ => by unfold execOp; simp [hop, hc, asBool]) k
theorem held_load (i : Nat) (hi : i < l.length) (hs : Region.noSelect l.toArray = true) (hf : Region.free .any l.toArray listed i = true) (hr : (Region.ready .any l.toArray listed).contains i = true) (hw : Region.wanted l[i] (yielded l.toArray a.tmps) = true)
    (hS : S w) {ty : TypeId} {x : Operand} (hop : l[i].op = .load ty x) (g : Nat) (cs : List Value) (hx : a.eval x = .pointer (some ⟨g, 0, none⟩)) (hSr : ∀ w, S w → w.rangeAt g 0 cs) (d : TypeDesc) (hu : P.underlying ty = some d) (hd : d.isRow = true) (hin : (P.info? ty).map (·.size) = some cs.length)
    (k : ∀ K : Act → Prop, (∀ a, wpAnyH P .any l.toArray (NoPanic Q) S fuel (listed.setIfInBounds i true) a w → K a) → K (a.put l[i].dst (.agg cs.toArray))) : wpAnyH P .any l.toArray (NoPanic Q) S (fuel + 1) listed a w :=
  held_take i hi _ hs hf hr hw hS (fun w h => by
    unfold execOp
    simp only [hop, hx, Instr.loadAt, Instr.sureAddr, Sem.run_bind, Sem.run_pure, Result.andThen_ok, run_loadVar_mid w g 0 ty cs d (hSr w h) hu hd hin]) k
theorem held_step (i : Nat) (hi : i < l.length) (hr : Region.ready .any l.toArray listed = [i]) (hw : Region.wanted l[i] (yielded l.toArray a.tmps) = true)
    (h : ∀ K : Act → World → Prop, (∀ a w, S w → wpAnyH P .any l.toArray (NoPanic Q) S fuel (listed.setIfInBounds i true) a w → K a w) → Oper.wp P l[i] a w K (NoPanic Q)) : wpAnyH P .any l.toArray (NoPanic Q) S (fuel + 1) listed a w :=
  wpAnyH_ready (rs := [i]) hr (by simp) (AllReadyH.cons (o := l[i]) (by simp [hi]) (fun K' hK => by rw [if_pos hw]; exact h K' (fun a w h1 h2 => hK.out _ _ h1 (fun _ => h2))) AllReadyH.nil)
end

set_option maxRecDepth 100000 in
set_option maxHeartbeats 16000000 in
theorem sums_any (w : World) (va vb : Value) (a b : List Int) (hra : ReadsB w.heap.size w va a) (hrb : ReadsB w.heap.size w vb b) (hna : ∀ x n c, va = .slice x n c → x = none → va = .slice none 0 0) (hnb : ∀ x n c, vb = .slice x n c → x = none → vb = .slice none 0 0)
    (hab : a.length + b.length ≤ 1048576) : Calls Try.prog 7 #[va, vb] w (Holds w) := by
  obtain ⟨aa, ca, hva⟩ : ∃ x c, va = .slice x a.length c := by
    obtain ⟨x, c, h, _⟩ := hra
    exact ⟨x, c, h⟩
  obtain ⟨ab, cb, hvb⟩ : ∃ x c, vb = .slice x b.length c := by
    obtain ⟨x, c, h, _⟩ := hrb
    exact ⟨x, c, h⟩
  have z28 := Lib.hid (zero_of_info zero28).1
  obtain ⟨i0, hi0, hz0, hz1, hz2⟩ := info_parts Try.infoU8
  have LV := Lib.hid (fun (w' : World) => lives_true w')
  subst hva
  subst hvb
  have HA := Lib.hid (And.intro hra (And.intro hna (reads_below hra (alloc_below w (.cells #[] 5)))))
  have HB := Lib.hid (And.intro hrb hnb)
  have HL := Lib.hid hab
  clear hra hrb hna hnb hab
  go_enter Try.func7, Try.ntmps7
  go_upto_region 2 with (first | (at_builtin; refine wpList_append_bytes rfl (.tmp 8) (.tmp 9) 26 rfl w.heap.size i0 (.int .u8 0) Try.underlying26 hi0 hz0 hz1 hz2 rfl _ [] rfl (World.ownsRow_made (base := w.heap.size) (e := 5) (size := 1) w #[] 0 (Nat.le_refl _) (Nat.zero_le _) rfl) _ rfl a w.heap.size HA.out.2.2 HA.out.2.1 (by have := HL.out; simp; omega) (by simp) ?_; intro vp w4 hown4 hg4 hloc4; have hown4' : w4.ownsRow w.heap.size 5 1 vp a.length (bcells a) := hown4; have hc4 : Ch (fun _ => False) w w4 := ((Ch.refl (fun _ => False) w).alloc (.cells #[] 5)).grownB hg4 (fun x hx hlt' => absurd hlt' (by have h9 : some w.heap.size = some x := hx; cases h9; exact Nat.lt_irrefl _))) | (at_builtin; refine wpList_append_bytes rfl (.tmp 10) (.tmp 11) 26 rfl w.heap.size i0 (.int .u8 0) Try.underlying26 hi0 hz0 hz1 hz2 rfl vp a rfl hown4' _ rfl b w.heap.size (reads_below HB.out.1 (hc4.below (by simp) (Nat.le_refl _))) HB.out.2 (by have := HL.out; omega) hc4.size ?_; intro vl w5 hown5 hg5 hloc5))
  have hloc : ∀ x, vp.ownBlock = some x → w.heap.size ≤ x := by
    intro x hx
    rcases hloc4 with e | e
    · rw [e] at hx; cases hx; exact Nat.le_refl _
    · rw [e] at hx; simp at hx; omega
  have hc5 : Ch (fun _ => False) w w5 := hc4.grownB hg5 (fun x hx hlt' => absurd hlt' (Nat.not_lt.2 (hloc x hx)))
  have hb5 : Below w.heap.size w w5 := hc5.below (by simp) (Nat.le_refl _)
  have hrl : ReadsB w5.heap.size w5 vl (a ++ b) := own_readsB hown5 (fun k hk => by have := (hown5.lt k hk).2; omega)
  have hnl : ∀ x n c, vl = .slice x n c → x = none → vl = .slice none 0 0 := by
    intro x n c h1 h2
    rcases hown5.2 with ⟨hv, _⟩ | ⟨q, cap, cur, hv, _⟩
    · exact hv
    · rw [hv] at h1
      simp only [Value.slice.injEq] at h1
      rw [h2] at h1
      exact absurd h1.1 (by simp)
  obtain ⟨l, hl⟩ : ∃ l, a ++ b = l := ⟨_, rfl⟩
  rw [hl] at hrl
  have hll : l.length ≤ 1048576 := by rw [← hl, List.length_append]; exact HL.out
  obtain ⟨al, cl, hvl⟩ : ∃ x c, vl = .slice x l.length c := by
    obtain ⟨x, c, h, _⟩ := hrl
    exact ⟨x, c, h⟩
  subst hvl
  have H5 := Lib.hid (And.intro hrl (And.intro hnl hb5))
  have HLL := Lib.hid (And.intro hll hl)
  clear hl hll hown4 hown4' hown5 hg4 hg5 hloc4 hloc5 hc4 hc5 hloc hrl hnl hb5
  go_wp2_with fail
  refine (rsum_any w5 _ l H5.out.1 H5.out.2.1 (by have := HLL.out.1; omega)).mono ?_
  obtain ⟨D, hD⟩ : ∃ D, sumS l = D := ⟨_, rfl⟩
  have lD : D.length = 32 := by rw [← hD]; exact outB_length _
  rw [hD]
  have HD := Lib.hid hD
  clear hD
  rintro e w6 ⟨rfl, hb6⟩
  have hb6' : Below w.heap.size w w6 := H5.out.2.2.trans (hb6.mono H5.out.2.2.size)
  have H6 := Lib.hid (And.intro hb6 hb6')
  clear hb6 hb6'
  go_upto_region 4 with (first | (refine wpList_alloc_any (w := w6) (by rfl) 28 (by rfl) (bcells (List.replicate 32 0)).toArray z28.out ?_; intro w7 hw7 hc7 hz7) | (refine wpList_store_arr (by rfl) 28 (.tmp 6) (.tmp 14) (by rfl) w6.heap.size 28 (bcells (List.replicate 32 0)).toArray (bcells D).toArray hw7 (size28 lD) (by simp [bcells, lD]) (bcells_all _) (by rfl) (by rfl) ?_; intro w8 hw8 hc8; have hb8 : Below w.heap.size w w8 := (H6.out.2.trans (hc7.below (by simp) H6.out.2.size)).trans (hc8.below (by rintro x rfl; exact H6.out.2.size) (Nat.le_trans H6.out.2.size hc7.size)); have hb58 : Below w5.heap.size w5 w8 := (H6.out.1.trans (hc7.below (by simp) H6.out.1.size)).trans (hc8.below (by rintro x rfl; exact H6.out.1.size) (Nat.le_trans H6.out.1.size hc7.size)); have hra8 := reads_below HA.out.1 (hb8.alloc hb8.size (.cells #[] 5))) | (at_builtin; refine wpList_append_bytes rfl (.tmp 15) (.tmp 16) 26 rfl w.heap.size i0 (.int .u8 0) Try.underlying26 hi0 hz0 hz1 hz2 rfl _ [] rfl (World.ownsRow_made (base := w.heap.size) (e := 5) (size := 1) w8 #[] 0 hb8.size (Nat.zero_le _) rfl) _ rfl a w.heap.size hra8 HA.out.2.1 (by have := HL.out; simp; omega) (Nat.le_trans hb8.size (by simp)) ?_; intro vo w9 hown9 hg9 hloc9; have hown9' : w9.ownsRow w.heap.size 5 1 vo a.length (bcells a) := hown9))
  have hc9 : Ch (fun _ => False) w8 w9 := ((Ch.refl (fun _ => False) w8).alloc (.cells #[] 5)).grownB hg9 (fun x hx hlt' => absurd hlt' (by have h9 : some w8.heap.size = some x := hx; cases h9; exact Nat.lt_irrefl _))
  have hb9 : Below w.heap.size w w9 := hb8.trans (hc9.below (by simp) hb8.size)
  have hb59 : Below w5.heap.size w5 w9 := hb58.trans (hc9.below (by simp) hb58.size)
  have hro : ReadsB w9.heap.size w9 vo a := own_readsB hown9' (fun k hk => by have := (hown9'.lt k hk).2; omega)
  obtain ⟨ao, co, hvo⟩ : ∃ x c, vo = .slice x a.length c := by
    obtain ⟨x, c, h, _⟩ := hro
    exact ⟨x, c, h⟩
  subst hvo
  have hs9 : w9.drew.rangeAt w6.heap.size 0 (bcells D) ∧ Sums w (.slice aa a.length ca) (.slice ab b.length cb) (.slice al l.length cl) (.slice ao a.length co) a b l w9.drew :=
    ⟨(World.rangeAt_drew _ _ _ _).2 (range_of ((hc9.block _ (Array.getElem?_eq_some_iff.1 hw8).1 (by simp)).trans hw8)),
      Sums.above (w1 := w9) ⟨hb9, (reads_below HA.out.1 hb9).here, (reads_below HB.out.1 hb9).here, (reads_below H5.out.1 hb59).here, hro⟩ (drewN_below w9 w9.heap.size 1 (Nat.le_refl _))⟩
  clear hw7 hc7 hz7 hw8 hc8 hb8 hb58 hra8 hown9 hown9' hg9 hloc9 hc9 hb9 hb59 hro
  generalize w6.heap.size = g6 at hs9 ⊢
  have hu28 := Try.underlying28
  have hi28 : (Try.prog.info? 28).map (·.size) = some (bcells D).length := by rw [bcells_length, lD]; exact Try.size28
  have qE := fun (w : World) => eq28 D lD w
  have C11 : Hid (∀ w', w'.rangeAt g6 0 (bcells D) ∧ Sums w (.slice aa a.length ca) (.slice ab b.length cb) (.slice al l.length cl) (.slice ao a.length co) a b l w' → Calls Try.prog 11 #[] w' fun e w'' => e = .returned (.bool true) ∧ w''.rangeAt g6 0 (bcells D) ∧ Sums w (.slice aa a.length ca) (.slice ab b.length cb) (.slice al l.length cl) (.slice ao a.length co) a b l w'') := by
    refine Lib.hid (fun w' h => (LV.out w').mono ?_)
    rintro e w2 ⟨rfl, hb2⟩
    exact ⟨rfl, range_below h.1 hb2, h.2.above hb2⟩
  have C2 : Hid (∀ w', w'.rangeAt g6 0 (bcells D) ∧ Sums w (.slice aa a.length ca) (.slice ab b.length cb) (.slice al l.length cl) (.slice ao a.length co) a b l w' → Calls Try.prog 14 #[.slice (some ⟨w'.heap.size, 0, none⟩) 2 2] (w'.alloc (.cells #[.slice ao a.length co, .slice ab b.length cb] 26)) fun e w'' => e = .returned (.agg (bcells D).toArray) ∧ w''.rangeAt g6 0 (bcells D) ∧ Sums w (.slice aa a.length ca) (.slice ab b.length cb) (.slice al l.length cl) (.slice ao a.length co) a b l w'') := by
    refine Lib.hid (fun w' h => sum_parts h.2 h.1 [.slice ao a.length co, .slice ab b.length cb] [a, b] 2 rfl rfl (by omega) ?_ D (by rw [← HD.out, ← HLL.out.2]; simp))
    intro k hk
    match k, hk with
    | 0, _ => exact ⟨_, rfl, rfl, h.2.ro⟩
    | 1, _ => exact ⟨_, rfl, rfl, h.2.rb⟩
  have C1 : Hid (∀ w', w'.rangeAt g6 0 (bcells D) ∧ Sums w (.slice aa a.length ca) (.slice ab b.length cb) (.slice al l.length cl) (.slice ao a.length co) a b l w' → Calls Try.prog 14 #[.slice (some ⟨w'.heap.size, 0, none⟩) 1 1] (w'.alloc (.cells #[.slice al l.length cl] 26)) fun e w'' => e = .returned (.agg (bcells D).toArray) ∧ w''.rangeAt g6 0 (bcells D) ∧ Sums w (.slice aa a.length ca) (.slice ab b.length cb) (.slice al l.length cl) (.slice ao a.length co) a b l w'') := by
    refine Lib.hid (fun w' h => sum_parts h.2 h.1 [.slice al l.length cl] [l] 1 rfl rfl (by omega) ?_ D (by rw [← HD.out]; simp))
    intro k hk
    match k, hk with
    | 0, _ => exact ⟨_, rfl, rfl, h.2.rl⟩
  have C3 : Hid (∀ w', w'.rangeAt g6 0 (bcells D) ∧ Sums w (.slice aa a.length ca) (.slice ab b.length cb) (.slice al l.length cl) (.slice ao a.length co) a b l w' → Calls Try.prog 14 #[.slice (some ⟨w'.heap.size, 0, none⟩) 3 3] (w'.alloc (.cells #[.slice none 0 0, .slice al l.length cl, .slice none 0 0] 26)) fun e w'' => e = .returned (.agg (bcells D).toArray) ∧ w''.rangeAt g6 0 (bcells D) ∧ Sums w (.slice aa a.length ca) (.slice ab b.length cb) (.slice al l.length cl) (.slice ao a.length co) a b l w'') := by
    refine Lib.hid (fun w' h => sum_parts h.2 h.1 [.slice none 0 0, .slice al l.length cl, .slice none 0 0] [[], l, []] 3 rfl rfl (by omega) ?_ D (by rw [← HD.out]; simp))
    intro k hk
    match k, hk with
    | 0, _ => exact ⟨_, rfl, rfl, reads_nil _ _⟩
    | 1, _ => exact ⟨_, rfl, rfl, h.2.rl⟩
    | 2, _ => exact ⟨_, rfl, rfl, reads_nil _ _⟩
  have AL : Hid (∀ w' o, w'.rangeAt g6 0 (bcells D) ∧ Sums w (.slice aa a.length ca) (.slice ab b.length cb) (.slice al l.length cl) (.slice ao a.length co) a b l w' → (w'.alloc o).rangeAt g6 0 (bcells D) ∧ Sums w (.slice aa a.length ca) (.slice ab b.length cb) (.slice al l.length cl) (.slice ao a.length co) a b l (w'.alloc o)) :=
    Lib.hid (fun w' o h => ⟨World.rangeAt_alloc h.1 _, h.2.above (alloc_below _ _)⟩)
  have E9 := Lib.hid hs9
  refine wp_region_noPanic ?_
  refine wp_region_held_drew (S := fun w' => w'.rangeAt g6 0 (bcells D) ∧ Sums w (.slice aa a.length ca) (.slice ab b.length cb) (.slice al l.length cl) (.slice ao a.length co) a b l w') (by kernel_rfl) hs9 (fun _ => ?_)
  clear hs9
  refine held_step 0 (by decide) (by kernel_rfl) (by rfl) (fun K hK => ?_)
  simp only [List.getElem_cons_zero]
  go_simp
  refine (C11.out _ E9.out).mono ?_
  rintro e w11 ⟨rfl, hs⟩
  have Ew11 := Lib.hid hs
  clear hs
  go_simp
  refine hK _ _ Ew11.out ?_; clear hK K
  refine held_move 1 (by decide) (by kernel_rfl) (by kernel_rfl) (by kernel_rfl) (by rfl) Ew11.out rfl (fun K hK => ?_); simp only [List.getElem_cons_succ, List.getElem_cons_zero]; go_simp; refine hK _ ?_; clear hK K
  refine held_move 2 (by decide) (by kernel_rfl) (by kernel_rfl) (by kernel_rfl) (by rfl) Ew11.out rfl (fun K hK => ?_); simp only [List.getElem_cons_succ, List.getElem_cons_zero]; go_simp; refine hK _ ?_; clear hK K
  refine held_move 3 (by decide) (by kernel_rfl) (by kernel_rfl) (by kernel_rfl) (by rfl) Ew11.out rfl (fun K hK => ?_); simp only [List.getElem_cons_succ, List.getElem_cons_zero]; go_simp; refine hK _ ?_; clear hK K
  refine held_load 6 (by decide) (by kernel_rfl) (by kernel_rfl) (by kernel_rfl) (by rfl) Ew11.out rfl g6 (bcells D) rfl (fun _ h => h.1) _ hu28 (by rfl) hi28 (fun K hK => ?_); simp only [List.getElem_cons_succ, List.getElem_cons_zero]; go_simp; refine hK _ ?_; clear hK K
  refine held_step 4 (by decide) (by kernel_rfl) (by rfl) (fun K hK => ?_)
  simp only [List.getElem_cons_succ, List.getElem_cons_zero]
  go_simp
  refine hK _ _ (AL.out _ _ Ew11.out) ?_; clear hK K
  refine held_step 5 (by decide) (by kernel_rfl) (by rfl) (fun K hK => ?_)
  simp only [List.getElem_cons_succ, List.getElem_cons_zero]
  go_simp
  refine (C2.out _ Ew11.out).mono ?_
  rintro e w12 ⟨rfl, hs⟩
  have Ew12 := Lib.hid hs
  clear hs
  go_simp
  refine hK _ _ Ew12.out ?_; clear hK K
  refine held_take 7 (by decide) (.bool true) (by kernel_rfl) (by kernel_rfl) (by kernel_rfl) (by rfl) Ew12.out (fun w' hw' => ?_) (fun K hK => ?_)
  · simp only [List.getElem_cons_succ, List.getElem_cons_zero]; go_simp
  simp only [List.getElem_cons_succ, List.getElem_cons_zero]; go_simp; refine hK _ ?_; clear hK K
  refine held_pick 8 (by decide) (by kernel_rfl) (by kernel_rfl) (by kernel_rfl) (by rfl) Ew12.out rfl rfl (fun K hK => ?_); simp only [List.getElem_cons_succ, List.getElem_cons_zero]; go_simp; refine hK _ ?_; clear hK K
  refine held_move 9 (by decide) (by kernel_rfl) (by kernel_rfl) (by kernel_rfl) (by rfl) Ew12.out rfl (fun K hK => ?_); simp only [List.getElem_cons_succ, List.getElem_cons_zero]; go_simp; refine hK _ ?_; clear hK K
  refine held_move 10 (by decide) (by kernel_rfl) (by kernel_rfl) (by kernel_rfl) (by rfl) Ew12.out rfl (fun K hK => ?_); simp only [List.getElem_cons_succ, List.getElem_cons_zero]; go_simp; refine hK _ ?_; clear hK K
  refine held_load 13 (by decide) (by kernel_rfl) (by kernel_rfl) (by kernel_rfl) (by rfl) Ew12.out rfl g6 (bcells D) rfl (fun _ h => h.1) _ hu28 (by rfl) hi28 (fun K hK => ?_); simp only [List.getElem_cons_succ, List.getElem_cons_zero]; go_simp; refine hK _ ?_; clear hK K
  refine held_step 11 (by decide) (by kernel_rfl) (by rfl) (fun K hK => ?_)
  simp only [List.getElem_cons_succ, List.getElem_cons_zero]
  go_simp
  refine hK _ _ (AL.out _ _ Ew12.out) ?_; clear hK K
  refine held_step 12 (by decide) (by kernel_rfl) (by rfl) (fun K hK => ?_)
  simp only [List.getElem_cons_succ, List.getElem_cons_zero]
  go_simp
  refine (C1.out _ Ew12.out).mono ?_
  rintro e w13 ⟨rfl, hs⟩
  have Ew13 := Lib.hid hs
  clear hs
  go_simp
  refine hK _ _ Ew13.out ?_; clear hK K
  refine held_take 14 (by decide) (.bool true) (by kernel_rfl) (by kernel_rfl) (by kernel_rfl) (by rfl) Ew13.out (fun w' hw' => ?_) (fun K hK => ?_)
  · simp only [List.getElem_cons_succ, List.getElem_cons_zero]; go_simp
  simp only [List.getElem_cons_succ, List.getElem_cons_zero]; go_simp; refine hK _ ?_; clear hK K
  refine held_pick 15 (by decide) (by kernel_rfl) (by kernel_rfl) (by kernel_rfl) (by rfl) Ew13.out rfl rfl (fun K hK => ?_); simp only [List.getElem_cons_succ, List.getElem_cons_zero]; go_simp; refine hK _ ?_; clear hK K
  refine held_move 16 (by decide) (by kernel_rfl) (by kernel_rfl) (by kernel_rfl) (by rfl) Ew13.out rfl (fun K hK => ?_); simp only [List.getElem_cons_succ, List.getElem_cons_zero]; go_simp; refine hK _ ?_; clear hK K
  refine held_move 17 (by decide) (by kernel_rfl) (by kernel_rfl) (by kernel_rfl) (by rfl) Ew13.out rfl (fun K hK => ?_); simp only [List.getElem_cons_succ, List.getElem_cons_zero]; go_simp; refine hK _ ?_; clear hK K
  refine held_load 20 (by decide) (by kernel_rfl) (by kernel_rfl) (by kernel_rfl) (by rfl) Ew13.out rfl g6 (bcells D) rfl (fun _ h => h.1) _ hu28 (by rfl) hi28 (fun K hK => ?_); simp only [List.getElem_cons_succ, List.getElem_cons_zero]; go_simp; refine hK _ ?_; clear hK K
  refine held_step 18 (by decide) (by kernel_rfl) (by rfl) (fun K hK => ?_)
  simp only [List.getElem_cons_succ, List.getElem_cons_zero]
  go_simp
  refine hK _ _ (AL.out _ _ Ew13.out) ?_; clear hK K
  refine held_step 19 (by decide) (by kernel_rfl) (by rfl) (fun K hK => ?_)
  simp only [List.getElem_cons_succ, List.getElem_cons_zero]
  go_simp
  refine (C3.out _ Ew13.out).mono ?_
  rintro e w14 ⟨rfl, hs⟩
  have Ew14 := Lib.hid hs
  clear hs
  go_simp
  refine hK _ _ Ew14.out ?_; clear hK K
  refine held_take 21 (by decide) (.bool true) (by kernel_rfl) (by kernel_rfl) (by kernel_rfl) (by rfl) Ew14.out (fun w' hw' => ?_) (fun K hK => ?_)
  · simp only [List.getElem_cons_succ, List.getElem_cons_zero]; go_simp
  simp only [List.getElem_cons_succ, List.getElem_cons_zero]; go_simp; refine hK _ ?_; clear hK K
  refine held_pick 22 (by decide) (by kernel_rfl) (by kernel_rfl) (by kernel_rfl) (by rfl) Ew14.out rfl rfl (fun K hK => ?_); simp only [List.getElem_cons_succ, List.getElem_cons_zero]; go_simp; refine hK _ ?_; clear hK K
  refine held_move 23 (by decide) (by kernel_rfl) (by kernel_rfl) (by kernel_rfl) (by rfl) Ew14.out rfl (fun K hK => ?_); simp only [List.getElem_cons_succ, List.getElem_cons_zero]; go_simp; refine hK _ ?_; clear hK K
  refine held_move 24 (by decide) (by kernel_rfl) (by kernel_rfl) (by kernel_rfl) (by rfl) Ew14.out rfl (fun K hK => ?_); simp only [List.getElem_cons_succ, List.getElem_cons_zero]; go_simp; refine hK _ ?_; clear hK K
  refine held_take 25 (by decide) (.string (strOfNums a)) (by kernel_rfl) (by kernel_rfl) (by kernel_rfl) (by rfl) Ew14.out (fun w' hw' => ?_) (fun K hK => ?_)
  · simp only [List.getElem_cons_succ, List.getElem_cons_zero]; have q := conv_reads hw'.2.ro; go_simp
  simp only [List.getElem_cons_succ, List.getElem_cons_zero]; go_simp; refine hK _ ?_; clear hK K
  refine held_move 26 (by decide) (by kernel_rfl) (by kernel_rfl) (by kernel_rfl) (by rfl) Ew14.out rfl (fun K hK => ?_); simp only [List.getElem_cons_succ, List.getElem_cons_zero]; go_simp; refine hK _ ?_; clear hK K
  refine held_take 27 (by decide) (.string (strOfNums a)) (by kernel_rfl) (by kernel_rfl) (by kernel_rfl) (by rfl) Ew14.out (fun w' hw' => ?_) (fun K hK => ?_)
  · simp only [List.getElem_cons_succ, List.getElem_cons_zero]; have q := conv_reads hw'.2.ra; go_simp
  simp only [List.getElem_cons_succ, List.getElem_cons_zero]; go_simp; refine hK _ ?_; clear hK K
  refine held_take 28 (by decide) (.bool true) (by kernel_rfl) (by kernel_rfl) (by kernel_rfl) (by rfl) Ew14.out (fun w' hw' => ?_) (fun K hK => ?_)
  · simp only [List.getElem_cons_succ, List.getElem_cons_zero]; go_simp
  simp only [List.getElem_cons_succ, List.getElem_cons_zero]; go_simp; refine hK _ ?_; clear hK K
  refine held_pick 29 (by decide) (by kernel_rfl) (by kernel_rfl) (by kernel_rfl) (by rfl) Ew14.out rfl rfl (fun K hK => ?_); simp only [List.getElem_cons_succ, List.getElem_cons_zero]; go_simp; refine hK _ ?_; clear hK K
  refine held_assign 30 (by decide) (by kernel_rfl) (by kernel_rfl) (by kernel_rfl) (by rfl) Ew14.out rfl (fun K hK => ?_); simp only [List.getElem_cons_succ, List.getElem_cons_zero]; go_simp; refine hK _ ?_; clear hK K
  refine wpAnyH_done (by kernel_rfl) ?_ _
  refine NoPanic.normal ?_
  go_wp2
  go_ret
  exact ⟨rfl, Ew14.out.2.below⟩
end Go.Proofs.Ytnmooepmpebepaa
