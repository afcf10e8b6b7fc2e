import Derived.Test.YtmlffomdlcfcbaaQ
import Derived.Test.YtmlffomdlcfcbaaH
namespace Go.Proofs.Ytmlffomdlcfcbaa
open Go.RowKit Go.Shelf
attribute [local go_sem] Oper.semAt_some

theorem upto_prefix {α : Type} (f : Nat → α) (k n : Nat) (h : k ≤ n) : upto f k <+: upto f n := by
  refine ⟨(List.range' k (n - k)).map f, ?_⟩
  simp only [upto, ← List.map_append]
  congr 1
  apply List.ext_getElem
  · simp; omega
  · intro i h1 h2
    simp only [List.getElem_append, List.length_range, List.getElem_range, List.getElem_range']
    split <;> omega

theorem log_stops (n : Nat) (hn : 1 ≤ n) (bn bl n₀ B b lo : Nat) (m base : Int) (xs : List ByteArray) (v : Value) (w : World) (hlo : (if m < base then base else m) = base + lo) (hb0 : 0 ≤ base) (hbnd : base + xs.length < 9223372036854775807) (hm : m ≤ 9223372036854775807)
    (hlog : LogAt w B b base xs v) (h1 : b < n₀) (h2 : ∀ k, v.ownBlock = some k → k < n₀) (h3 : bl < n₀) (hn₀ : n₀ ≤ w.heap.size) (hbn : bn < w.heap.size) (hcn : w.cell? ⟨bn, 0, none⟩ = some (.int .i64 m)) (hcl : w.cell? ⟨bl, 0, none⟩ = some (.pointer (some ⟨b, 0, none⟩))) :
    SeqStopsK Fence.wide n Try.prog 25 #[.pointer (some ⟨bn, 0, none⟩), .pointer (some ⟨bl, 0, none⟩)] encs (Below n₀) (fun ys => ys = upto (nth base xs lo) (xs.length - lo)) (fun pre => ∃ k, k ≤ xs.length - lo ∧ pre = upto (nth base xs lo) k) (xs.length - lo) w := fun l J Jx W hW hJ _ hY h0 => by
  refine (from_in n hn l bn bl n₀ B b lo m base xs v hlo hb0 hbnd hm J Jx hY W (hlog.below hW (by omega) (fun k hk => (hlog.own.lt k hk).2)) h1 h2 h3 ((hW.cell (p := ⟨bn, 0, none⟩) hbn).trans hcn) ((hW.cell (p := ⟨bl, 0, none⟩) (by show bl < _; omega)).trans hcl) h0 hJ (Nat.le_trans hn₀ hW.size)).mono ?_
  rintro e W' ⟨he, h⟩
  exact ⟨he, h⟩

theorem toList_eq_of {a b : ByteArray} (h : (!(a.toList == b.toList)) = false) : a = b := by
  rw [ByteArray.toList_eq, ByteArray.toList_eq] at h
  have h2 : a.data.toList = b.data.toList := by simpa using h
  have h3 := Array.toList_inj.1 h2
  cases a; cases b; cases h3; rfl

set_option maxRecDepth 100000 in
set_option maxHeartbeats 8000000 in
theorem looks_in (w : World) (B b b2 : Nat) (base m most : Int) (xs : List ByteArray) (v v2 : Value) (hlog : LogAt w B b base xs v) (href : RefAt w B b2 base xs v2) (hb0 : 0 ≤ base) (hbnd : base + xs.length < 4611686018427387904) (hl : xs.length ≤ 4096)
    (lo : Nat) (hlo : (if m < base then base else m) = base + lo) (hm : m ≤ 9223372036854775807) :
    CallsIn Fence.wide 3 Try.prog 16 #[.pointer (some ⟨b, 0, none⟩), .pointer (some ⟨b2, 0, none⟩), .int .i64 m, .int .i64 most] w (Nobody w) := by
  have hw1 : ∀ k, Fence.wide.fn k := fun _ => trivial
  have hw2 : Fence.wide.depth = none := rfl
  have hw3 : Fence.wide.round = none := rfl
  have hq := eq_nilFunc
  refine callsIn_of_wp_marks Try.func16 rfl trivial ?_ rfl
  simp only [Try.ntmps16, List.size_toArray, List.length_cons, List.length_nil, Nat.reduceAdd, Nat.reduceSub, Array.replicate_succ, Array.replicate_zero, List.push_toArray, List.append_toArray, List.nil_append, List.cons_append]
  refine wpIn_wide.2 ?_
  go_wp2_with fail
  refine (from_any _ _ _).mono ?_
  rintro e w1 ⟨rfl, hw⟩
  have hz : w1.heap.size = w.heap.size + 4 := by rw [hw]; simp
  have hch : Ch (fun _ => False) w w1 := by rw [hw]; exact ((((Ch.refl _ w).alloc _).alloc _).alloc _).alloc _
  have k0 : w1.cell? ⟨w.heap.size, 0, none⟩ = some (.int .i64 most) := by rw [hw, cellOld _ _ _ _ (by simp <;> omega), cellOld _ _ _ _ (by simp <;> omega), cellOld _ _ _ _ (by simp <;> omega), cellNew _ _ _ _ _ (by simp)]; rfl
  have k1 : w1.cell? ⟨w.heap.size + 1, 0, none⟩ = some (.bool false) := by rw [hw, cellOld _ _ _ _ (by simp <;> omega), cellOld _ _ _ _ (by simp <;> omega), cellNew _ _ _ _ _ (by simp)]; rfl
  have k2 : w1.cell? ⟨w.heap.size + 2, 0, none⟩ = some (.pointer (some ⟨b, 0, none⟩)) := by rw [hw, cellOld _ _ _ _ (by simp <;> omega), cellNew _ _ _ _ _ (by simp)]; rfl
  have k3 : w1.cell? ⟨w.heap.size + 3, 0, none⟩ = some (.int .i64 m) := by rw [hw, cellNew _ _ _ _ _ (by simp)]; rfl
  have g1 : w1.frozen? ⟨w.heap.size + 1, 0, none⟩ = false := by rw [hw, frozenOld _ _ _ _ (by simp <;> omega), frozenOld _ _ _ _ (by simp <;> omega), frozenNew _ _ _ _ _ (by simp)]
  have hbel : Below w.heap.size w w1 := hch.below (by simp) (Nat.le_refl _)
  have e2 : ((w.alloc (Obj.cells #[Value.int IntKind.i64 most] 3)).alloc (Obj.cells #[Value.bool false] 4)).heap.size = w.heap.size + 2 := by simp
  rw [e2]
  have hlog1 := hlog.ch hch (by simp) (by simp)
  have href1 := href.ch hch (by simp) (by simp)
  have B1 : b < w.heap.size := hlog.lt
  have B2 : b2 < w.heap.size := href.lt
  have HV := Lib.hid (fun k (hk : v.ownBlock = some k) => (hlog.own.lt k hk).2)
  have HV2 := Lib.hid (fun k (hk : v2.ownBlock = some k) => (href.own.lt k hk).2)
  clear hw e2 hch hlog href
  have r0 := href1.c0
  have r1 := href1.c1
  have QB := Lib.hid (fun t : Nat => Calls.quiet_of_same ((base_at b base (w1.drewN t) (hlog1.drewN t).c0).mono (fun e w' h => ⟨h.1, h.2.symm⟩)))
  have QL := Lib.hid (fun t : Nat => Calls.quiet_of (last_at (hlog1.drewN t) hb0 (by omega)))
  have QR := Lib.hid (fun t : Nat => Calls.quiet_of (rlast_at (href1.drewN t) hb0 (by omega)))
  go_wp2_with fail
  go_quiet ((first | (go_at_call 18; exact QB.out _) | (go_at_call 19; exact QL.out _) | (go_at_call 22; exact QR.out _)))
  clear QB QL QR
  obtain ⟨W1, hW1⟩ : ∃ W1, w1.drewN nq = W1 := ⟨_, rfl⟩
  rw [hW1]
  replace k0 : W1.cell? ⟨w.heap.size, 0, none⟩ = some (.int .i64 most) := by rw [← hW1]; exact k0
  replace k1 : W1.cell? ⟨w.heap.size + 1, 0, none⟩ = some (.bool false) := by rw [← hW1]; exact k1
  replace k2 : W1.cell? ⟨w.heap.size + 2, 0, none⟩ = some (.pointer (some ⟨b, 0, none⟩)) := by rw [← hW1]; exact k2
  replace k3 : W1.cell? ⟨w.heap.size + 3, 0, none⟩ = some (.int .i64 m) := by rw [← hW1]; exact k3
  replace g1 : W1.frozen? ⟨w.heap.size + 1, 0, none⟩ = false := by rw [← hW1]; exact g1
  replace hbel : Below w.heap.size w W1 := by rw [← hW1]; exact hbel.trans (drewN_below _ _ _)
  replace hz : W1.heap.size = w.heap.size + 4 := by rw [← hW1]; exact hz
  replace hlog1 : LogAt W1 B b base xs v := by rw [← hW1]; exact hlog1.drewN _
  replace href1 : RefAt W1 B b2 base xs v2 := by rw [← hW1]; exact href1.drewN _
  clear hW1 r0 r1
  go_wp2_with fail
  refine (list_at hlog1 (by omega)).mono ?_
  rintro e w2 ⟨a9, c9, rfl, hown9, hb9⟩
  obtain ⟨ad2, cap2, hv2, hA2⟩ : ∃ ad2 cap, v2 = .slice ad2 xs.length cap ∧ (0 < xs.length → ∃ g, ad2 = some ⟨g, 0, none⟩ ∧ (∀ j, j < xs.length → W1.cell? ⟨g, j * 2, none⟩ = some (.int .i64 (base + 1 + j))) ∧ (∀ j, j < xs.length → W1.cell? ⟨g, j * 2 + 1, none⟩ = some (.string (xs.getD j ByteArray.empty)))) := by
    rcases href1.shape with ⟨h1, hx⟩ | ⟨g, cap, h1, _, _, _, h5, h6⟩
    · exact ⟨none, 0, by rw [hx]; exact h1, fun h => by rw [hx] at h; simp at h⟩
    · exact ⟨_, cap, h1, fun _ => ⟨g, rfl, h5, h6⟩⟩
  subst hv2
  have hA9 : 0 < xs.length → ∃ g, a9 = some ⟨g, 0, none⟩ ∧ g < w2.heap.size ∧ ∀ j, j < xs.length → w2.cell? ⟨g, j, none⟩ = some (.string (xs.getD j ByteArray.empty)) := by
    intro hpos
    rcases hown9.2 with ⟨_, hx⟩ | ⟨g, cap, cur, hv, _⟩
    · omega
    · simp only [Value.slice.injEq] at hv
      obtain ⟨rfl, _, _⟩ := hv
      refine ⟨g, rfl, (hown9.lt g rfl).2, fun j hj => ?_⟩
      have := hown9.cells (g := g) rfl j (.string (xs.getD j ByteArray.empty)) (by simp [List.getD, List.getElem?_eq_getElem hj])
      rw [Addr.add_lit] at this
      simpa using this
  have HA9 := Lib.hid hA9
  have HA2 := Lib.hid (by
    intro hpos
    obtain ⟨g, rfl, hc0, hc1⟩ := hA2 hpos
    have B3 : g < w.heap.size := HV2.out g rfl
    exact ⟨g, rfl, B3, fun j hj => (hb9.cell (p := ⟨g, j * 2, none⟩) (by show g < _; omega)).trans (hc0 j hj), fun j hj => (hb9.cell (p := ⟨g, j * 2 + 1, none⟩) (by show g < _; omega)).trans (hc1 j hj)⟩
    : 0 < xs.length → ∃ g, ad2 = some ⟨g, 0, none⟩ ∧ g < w.heap.size ∧ (∀ j, j < xs.length → w2.cell? ⟨g, j * 2, none⟩ = some (.int .i64 (base + 1 + j))) ∧ (∀ j, j < xs.length → w2.cell? ⟨g, j * 2 + 1, none⟩ = some (.string (xs.getD j ByteArray.empty))))
  clear hA2 hA9 hown9
  have r0 : w2.cell? ⟨b2, 0, none⟩ = some (.slice ad2 xs.length cap2) := (hb9.cell (p := ⟨b2, 0, none⟩) (by show b2 < _; omega)).trans href1.c0
  replace k0 := (hb9.cell (p := ⟨w.heap.size, 0, none⟩) (by show w.heap.size < _; omega)).trans k0
  replace k1 := (hb9.cell (p := ⟨w.heap.size + 1, 0, none⟩) (by show w.heap.size + 1 < _; omega)).trans k1
  replace k2 := (hb9.cell (p := ⟨w.heap.size + 2, 0, none⟩) (by show w.heap.size + 2 < _; omega)).trans k2
  replace k3 := (hb9.cell (p := ⟨w.heap.size + 3, 0, none⟩) (by show w.heap.size + 3 < _; omega)).trans k3
  replace g1 := (hb9.frozen (p := ⟨w.heap.size + 1, 0, none⟩) (by show w.heap.size + 1 < _; omega)).trans g1
  have hlog2 : LogAt w2 B b base xs v := hlog1.below hb9 (by omega) (fun k hk => by have := HV.out k hk; omega)
  have hbel2 : Below w.heap.size w w2 := hbel.trans (hb9.mono (by omega))
  have hz2 : w.heap.size + 4 ≤ w2.heap.size := by have := hb9.size; omega
  clear hlog1 href1 hbel hb9 hz HV2
  go_wp2
  obtain ⟨i0, hi0, hz0, hz1, hz2'⟩ := info_parts Try.infoItem
  go_loopw [12] (fun i wr => ∃ (j K cap : Nat) (ad : Option Addr), j ≤ xs.length ∧ i = .int .i64 j ∧ K = (kept xs lo xs.length j).length ∧ wr.heap[w2.heap.size]? = some (.cells #[.slice ad K cap] 39 (0, 0)) ∧ wr.ownsRow w2.heap.size 43 2 (.slice ad K cap) K (items (base + lo) (kept xs lo xs.length j)) ∧ Below w2.heap.size w2 wr)
    (fun i _ => xs.length - (intOf i).toNat)
  case atStart =>
    refine ⟨0, 0, 0, none, Nat.zero_le _, rfl, by simp [kept_zero], heap_alloc_new w2 _, ?_, (Below.refl _ w2).alloc (Nat.le_refl _) _⟩
    simp only [kept_zero]; exact World.ownsRow_nil _ _ _ _
  case round =>
    obtain ⟨j, K, cp, ad, hj, rfl, hK, hbw, hown, hb⟩ := hrel
    have s0 : wr.cell? ⟨b2, 0, none⟩ = some (.slice ad2 xs.length cap2) := (hb.cell (p := ⟨b2, 0, none⟩) (by show b2 < _; omega)).trans r0
    have t0 : wr.cell? ⟨w2.heap.size, 0, none⟩ = some (.slice ad K cp) := by simp [World.cell?, hbw]
    have t1 : wr.frozen? ⟨w2.heap.size, 0, none⟩ = false := by simp [World.frozen?, hbw]
    by_cases hjl : j < xs.length
    · obtain ⟨g2, rfl, B3, hc0, hc1⟩ := HA2.out (by omega)
      obtain ⟨g9, rfl, B9, hc9⟩ := HA9.out (by omega)
      have C0 := Lib.hid hc0
      have C1 := Lib.hid hc1
      have C9 := Lib.hid hc9
      clear hc0 hc1 hc9
      have u0 := (hb.cell (p := ⟨g2, j * 2, none⟩) (by show g2 < _; omega)).trans (C0.out j hjl)
      have u1 := (hb.cell (p := ⟨g2, j * 2 + 1, none⟩) (by show g2 < _; omega)).trans (C1.out j hjl)
      have u9 := (hb.cell (p := ⟨g9, j, none⟩) B9).trans (C9.out j hjl)
      obtain ⟨x, hx⟩ : ∃ x, xs.getD j ByteArray.empty = x := ⟨_, rfl⟩
      rw [hx] at u1 u9
      have q0 : decide ((j : Int) < (xs.length : Int)) = true := by simp; omega
      have p0 : (0 : Int) ≤ (j : Int) := by omega
      have p1 : (j : Int) < (xs.length : Int) := by omega
      have hkl := kept_length xs lo xs.length j hj
      have HX := Lib.hid (And.intro hx (And.intro hK hkl))
      have HL := Lib.hid hlo
      have HBW := Lib.hid hbw
      by_cases h1 : lo ≤ j
      · have b1 : decide (m < base + 1 + (j : Int)) = true := by
          have := hlo
          split at this <;> (simp; omega)
        have hK4 : K ≤ 4096 := by omega
        have hP : ∀ (gg cap : Nat) (w3 : World), w3.ownsRow w2.heap.size 43 2 (.slice (some ⟨gg, 0, none⟩) (K + 1) cap) (K + 1) (items (base + lo) (kept xs lo xs.length j) ++ [.int .i64 (base + 1 + j), .string x]) →
            ∀ W : World, W.heap = wr.heap.push (.cells #[.int .i64 (base + 1 + j), .string x] 43) → W.os = wr.os → W.tape = wr.tape → W.output = wr.output → W.grownBy w3 (Value.slice ad K cp).ownBlock →
            (w3.cell? ⟨w2.heap.size, 0, none⟩ = some (.slice ad K cp) ∧ w3.frozen? ⟨w2.heap.size, 0, none⟩ = false) ∧
            (w3.setCell ⟨w2.heap.size, 0, none⟩ (.slice (some ⟨gg, 0, none⟩) (K + 1) cap)).heap[w2.heap.size]? = some (.cells #[.slice (some ⟨gg, 0, none⟩) (K + 1) cap] 39 (0, 0)) ∧
            (w3.setCell ⟨w2.heap.size, 0, none⟩ (.slice (some ⟨gg, 0, none⟩) (K + 1) cap)).ownsRow w2.heap.size 43 2 (.slice (some ⟨gg, 0, none⟩) (K + 1) cap) (K + 1) (items (base + lo) (kept xs lo xs.length (j + 1))) ∧
            K + 1 = (kept xs lo xs.length (j + 1)).length ∧
            Below w2.heap.size w2 (w3.setCell ⟨w2.heap.size, 0, none⟩ (.slice (some ⟨gg, 0, none⟩) (K + 1) cap)) := by
          intro gg cap w3 ho W hW1 hW2 hW3 hW4 hg
          have hblt : w2.heap.size < wr.heap.size := (Array.getElem?_eq_some_iff.1 hbw).1
          have hne := own_elem hown hbw (by decide)
          have hWh : ∀ k, k < wr.heap.size → W.heap[k]? = wr.heap[k]? := fun k hk => by rw [hW1, Array.getElem?_push, if_neg (by omega)]
          have hWs : W.heap.size = wr.heap.size + 1 := by rw [hW1]; simp
          have h3 : w3.heap[w2.heap.size]? = some (.cells #[.slice ad K cp] 39 (0, 0)) := by
            rw [hg.block _ (by omega) (fun e => hne e.symm), hWh _ hblt]; exact hbw
          have hst := heap_setCell_self (i := 0) (.slice (some ⟨gg, 0, none⟩) (K + 1) cap) h3
          have hin := kept_in xs lo xs.length j hjl h1 hjl
          have hlen1 : (kept xs lo xs.length (j + 1)).length = K + 1 := by rw [hin]; simp [← hK]
          refine ⟨⟨by simp [World.cell?, h3], by simp [World.frozen?, h3]⟩, by rw [hst]; rfl, ?_, hlen1.symm, ?_⟩
          · have := ownsRow_setCell_ne ho (a := ⟨w2.heap.size, 0, none⟩) (own_elem ho h3 (by decide)) (.slice (some ⟨gg, 0, none⟩) (K + 1) cap)
            rw [hin, items_append]
            have e1 : items (base + lo + (kept xs lo xs.length j).length) [xs.getD j ByteArray.empty] = [.int .i64 (base + 1 + j), .string x] := by
              simp only [items, hx]
              rw [show base + (lo : Int) + ((kept xs lo xs.length j).length : Int) + 1 = base + 1 + j by omega]
            rw [e1]
            exact this
          · have hbW : Below w2.heap.size w2 W := ⟨hW2.trans hb.os, hW3.trans hb.tape, hW4.trans hb.output, by have := hb.size; omega, fun k hk => (hWh k (by have := hb.size; omega)).trans (hb.block k hk)⟩
            exact (hbW.grown hg (by omega) (fun k hk => (hown.lt k hk).1)).setCell (p := ⟨w2.heap.size, 0, none⟩) (Nat.le_refl _) _
        have HP := Lib.hid hP
        clear hP hlo hkl hx hK hbw
        go_wp2_with fail
        go_quiet (fail)
        go_wp2_with fail
        obtain ⟨wq, hwq⟩ : ∃ wq, wr.drewN nq = wq := ⟨_, rfl⟩
        rw [hwq]
        replace s0 : wq.cell? ⟨b2, 0, none⟩ = some (.slice (some ⟨g2, 0, none⟩) xs.length cap2) := by rw [← hwq]; exact s0
        replace t0 : wq.cell? ⟨w2.heap.size, 0, none⟩ = some (.slice ad K cp) := by rw [← hwq]; exact t0
        replace t1 : wq.frozen? ⟨w2.heap.size, 0, none⟩ = false := by rw [← hwq]; exact t1
        replace u0 : wq.cell? ⟨g2, j * 2, none⟩ = some (.int .i64 (base + 1 + j)) := by rw [← hwq]; exact u0
        replace u1 : wq.cell? ⟨g2, j * 2 + 1, none⟩ = some (.string x) := by rw [← hwq]; exact u1
        replace hown : wq.ownsRow w2.heap.size 43 2 (.slice ad K cp) K (items (base + lo) (kept xs lo xs.length j)) := by rw [← hwq]; exact hown
        have hq1 : wq.heap = wr.heap ∧ wq.os = wr.os ∧ wq.tape = wr.tape ∧ wq.output = wr.output := by rw [← hwq]; exact ⟨rfl, rfl, rfl, rfl⟩
        have HQ := Lib.hid hq1
        have hszq : w2.heap.size ≤ wq.heap.size := by rw [hq1.1]; exact hb.size
        have hnew2 : ∀ o, (wq.alloc o).cell? ⟨w2.heap.size, 0, none⟩ = some (.slice ad K cp) := fun o => (cellOld _ _ _ _ (World.block_lt_of_cell? _ _ t0)).trans t0
        have hnew1 : ∀ o, (wq.alloc o).cell? ⟨b2, 0, none⟩ = some (.slice (some ⟨g2, 0, none⟩) xs.length cap2) := fun o => (cellOld _ _ _ _ (World.block_lt_of_cell? _ _ s0)).trans s0
        have hnew3 : ∀ o, (wq.alloc o).cell? ⟨g2, j * 2, none⟩ = some (.int .i64 (base + 1 + j)) := fun o => (cellOld _ _ _ _ (World.block_lt_of_cell? _ _ u0)).trans u0
        have hnew4 : ∀ o, (wq.alloc o).cell? ⟨g2, j * 2 + 1, none⟩ = some (.string x) := fun o => (cellOld _ _ _ _ (World.block_lt_of_cell? _ _ u1)).trans u1
        clear hwq hq1 u9
        obtain ⟨L, hL⟩ : ∃ L, items (base + lo) (kept xs lo xs.length j) = L := ⟨_, rfl⟩
        rw [hL] at hown HP
        clear hL
        refine wp_region_noPanic ?_
        go_region_law (first | (refine step_append_lies _ (by rfl) _ _ _ (by rfl) w2.heap.size 43 i0 _ 2 24 Try.underlying39 hi0 hz0 hz1 hz2' rfl (by omega) (.slice ad K cp) K L (by rfl) ((hown.alloc _).drew) ⟨wq.heap.size, 0, none⟩ 1 1 [.int .i64 (base + 1 + j), .string x] (by rfl) (by rfl) (World.news_of_block (cs := #[.int .i64 (base + 1 + j), .string x]) (t := 43) (fr := (0, 0)) (heap_alloc_new wq _)) (by simp [Value.oneCell']) (by omega) (by unfold maxLen; omega) (by omega) (by simp; omega) (wq.heap.size + 1) (by simp) ?_; intro gg cap w3 hown1 hgrow hat hltg; obtain ⟨⟨p0, p1⟩, p2, p3, p4, p5⟩ := HP.out gg cap w3 hown1 ((wq.alloc (.cells #[.int .i64 (base + 1 + j), .string x] 43)).drew) (by show wq.heap.push _ = _; rw [HQ.out.1]) HQ.out.2.1 HQ.out.2.2.1 HQ.out.2.2.2 hgrow; clear hat hltg hgrow hown1; have P4 := Lib.hid p4; clear p4))
        all_goals
          refine NoPanic.normal ?_
          go_wp2
          go_roundw
          case rel => exact ⟨j + 1, K + 1, cap, _, by omega, by go_num, P4.out, p2, p3, p5⟩
          case measure => simp [intOf]; omega
      · have b1 : decide (m < base + 1 + (j : Int)) = false := by
          have := hlo
          split at this <;> (simp; omega)
        have HK := Lib.hid (kept_out xs lo xs.length j (.inl (by omega)))
        clear hlo hkl hx hK hbw
        go_wp2_with fail
        go_quiet (fail)
        go_wp2
        go_roundw
        case rel => exact ⟨j + 1, K, cp, ad, by omega, by go_num, by rw [HK.out]; exact HX.out.2.1, HBW.out, by rw [HK.out]; exact hown, hb.trans (drewN_below _ _ _)⟩
        case measure => simp [intOf]; omega
    · obtain rfl : j = xs.length := by omega
      have q0 : decide ((xs.length : Int) < (xs.length : Int)) = false := by simp
      have hkd : kept xs lo xs.length xs.length = xs.drop lo := by simp [kept]
      rw [hkd] at hK hown
      have hKl : K = xs.length - lo := by rw [hK]; simp
      have k0' := (hb.cell (p := ⟨w.heap.size, 0, none⟩) (by show w.heap.size < _; omega)).trans k0
      have k1' := (hb.cell (p := ⟨w.heap.size + 1, 0, none⟩) (by show w.heap.size + 1 < _; omega)).trans k1
      have k2' := (hb.cell (p := ⟨w.heap.size + 2, 0, none⟩) (by show w.heap.size + 2 < _; omega)).trans k2
      have k3' := (hb.cell (p := ⟨w.heap.size + 3, 0, none⟩) (by show w.heap.size + 3 < _; omega)).trans k3
      have g1' := (hb.frozen (p := ⟨w.heap.size + 1, 0, none⟩) (by show w.heap.size + 1 < _; omega)).trans g1
      have hlog3 : LogAt wr B b base xs v := hlog2.below hb (by omega) (fun k hk => by have := HV.out k hk; omega)
      have hbel3 : Below w.heap.size w wr := hbel2.trans (hb.mono (by omega))
      have hz3 : w.heap.size + 4 < wr.heap.size := by have := (Array.getElem?_eq_some_iff.1 hbw).1; omega
      have hzz : w2.heap.size < wr.heap.size := (Array.getElem?_eq_some_iff.1 hbw).1
      have HB := Lib.hid hbw
      have HOwn := Lib.hid hown
      have HK := Lib.hid hKl
      clear k0 k1 k2 k3 g1 hlog2 hbel2 hb hz2 HA2 HA9 r0 s0 t0 t1 hbw hown hkd hK hKl q0
      go_wp2
      refine wpIn_wide (n := 3).1 ?_
      have hstops := log_stops (3 - 1) (by omega) (w.heap.size + 3) (w.heap.size + 2) wr.heap.size B b lo m base xs v (wr.alloc (.cells #[.int .i64 0] 3)) hlo hb0 (by omega) hm (hlog3.ch ((Ch.refl (fun _ => False) wr).alloc _) (by simp) (by simp)) (by omega) (fun k hk => by have := HV.out k hk; omega) (by omega) (by simp) (by simp; omega)
        ((cellOld _ _ _ _ (by omega)).trans k3') ((cellOld _ _ _ _ (by omega)).trans k2')
      refine wpIn_rangeFunc_ownF hw3 (by omega) (gf := 25) (lb := #[.pointer (some ⟨w.heap.size + 3, 0, none⟩), .pointer (some ⟨w.heap.size + 2, 0, none⟩)]) rfl (hw1 _) (enters_of Try.func25 (by kernel_rfl) rfl)
        hstops belowK_t (belowK_b (by simp)) (Below.refl _ _) (fun _ => rfl)
        (fun pre W => Below wr.heap.size (wr.alloc (.cells #[.int .i64 0] 3)) W ∧ (W.cell? ⟨wr.heap.size, 0, none⟩ = some (.int .i64 pre.length) ∧ W.frozen? ⟨wr.heap.size, 0, none⟩ = false) ∧ pre = upto (nth base xs lo) pre.length ∧ pre.length ≤ xs.length - lo)
        (fun c pre W => c = .ret ∧ ∃ r, W.cell? ⟨w.heap.size + 1, 0, none⟩ = some (.bool r) ∧ (pre = upto (nth base xs lo) pre.length → r = true) ∧ Below w.heap.size w W)
        (OwnFrom.and (ownFrom_below (by simp) (by simp)) (OwnFrom.and (Own.from (fun s A B row hs hg hr => ⟨cell_kept hs.1 hg hr, (frozen_kept hs.1 hg hr).trans hs.2⟩) _) (fun _ _ _ _ hs _ _ => hs)))
        (fun c s A B row hs hg hr => ⟨hs.1, by obtain ⟨r, h1, h2, h3⟩ := hs.2; exact ⟨r, cell_kept h1 hg (fun r hr' => (hr r hr').2), h2, h3.grown hg h3.size (fun k hk => by have := (hr k hk).1; simp at this; omega)⟩⟩)
        ⟨Below.refl _ _, ⟨(cellNew _ _ _ _ _ rfl), frozenNew _ _ _ _ _ rfl⟩, rfl, by simp⟩
        ?A ?assign ?body ?done ?stop
      case assign =>
        intro l x W K hK
        gi_wp2
        exact hK
      case body =>
        rintro l pre x W ⟨hbW, ⟨hcn, hfn⟩, hpre, hpl⟩ hlt
        obtain ⟨k, hk⟩ : ∃ k, pre.length = k := ⟨_, rfl⟩
        obtain ⟨x1, x2⟩ := x
        have hK := HK.out
        have hown := HOwn.out
        obtain ⟨gw, rfl⟩ : ∃ gw, ad = some ⟨gw, 0, none⟩ := by
          rcases hown.2 with ⟨_, hx⟩ | ⟨g, cap, cur, hv, _⟩
          · omega
          · simp only [Value.slice.injEq] at hv
            exact ⟨g, hv.1⟩
        have hgw : gw < wr.heap.size := (hown.lt gw rfl).2
        have hat := items_at (xs.drop lo) (base + lo) k (by simp; omega)
        have hi0 := hown.cells (g := gw) rfl _ _ hat.1
        have hi1 := hown.cells (g := gw) rfl _ _ hat.2
        rw [Addr.add_lit] at hi0 hi1
        simp only [Nat.zero_add] at hi0 hi1
        have hdrop : (xs.drop lo).getD k ByteArray.empty = xs.getD (lo + k) ByteArray.empty := by simp [List.getD, List.getElem?_drop]
        rw [hdrop] at hi1
        obtain ⟨y, hy⟩ : ∃ y, xs.getD (lo + k) ByteArray.empty = y := ⟨_, rfl⟩
        rw [hy] at hi1
        have hnth : nth base xs lo k = (base + lo + k + 1, y) := by simp only [nth, hy]
        have w0 : W.cell? ⟨w2.heap.size, 0, none⟩ = some (.slice (some ⟨gw, 0, none⟩) K cp) := (hbW.cell (p := ⟨w2.heap.size, 0, none⟩) hzz).trans ((cellOld _ _ _ _ hzz).trans (by simp [World.cell?, HB.out]))
        have v0 : W.cell? ⟨gw, k * 2, none⟩ = some (.int .i64 (base + lo + 1 + k)) := (hbW.cell (p := ⟨gw, k * 2, none⟩) hgw).trans ((cellOld _ _ _ _ hgw).trans hi0)
        have v1 : W.cell? ⟨gw, k * 2 + 1, none⟩ = some (.string y) := (hbW.cell (p := ⟨gw, k * 2 + 1, none⟩) hgw).trans ((cellOld _ _ _ _ hgw).trans hi1)
        have m0 : W.cell? ⟨w.heap.size, 0, none⟩ = some (.int .i64 most) := (hbW.cell (p := ⟨w.heap.size, 0, none⟩) (by show w.heap.size < _; omega)).trans ((cellOld _ _ _ _ (by omega)).trans k0')
        have m1 : W.cell? ⟨w.heap.size + 1, 0, none⟩ = some (.bool false) := (hbW.cell (p := ⟨w.heap.size + 1, 0, none⟩) (by show w.heap.size + 1 < _; omega)).trans ((cellOld _ _ _ _ (by omega)).trans k1')
        have f1 : W.frozen? ⟨w.heap.size + 1, 0, none⟩ = false := (hbW.frozen (p := ⟨w.heap.size + 1, 0, none⟩) (by show w.heap.size + 1 < _; omega)).trans ((frozenOld _ _ _ _ (by omega)).trans g1')
        have hbW2 : Below w.heap.size w W := (hbel3.alloc hbel3.size _).trans (hbW.mono (by omega))
        rw [hk] at hcn hlt
        rw [hk] at hpre
        have q0 : decide ((K : Int) ≤ (k : Int)) = false := by simp; omega
        have p0 : (0 : Int) ≤ (k : Int) := by omega
        have p1 : (k : Int) < (K : Int) := by omega
        have HH := Lib.hid (And.intro hpre (And.intro hk (And.intro hnth hK)))
        have HBW := Lib.hid hbW
        clear hpre hk hnth hK hown hat hi0 hi1 hdrop hy hbW k0' k1' k2' k3' g1' hlt hpl hstops
        have hk4 : (k : Int) ≤ 4096 := by have := HK.out; omega
        by_cases hx : (x1, x2) = (base + (lo : Int) + 1 + (k : Int), y)
        · simp only [Prod.mk.injEq] at hx
          obtain ⟨rfl, rfl⟩ := hx
          have HG := Lib.hid (by
            obtain ⟨h1, h2, h3, h4⟩ := HH.out
            refine ⟨?_, by simp [h2], by have := p1; omega⟩
            rw [upto_succ, h3, ← h1, show base + (lo : Int) + 1 + (k : Int) = base + lo + k + 1 by omega]
            : pre ++ [(base + (lo : Int) + 1 + (k : Int), x2)] = upto (nth base xs lo) (k + 1) ∧ (pre ++ [(base + (lo : Int) + 1 + (k : Int), x2)]).length = k + 1 ∧ k + 1 ≤ xs.length - lo)
          by_cases hmost : (k : Int) + 1 = most
          · have e3' : ((k : Int) + 1 == most) = true := by simp [hmost]
            clear hmost
            gi_wp2_with fail
            refine ⟨(KeepsOthers.setCell _ _ _).trans (KeepsOthers.setCell _ _ _), rfl, true, World.cell?_setCell_same' _ ⟨w.heap.size + 1, 0, none⟩ (.bool true) ?_, fun _ => rfl, (hbW2.setCell (p := ⟨wr.heap.size, 0, none⟩) (by show w.heap.size ≤ wr.heap.size; omega) _).setCell (p := ⟨w.heap.size + 1, 0, none⟩) (by show w.heap.size ≤ w.heap.size + 1; omega) _⟩
            rw [World.cell?_of_block (Below.heap_setCell _ _ _ _ (by show w.heap.size + 1 ≠ wr.heap.size; omega)), m1]; rfl
          · have e3' : ((k : Int) + 1 == most) = false := by simp [hmost]
            clear hmost
            gi_wp2_with fail
            obtain ⟨g1, g2, g3⟩ := HG.out
            have hn1 : ((k + 1 : Nat) : Int) = (k : Int) + 1 := by omega
            refine ⟨KeepsOthers.setCell _ _ _, (Below.refl _ _).setCell (p := ⟨wr.heap.size, 0, none⟩) (Nat.le_refl _) _, HBW.out.setCell (p := ⟨wr.heap.size, 0, none⟩) (Nat.le_refl _) _, ⟨?_, ?_⟩, by rw [g2]; exact g1, by rw [g2]; exact g3⟩
            · rw [g2, hn1]
              exact World.cell?_setCell_same' _ ⟨wr.heap.size, 0, none⟩ _ (by rw [hcn]; rfl)
            · rw [World.frozen?_setCell]; exact hfn
        · have hbad := Lib.hid (by
            obtain ⟨h1, h2, h3, h4⟩ := HH.out
            refine fun e => hx ?_
            have : (pre ++ [(x1, x2)]).length = k + 1 := by simp [h2]
            rw [this, upto_succ, ← h1, h3] at e
            have := List.append_cancel_left e
            simp only [List.cons.injEq, and_true] at this
            rw [this, show base + (lo : Int) + 1 + (k : Int) = base + lo + k + 1 by omega]
            : (pre ++ [(x1, x2)]) ≠ upto (nth base xs lo) (pre ++ [(x1, x2)]).length)
          have HX := Lib.hid hx
          have hm1 : (W.cell? ⟨w.heap.size + 1, 0, none⟩).isSome = true := by rw [m1]; rfl
          have HM := Lib.hid hm1
          clear hx hm1
          gi_wp2_with fail
          all_goals first
            | exact ⟨KeepsOthers.setCell _ _ _, rfl, false, World.cell?_setCell_same' _ ⟨w.heap.size + 1, 0, none⟩ (.bool false) HM.out, fun e => absurd e hbad.out, hbW2.setCell (p := ⟨w.heap.size + 1, 0, none⟩) (by show w.heap.size ≤ w.heap.size + 1; omega) _⟩
            | (rename_i h1 h2 h3 h4; exact absurd (Prod.ext h2.symm (toList_eq_of h3.2).symm) HX.out)
      case stop =>
        rintro D c pre W hD ⟨k, hk, hpre⟩ ⟨rfl, r, hc, hr, hB⟩ hK
        obtain rfl : r = true := hr (by rw [hpre, upto_length])
        clear hstops
        have HD := Lib.hid hK
        clear hK
        clear hpre
        have hK := HD.out
        have hDl : D < W.heap.size := (Array.getElem?_eq_some_iff.1 hK).1
        replace hD : wr.heap.size + 1 ≤ D := by simpa using hD
        have hc5 := cell_kept hc (grownBy_putObj' _ D (.deferred none)) (fun r e => by cases e; exact ⟨_, hK, rfl⟩)
        gi_wp2_with fail
        refine ⟨by simp, .inl ⟨_, _, rfl, run_takeDeferred hK, ?_⟩⟩
        exact ⟨_, by simp [results, Try.results16, go_sem, hc5], rfl, Below.trans hB (belowK_b (w := w) (Nat.le_refl _) _ D _ _ (by omega) hK rfl rfl)⟩
      case done =>
        rintro D pre W hD hpre ⟨hbW, ⟨hcn, hfn⟩, hpre', hpl⟩ hK
        clear hstops
        have hpl' : pre.length = K := by rw [hpre, upto_length]; exact HK.out.symm
        rw [hpl'] at hcn
        have w0 : W.cell? ⟨w2.heap.size, 0, none⟩ = some (.slice ad K cp) := (hbW.cell (p := ⟨w2.heap.size, 0, none⟩) hzz).trans ((cellOld _ _ _ _ hzz).trans (by simp [World.cell?, HB.out]))
        have m1 : W.cell? ⟨w.heap.size + 1, 0, none⟩ = some (.bool false) := (hbW.cell (p := ⟨w.heap.size + 1, 0, none⟩) (by show w.heap.size + 1 < _; omega)).trans ((cellOld _ _ _ _ (by omega)).trans k1')
        have f1 : W.frozen? ⟨w.heap.size + 1, 0, none⟩ = false := (hbW.frozen (p := ⟨w.heap.size + 1, 0, none⟩) (by show w.heap.size + 1 < _; omega)).trans ((frozenOld _ _ _ _ (by omega)).trans g1')
        have hbW2 : Below w.heap.size w W := (hbel3.alloc hbel3.size _).trans (hbW.mono (by omega))
        have HD := Lib.hid hK
        clear hK hpre hpre' hpl hpl' k0' k1' k2' k3' g1'
        have b1 : ((K : Int) == (K : Int)) = true := by simp
        go_wp2_with fail
        clear w0 b1
        have hK := HD.out
        have hDl : D < W.heap.size := (Array.getElem?_eq_some_iff.1 hK).1
        replace hD : wr.heap.size + 1 ≤ D := by simpa using hD
        have hK2 : (W.setCell ⟨w.heap.size + 1, 0, none⟩ (.bool true)).heap[D]? = some (.deferred (some [])) := by
          rw [Below.heap_setCell _ _ _ _ (by show D ≠ w.heap.size + 1; omega)]; exact hK
        have hc5 := cell_kept (World.cell?_setCell_same' W ⟨w.heap.size + 1, 0, none⟩ (.bool true) (by rw [m1]; rfl)) (grownBy_putObj' _ D (.deferred none)) (fun r e => by cases e; exact ⟨_, hK2, rfl⟩)
        refine ⟨by simp, .inl ⟨_, _, rfl, run_takeDeferred hK2, ?_⟩⟩
        exact ⟨_, by simp [results, Try.results16, go_sem, hc5], rfl, Below.trans (hbW2.setCell (p := ⟨w.heap.size + 1, 0, none⟩) (by show w.heap.size ≤ w.heap.size + 1; omega) _) (belowK_b (w := w) (Nat.le_refl _) _ D _ _ (by omega) hK2 rfl rfl)⟩

end Go.Proofs.Ytmlffomdlcfcbaa
