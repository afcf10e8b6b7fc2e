import Derived.Test.YtmlffomdlcfcbaaM
namespace Go.Proofs.Ytmlffomdlcfcbaa
open Go.RowKit

/-- What has been kept when j things have been looked at. -/
def kept (xs : List ByteArray) (lo hi j : Nat) : List ByteArray := (xs.take (min j hi)).drop lo

theorem kept_zero (xs : List ByteArray) (lo hi : Nat) : kept xs lo hi 0 = [] := by simp [kept]
theorem kept_length (xs : List ByteArray) (lo hi j : Nat) (hj : j ≤ xs.length) : (kept xs lo hi j).length = min j hi - lo := by simp [kept]; omega
theorem kept_in (xs : List ByteArray) (lo hi j : Nat) (hj : j < xs.length) (h1 : lo ≤ j) (h2 : j < hi) : kept xs lo hi (j + 1) = kept xs lo hi j ++ [xs.getD j ByteArray.empty] := by
  have e1 : min (j + 1) hi = j + 1 := by omega
  have e2 : min j hi = j := by omega
  simp only [kept, e1, e2]
  rw [List.take_succ_eq_append_getElem hj, List.drop_append_of_le_length (by simp; omega)]
  simp [List.getD, List.getElem?_eq_getElem hj]
theorem kept_out (xs : List ByteArray) (lo hi j : Nat) (h : j < lo ∨ hi ≤ j) : kept xs lo hi (j + 1) = kept xs lo hi j := by
  simp only [kept]
  rcases h with h | h
  · rw [List.drop_eq_nil_of_le (by simp; omega), List.drop_eq_nil_of_le (by simp; omega)]
  · rw [show min (j + 1) hi = min j hi by omega]

def Kept (w : World) (base : Int) (ys : List ByteArray) (e : Ending) (w' : World) : Prop :=
  ∃ a c, e = .returned (.slice a ys.length c) ∧ w'.ownsRow w.heap.size 43 2 (.slice a ys.length c) ys.length (items base ys) ∧ Below w.heap.size w w'

set_option maxRecDepth 100000 in
set_option maxHeartbeats 2000000 in
theorem keep_any {w : World} {B b : Nat} {base : Int} {xs : List ByteArray} {v : Value} (h : RefAt w B b base xs v) (hb : 0 ≤ base) (hn : base + xs.length ≤ 4611686018427387904) (hl : xs.length ≤ 4096) (least most : Int) (lo hi : Nat)
    (hlo : ∀ i : Nat, i < xs.length → (least ≤ base + 1 + i ↔ lo ≤ i)) (hhi : ∀ i : Nat, i < xs.length → (base + 1 + i ≤ most ↔ i < hi)) :
    Calls Try.prog 24 #[.pointer (some ⟨b, 0, none⟩), .int .i64 least, .int .i64 most] w (Kept w (base + lo) (kept xs lo hi xs.length)) := by
  have c0 := h.c0
  have hbs := h.lt
  have HLo := Lib.hid hlo
  have HHi := Lib.hid hhi
  clear hlo hhi
  obtain ⟨i0, hi0, hz0, hz1, hz2⟩ := info_parts Try.infoItem
  obtain ⟨a, c, hv⟩ : ∃ a c, v = .slice a xs.length c := (ownsRow_slice h.own).elim fun a h => h.elim fun c h => ⟨a, c, h.1⟩
  subst hv
  have hcell : ∃ g, (0 < xs.length → a = some ⟨g, 0, none⟩ ∧ g < w.heap.size) ∧ (∀ j, j < xs.length → w.cell? ⟨g, j * 2, none⟩ = some (.int .i64 (base + 1 + j))) ∧ (∀ j, j < xs.length → w.cell? ⟨g, j * 2 + 1, none⟩ = some (.string (xs.getD j ByteArray.empty))) := by
    rcases h.shape with ⟨_, rfl⟩ | ⟨g, cap, e, _, _, _, h1, h2⟩
    · exact ⟨0, by simp, by simp, by simp⟩
    · simp only [Value.slice.injEq] at e
      exact ⟨g, fun _ => ⟨e.1, (h.own.lt g (by rw [e.1]; rfl)).2⟩, h1, h2⟩
  obtain ⟨g, hg, hc0, hc1⟩ := hcell
  have HG := Lib.hid hg
  have HC0 := Lib.hid hc0
  have HC1 := Lib.hid hc1
  clear hg hc0 hc1 h
  go_enter Try.func24, Try.ntmps24
  go_wp2
  go_loopw [7, 8] (fun u i wr => ∃ (j cap : Nat) (ad : Option Addr), j ≤ xs.length ∧ i = .int .i64 j ∧ u = .slice ad (kept xs lo hi j).length cap ∧ wr.ownsRow w.heap.size 43 2 (.slice ad (kept xs lo hi j).length cap) (kept xs lo hi j).length (items (base + lo) (kept xs lo hi j)) ∧ Below w.heap.size w wr)
    (fun _ i _ => xs.length - (intOf i).toNat)
  case atStart => exact ⟨0, 0, none, Nat.zero_le _, rfl, by simp [kept_zero], by simp only [kept_zero]; exact World.ownsRow_nil _ _ _ _, Below.refl _ _⟩
  case round =>
    obtain ⟨j, cp, ad, hj, rfl, rfl, hown, hbel⟩ := hrel
    have d0 := (hbel.cell (p := ⟨b, 0, none⟩) hbs).trans c0
    by_cases hjl : j < xs.length
    · obtain ⟨ha, hgs⟩ := HG.out (by omega)
      have e0 := (hbel.cell (p := ⟨g, j * 2, none⟩) hgs).trans (HC0.out j hjl)
      have e1 := (hbel.cell (p := ⟨g, j * 2 + 1, none⟩) hgs).trans (HC1.out j hjl)
      have l0 := HLo.out j hjl
      have l1 := HHi.out j hjl
      have q0 : decide ((j : Int) < (xs.length : Int)) = true := by simp; omega
      have hkl := kept_length xs lo hi j hj
      by_cases h1 : lo ≤ j
      · have b1 : decide (least ≤ base + 1 + (j : Int)) = true := by simpa using l0.2 h1
        by_cases h2 : j < hi
        · have b2 : decide (base + 1 + (j : Int) ≤ most) = true := by simpa using l1.2 h2
          have hstep := kept_in xs lo hi j hjl h1 h2
          have hK : (kept xs lo hi j).length = j - lo := by rw [hkl]; omega
          obtain ⟨x, hx⟩ : ∃ x, xs.getD j ByteArray.empty = x := ⟨_, rfl⟩
          rw [hx] at e1 hstep
          obtain ⟨K, eK⟩ : ∃ K, (kept xs lo hi j).length = K := ⟨_, rfl⟩
          obtain ⟨L, eL⟩ : ∃ L, items (base + lo) (kept xs lo hi j) = L := ⟨_, rfl⟩
          have hK4 : K ≤ 4096 := by omega
          rw [eK, eL] at hown
          have HX := Lib.hid (And.intro hstep (And.intro hK (And.intro eK (And.intro eL hkl))))
          rw [eK]
          clear hstep hK eK eL hkl l0 l1 hx
          go_wp2_with (at_builtin; refine wpList_append_own _ rfl _ _ 39 rfl w.heap.size 43 i0 (.agg #[.int .i64 0, .string ⟨#[]⟩]) 2 24 Try.underlying39 hi0 hz0 hz1 hz2 rfl (by decide) _ _ _ rfl (hown.alloc _) ⟨wr.heap.size, 0, none⟩ 1 1 [.int .i64 (base + 1 + j), .string x] rfl rfl ?c1 ?c2 ?c3 ?c4 ?c5 ?_)
          case c1 => exact news2 _ _ _ _ _ rfl
          case c2 => intro u hu; simp at hu; rcases hu with rfl | rfl <;> rfl
          case c3 => unfold maxLen; omega
          case c4 => omega
          case c5 => have := hbel.size; simp; omega
          intro v' w2 hown2 hgrow2 hnil
          clear hnil
          obtain ⟨a', c', rfl⟩ : ∃ a c, v' = .slice a (K + 1) c := (ownsRow_slice hown2).elim fun a h => h.elim fun c h => ⟨a, c, h.1⟩
          replace hgrow2 : World.grownBy _ w2 (Value.slice ad K cp).ownBlock := hgrow2
          have hbel2 : Below w.heap.size w w2 := (hbel.alloc hbel.size _).grown hgrow2 (by have := hbel.size; simp; omega) (fun k hk => (hown.lt k hk).1)
          have HO := Lib.hid hown2
          clear hown2 hgrow2 hown
          obtain ⟨hstep, hK, eK, eL, hkl⟩ := HX.out
          have hlen : (kept xs lo hi (j + 1)).length = K + 1 := by rw [hstep]; simp [eK]
          have hitems : items (base + lo) (kept xs lo hi (j + 1)) = L ++ [.int .i64 (base + 1 + j), .string x] := by
            rw [hstep, items_append, eL]
            simp only [items]
            rw [show base + (lo : Int) + ((kept xs lo hi j).length : Int) + 1 = base + 1 + j by omega]
          have HI := Lib.hid (And.intro hlen hitems)
          clear hstep hK eK eL hkl hlen hitems HX
          go_wp2
          go_roundw
          case rel => exact ⟨j + 1, c', a', by omega, by go_num, by rw [HI.out.1], by rw [HI.out.1, HI.out.2]; exact HO.out, hbel2⟩
          case measure => simp [intOf]; omega
        · have b2 : decide (base + 1 + (j : Int) ≤ most) = false := by simp; omega
          have HX := Lib.hid (kept_out xs lo hi j (.inr (by omega)))
          clear hkl l0 l1
          go_wp2
          go_roundw
          case rel => exact ⟨j + 1, cp, ad, by omega, by go_num, by rw [HX.out], by rw [HX.out]; exact hown, hbel⟩
          case measure => simp [intOf]; omega
      · have b1 : decide (least ≤ base + 1 + (j : Int)) = false := by simp; omega
        have HX := Lib.hid (kept_out xs lo hi j (.inl (by omega)))
        clear hkl l0 l1
        go_wp2
        go_roundw
        case rel => exact ⟨j + 1, cp, ad, by omega, by go_num, by rw [HX.out], by rw [HX.out]; exact hown, hbel⟩
        case measure => simp [intOf]; omega
    · obtain rfl : j = xs.length := by omega
      have q0 : decide ((xs.length : Int) < (xs.length : Int)) = false := by simp
      go_wp2
      go_ret
      exact ⟨_, _, rfl, hown, hbel⟩

end Go.Proofs.Ytmlffomdlcfcbaa
