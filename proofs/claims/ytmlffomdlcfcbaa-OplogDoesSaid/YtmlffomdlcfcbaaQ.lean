import Derived.Test.YtmlffomdlcfcbaaG
import Derived.Test.YtmlffomdlcfcbaaP
namespace Go.Proofs.Ytmlffomdlcfcbaa
open Go.RowKit Go.Shelf
attribute [local go_sem] Oper.semAt_some

/-- What has come when k rounds are over. -/
def upto {α : Type} (f : Nat → α) (k : Nat) : List α := (List.range k).map f
theorem upto_succ {α : Type} (f : Nat → α) (k : Nat) : upto f (k + 1) = upto f k ++ [f k] := by simp [upto, List.range_succ]
theorem upto_length {α : Type} (f : Nat → α) (k : Nat) : (upto f k).length = k := by simp [upto]

/-- The k-th thing behind place lo, and its number. -/
def nth (base : Int) (xs : List ByteArray) (lo k : Nat) : Int × ByteArray := (base + lo + k + 1, xs.getD (lo + k) ByteArray.empty)

theorem LogAt.below {w w' : World} {B b n₀ : Nat} {base : Int} {xs : List ByteArray} {v : Value} (h : LogAt w B b base xs v) (hb : Below n₀ w w') (h0 : b < n₀) (h1 : ∀ k, v.ownBlock = some k → k < n₀) : LogAt w' B b base xs v :=
  h.keep (hb.block b h0) (fun k hk => hb.block k (h1 k hk))
theorem RefAt.below {w w' : World} {B b n₀ : Nat} {base : Int} {xs : List ByteArray} {v : Value} (h : RefAt w B b base xs v) (hb : Below n₀ w w') (h0 : b < n₀) (h1 : ∀ k, v.ownBlock = some k → k < n₀) : RefAt w' B b base xs v :=
  h.keep (hb.block b h0) (fun k hk => hb.block k (h1 k hk))

set_option maxRecDepth 100000 in
set_option maxHeartbeats 4000000 in
theorem from_in (n : Nat) (hn : 1 ≤ n) (l bn bl n₀ B b lo : Nat) (m base : Int) (xs : List ByteArray) (v : Value) (hlo : (if m < base then base else m) = base + lo) (hb0 : 0 ≤ base) (hbn : base + xs.length < 9223372036854775807) (hm : m ≤ 9223372036854775807) (J Jx : List (Int × ByteArray) → World → Prop)
    (hY : ∀ pre x W, J pre W → pre.length < xs.length - lo → YieldAt Fence.wide (n - 1) Try.prog l #[.int .i64 x.1, .string x.2] W fun e W' =>
      (e = .returned (.bool true) ∧ J (pre ++ [x]) W' ∧ Below n₀ W W') ∨ (e = .returned (.bool false) ∧ Jx (pre ++ [x]) W'))
    (W : World) (hlog : LogAt W B b base xs v) (h1 : b < n₀) (h2 : ∀ k, v.ownBlock = some k → k < n₀) (h3 : bl < n₀) (hcn : W.cell? ⟨bn, 0, none⟩ = some (.int .i64 m)) (hcl : W.cell? ⟨bl, 0, none⟩ = some (.pointer (some ⟨b, 0, none⟩))) (h0 : J [] W) (hJ : AbidesFrom W.heap.size J) (hJW : n₀ ≤ W.heap.size) :
    CallsIn Fence.wide n Try.prog 25 #[.func (.yield l) #[] #[], .pointer (some ⟨bn, 0, none⟩), .pointer (some ⟨bl, 0, none⟩)] W fun e W' => (∃ v, e = .returned v) ∧
      ((∃ ys, ys = upto (nth base xs lo) (xs.length - lo) ∧ J ys W') ∨ (∃ pre, (∃ k, k ≤ xs.length - lo ∧ pre = upto (nth base xs lo) k) ∧ Jx pre W')) := by
  refine callsIn_of_wp Try.func25 rfl trivial ?_ rfl
  simp only [Try.ntmps25, List.size_toArray, List.length_cons, List.length_nil, Nat.reduceAdd, Nat.reduceSub, Array.replicate_succ, Array.replicate_zero, List.push_toArray, List.append_toArray, List.nil_append, List.cons_append]
  have hw1 : ∀ k, Fence.wide.fn k := fun _ => trivial
  have hw2 : Fence.wide.depth = none := rfl
  have hw3 : Fence.wide.round = none := rfl
  have HJ : Hid (∀ pre W1 t, n₀ ≤ W1.heap.size → J pre W1 → J pre (W1.drewN t)) := fun pre W1 t _ h => hJ pre W1 (W1.drewN t) none h ⟨rfl, rfl, rfl, Nat.le_refl _, fun _ _ _ => rfl⟩ (by simp)
  have HY := Lib.hid hY
  have H2 := Lib.hid h2
  clear hJ hY h2
  have HB := Lib.hid (fun t : Nat => CallsIn.quiet_of_same (callsIn_wide (n := n - 1).2 ((base_at b base (W.drewN t) (hlog.drewN t).c0).mono (fun e w' h => ⟨h.1, h.2.symm⟩))))
  gi_wp2_with fail
  gi_quiet ((gi_at_call 18; exact HB.out _))
  gi_wp2
  gi_loopw [4] (fun i wr => ∃ k : Nat, k ≤ xs.length - lo ∧ i = .int .i64 (base + lo + k) ∧ J (upto (nth base xs lo) k) wr ∧ Below n₀ W wr) (fun i _ => (base + xs.length - intOf i).toNat)
  case atStart => exact ⟨0, Nat.zero_le _, by simp, HJ.out _ _ _ hJW h0, ⟨rfl, rfl, rfl, Nat.le_refl _, fun _ _ => rfl⟩⟩
  case round =>
    obtain ⟨k, hk, rfl, hJs, hbel⟩ := hrel
    have hlogr : LogAt wr B b base xs v := hlog.below hbel h1 H2.out
    have hcr : wr.cell? ⟨bl, 0, none⟩ = some (.pointer (some ⟨b, 0, none⟩)) := (hbel.cell (p := ⟨bl, 0, none⟩) h3).trans hcl
    have hszr : n₀ ≤ wr.heap.size := Nat.le_trans hJW hbel.size
    by_cases hlt : k < xs.length - lo
    · have d1 : decide (base + (lo : Int) + (k : Int) < base + (xs.length : Int)) = true := by simp; omega
      gi_wp2_with fail
      refine (callsIn_wide.2 (last_at hlogr hb0 (by omega))).mono ?_
      rintro e w' ⟨rfl, m1, rfl⟩
      have hA := at_in (hlogr.drewN m1) hb0 (by omega) (lo + k) (by omega)
      obtain ⟨x, hx⟩ : ∃ x, xs.getD (lo + k) ByteArray.empty = x := ⟨_, rfl⟩
      rw [show base + ((lo + k : Nat) : Int) + 1 = base + lo + k + 1 by omega, hx] at hA
      have hnth : nth base xs lo k = (base + lo + k + 1, x) := by simp only [nth, hx]
      have HN := Lib.hid hnth
      have HA := Lib.hid hA
      clear hA hx hnth
      gi_wp2_with fail
      refine (callsIn_wide.2 HA.out).mono ?_
      rintro e w' ⟨rfl, m2, rfl⟩
      obtain ⟨W2, hW2⟩ : ∃ W2, (wr.drewN m1).drewN m2 = W2 := ⟨_, rfl⟩
      have hJ2 : J (upto (nth base xs lo) k) W2 := by rw [← hW2]; exact HJ.out _ _ _ hszr (HJ.out _ _ _ hszr hJs)
      have hbel2 : Below n₀ W W2 := by rw [← hW2]; exact (hbel.trans (drewN_below _ _ m1)).trans (drewN_below _ _ m2)
      rw [hW2]
      clear hW2 HA hJs hbel hcr hlogr
      obtain ⟨fn, tmps, assign, body, hy, hR⟩ := HY.out _ (base + lo + k + 1, x) W2 hJ2 (by rw [upto_length]; exact hlt)
      dsimp only at hy
      have HR := Lib.hid hR
      clear hR hJ2
      gi_wp2
      refine HR.out.mono ?_
      rintro e W3 (⟨rfl, hJ3, hk3⟩ | ⟨rfl, hJx3⟩)
      · rw [← HN.out, ← upto_succ] at hJ3
        have hJ3' : J (upto (nth base xs lo) (k + 1)) W3 := hJ3
        clear hJ3
        gi_wp2
        go_roundw
        case rel => exact ⟨k + 1, by omega, by go_num, hJ3', hbel2.trans hk3⟩
        case measure => simp [intOf]; omega
      · rw [← HN.out, ← upto_succ] at hJx3
        gi_wp2
        refine bodyPost_ret (results_none rfl _ _ _) rfl ?_
        exact ⟨⟨_, rfl⟩, .inr ⟨_, ⟨k + 1, by omega, rfl⟩, hJx3⟩⟩
    · obtain rfl : k = xs.length - lo := by omega
      have d1 : decide (base + (lo : Int) + ((xs.length - lo : Nat) : Int) < base + (xs.length : Int)) = false := by simp; omega
      gi_wp2_with fail
      refine (callsIn_wide.2 (last_at hlogr hb0 (by omega))).mono ?_
      rintro e w' ⟨rfl, m1, rfl⟩
      gi_wp2
      go_end0
      exact ⟨⟨_, rfl⟩, .inl ⟨_, rfl, HJ.out _ _ _ hszr hJs⟩⟩

end Go.Proofs.Ytmlffomdlcfcbaa
