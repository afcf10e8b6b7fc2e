import Derived.Test.YtnmooepmpebepaaT
namespace Go.Proofs.Ytnmooepmpebepaa
open Go.RowKit

/-- Slices of bytes that came in, in a slice; a nil one among them has no places. -/
def PartsX (w : World) (v : Value) (ps : List (List Int)) : Prop :=
  ∃ a cap, v = .slice a ps.length cap ∧ (0 < ps.length → ∃ q off, a = some ⟨q, off, none⟩ ∧ q < w.heap.size ∧ ∀ k, k < ps.length → ∃ u, w.cell? ⟨q, off + k, none⟩ = some u ∧ (∀ a n c, u = .slice a n c → a = none → u = .slice none 0 0) ∧ ReadsB w.heap.size w u (ps.getD k []))

theorem parts_val (w : World) (u : Value) (b : List Int) (g : Nat) (hr : ReadsB g w u b) : Parts (w.alloc (.cells #[u] 26)) (.slice (some ⟨w.heap.size, 0, none⟩) 1 1) [b] := by
  have hh := heap_alloc_new w (.cells #[u] 26)
  refine ⟨_, _, rfl, fun _ => ⟨_, 0, rfl, by simp, fun k hk => ?_⟩⟩
  rw [Nat.zero_add]
  obtain rfl : k = 0 := by simp at hk; exact hk
  refine ⟨u, (cell_of_row _ _ 0 _ _ _ hh).trans rfl, ?_, ?_⟩
  · obtain ⟨a, c, h, _⟩ := hr
    rw [h]; rfl
  · exact reads_other (reads_below hr (alloc_below _ _)) (fun q hq => by omega)

theorem own_chB {F : Nat → Prop} {w w' : World} {B : Nat} {e : TypeId} {size : Nat} {v : Value} {n : Nat} {xs : List Value} (h : w.ownsRow B e size v n xs) (hc : Ch F w w') (hv : ∀ g, v.ownBlock = some g → ¬ F g) : w'.ownsRow B e size v n xs := by
  refine ⟨h.1, ?_⟩
  rcases h.2 with h' | ⟨g, cap, cur, rfl, hg, hh, r⟩
  · exact .inl h'
  · exact .inr ⟨g, cap, cur, rfl, hg, (hc.block g (Array.getElem?_eq_some_iff.1 hh).1 (hv g rfl)).trans hh, r⟩
theorem Ch.grownB {F : Nat → Prop} {a b c : World} {row : Option Nat} (h : Ch F a b) (hg : b.grownBy c row) (hr : ∀ k, row = some k → k < a.heap.size → F k) : Ch F a c :=
  h.trans (F' := fun k => row = some k) ⟨hg.os, hg.tape, hg.output, hg.size, fun k hk hn => hg.block k hk (fun e => hn e.symm)⟩ (fun i hi hf => hr i hf hi)
theorem own_setB {w : World} {B q cap n : Nat} {L : List Int} (h : w.ownsRow B 5 1 (.slice (some ⟨q, 0, none⟩) n cap) n (bcells L)) (k : Nat) (_ : k < n) (x : Int) :
    (w.setCell ⟨q, k, none⟩ (.int .u8 x)).ownsRow B 5 1 (.slice (some ⟨q, 0, none⟩) n cap) n (bcells (L.set k x)) := by
  obtain ⟨h1, h2⟩ := h
  rcases h2 with ⟨hv, _⟩ | ⟨g, cap', cur, hv, hB, hh, hle, hm, hs, ht⟩
  · cases hv
  · simp only [Value.slice.injEq, Option.some.injEq, Addr.mk.injEq, and_true, true_and] at hv
    obtain ⟨rfl, rfl⟩ := hv
    refine ⟨by rw [← h1, bcells_length, bcells_length, List.length_set], .inr ⟨q, cap, cur.setIfInBounds k (.int .u8 x), rfl, hB, heap_setCell_self _ hh, hle, hm, by simpa using hs, ?_⟩⟩
    rw [Array.toList_setIfInBounds, ← bcells_set, ← ht, List.take_set]
theorem own_cellB {w : World} {B q cap n : Nat} {L : List Int} (h : w.ownsRow B 5 1 (.slice (some ⟨q, 0, none⟩) n cap) n (bcells L)) (k : Nat) (hk : k < n) : w.cell? ⟨q, k, none⟩ = some (.int .u8 (st L k)) ∧ w.frozen? ⟨q, k, none⟩ = false := by
  obtain ⟨h1, h2⟩ := h
  rcases h2 with ⟨hv, _⟩ | ⟨g, cap', cur, hv, hB, hh, hle, hm, hs, ht⟩
  · cases hv
  · simp only [Value.slice.injEq, Option.some.injEq, Addr.mk.injEq, and_true, true_and] at hv
    obtain ⟨rfl, rfl⟩ := hv
    rw [bcells_length, Nat.mul_one] at h1
    refine ⟨?_, by simp [World.frozen?, hh]⟩
    rw [cell_of_row _ _ _ _ _ _ hh]
    have := bcells_at L k (by omega)
    rw [← ht, Nat.mul_one, List.getElem?_take_of_lt hk] at this
    simpa using this
theorem flatten_succ (ps : List (List Int)) (i : Nat) (hi : i < ps.length) : (ps.take (i + 1)).flatten = (ps.take i).flatten ++ ps.getD i [] := by
  rw [List.take_succ_eq_append_getElem hi, List.flatten_append]
  simp [List.getD, List.getElem?_eq_getElem hi]
theorem flatten_le (ps : List (List Int)) (i : Nat) : (ps.take i).flatten.length ≤ ps.flatten.length := by
  have h : ps.flatten = (ps.take i).flatten ++ (ps.drop i).flatten := by rw [← List.flatten_append, List.take_append_drop]
  rw [h, List.length_append]; omega

/-- What lies in memory while parts are added. -/
structure Goes (w : World) (g : Nat) (va : Value) (msg : List Int) (wr : World) : Prop where
  given : Given wr g msg
  own : wr.ownsRow w.heap.size 5 1 va msg.length (bcells msg)
  apart : va.ownBlock ≠ some g
  below : Below w.heap.size w wr
theorem Goes.above {w w' wr : World} {g : Nat} {va : Value} {msg : List Int} (h : Goes w g va msg wr) (hb : Below wr.heap.size wr w') : Goes w g va msg w' :=
  ⟨h.given.ch (F := fun _ => False) (Ch.of_below hb) (by simp), own_chB (F := fun _ => False) h.own (Ch.of_below hb) (by simp), h.apart, h.below.trans (hb.mono h.below.size)⟩

set_option maxRecDepth 100000 in
set_option maxHeartbeats 8000000 in
theorem goes_any (w : World) (v : Value) (ps : List (List Int)) (hp : PartsX w v ps) (hlen : ps.length ≤ 1048576) (htot : ps.flatten.length ≤ 1048576) : Calls Try.prog 3 #[v] w (Holds w) := by
  obtain ⟨a, cap, rfl, hps⟩ := hp
  have HP := Lib.hid hps
  have LV := Lib.hid (fun (w' : World) => lives_true w')
  obtain ⟨i0, hi, hz0, hz1, hz2⟩ := info_parts Try.infoU8
  have qE0 := fun (w : World) => eq28 (sumS []) (outB_length _) w
  clear hps
  go_enter Try.func3, Try.ntmps3
  go_wp2_with fail
  refine (new_any _).mono ?_
  rintro e w1 ⟨g, rfl, hg, hh, hb⟩
  have H1 := Lib.hid (And.intro hh hb)
  clear hh hb
  go_wp2_with fail
  refine (LV.out _).mono ?_
  rintro e w2 ⟨rfl, hb2⟩
  have H2 := Lib.hid (Goes.above (w := w) (wr := w1) (g := g) (va := .slice none 0 0) (msg := []) ⟨⟨_, H1.out.1, inv_new⟩, World.ownsRow_nil _ _ _ _, (fun h => nomatch h), H1.out.2⟩ hb2)
  clear hb2
  go_wp2_with fail
  go_loopw [4, 5] (fun va q wr => ∃ i : Nat, i ≤ ps.length ∧ q = .int .i64 i ∧ Goes w g va (ps.take i).flatten wr) (fun _ q _ => ps.length - (intOf q).toNat)
  case atStart => exact ⟨0, Nat.zero_le _, rfl, H2.out⟩
  case round =>
    obtain ⟨i, hil, rfl, hG⟩ := hrel
    obtain ⟨w3, hw3⟩ : ∃ x, x = wr := ⟨_, rfl⟩
    subst hw3
    have HG := Lib.hid hG
    have hsz3 := hG.below.size
    have hfl := flatten_le ps i
    clear hG
    by_cases hlt : i < ps.length
    · have e1 : decide ((i : Int) < (ps.length : Int)) = true := by simp; omega
      by_cases h12 : i < 12
      · have e2 : decide ((i : Int) < 12) = true := by simp; omega
        have p0 : (0 : Int) ≤ (i : Int) := by omega
        have p1 : (i : Int) < (ps.length : Int) := by omega
        obtain ⟨q, off, rfl, hq, hcells⟩ := HP.out (by omega)
        obtain ⟨u, hu, hun, hur⟩ := hcells i hlt
        have cu := (HG.out.below.cell (p := ⟨q, off + i, none⟩) hq).trans hu
        have hsucc := flatten_succ ps i hlt
        have hfl2 := flatten_le ps (i + 1)
        obtain ⟨b, hb⟩ : ∃ b, ps.getD i [] = b := ⟨_, rfl⟩
        rw [hb] at hur hsucc
        rw [hsucc, List.length_append] at hfl2
        obtain ⟨msg, hmsg⟩ : ∃ m, (ps.take i).flatten = m := ⟨_, rfl⟩
        rw [hmsg] at HG hsucc hfl hfl2
        obtain ⟨au, cu', hv⟩ : ∃ a c, u = .slice a b.length c := by
          obtain ⟨a, c, h, _⟩ := hur
          exact ⟨_, _, h⟩
        subst hv
        have hb3 : Below w.heap.size w (w3.alloc (.cells #[] 5)) := HG.out.below.alloc HG.out.below.size _
        have HU := Lib.hid (And.intro hur (And.intro hun (hur.new hb3 (Nat.le_refl _))))
        have HS := Lib.hid hsucc
        have HCU := Lib.hid hu
        have cu2 : (w3.alloc (.cells #[] 5)).cell? ⟨q, off + i, none⟩ = some (.slice au b.length cu') := Lib.cell?_alloc_some _ cu
        clear hcells hu hun hur hsucc hmsg hb
        go_wp2_with (first | (at_builtin; refine wpList_append_bytes rfl (.tmp 27) (.tmp 31) 26 rfl w.heap.size i0 (.int .u8 0) Try.underlying26 hi hz0 hz1 hz2 rfl _ [] rfl (World.ownsRow_made (base := w.heap.size) (e := 5) (size := 1) w3 #[] 0 hsz3 (Nat.zero_le _) rfl) _ rfl b w.heap.size HU.out.2.2 HU.out.2.1 (by simp; omega) (by simp; omega) ?_; intro vp w4 hown4 hg4 hloc4))
        have hown4' : w4.ownsRow w.heap.size 5 1 vp b.length (bcells b) := hown4
        obtain ⟨ap, cp, hvp⟩ : ∃ a c, vp = .slice a b.length c := by
          rcases hown4'.2 with ⟨hv, h0⟩ | ⟨q, cap, cur, hv, _⟩
          · exact ⟨none, 0, by rw [h0]; exact hv⟩
          · exact ⟨_, _, hv⟩
        subst hvp
        obtain ⟨s0, hs0, _⟩ := HG.out.given
        have hglt := hs0.lt
        have hloc : ∀ k, (Value.slice ap b.length cp).ownBlock = some k → w3.heap.size ≤ k := by
          intro k hk
          rcases hloc4 with e | e
          · rw [e] at hk; cases hk; exact Nat.le_refl _
          · rw [e] at hk; simp at hk; omega
        have hc34 : Ch (fun _ => False) w3 w4 := ((Ch.refl (fun _ => False) w3).alloc (.cells #[] 5)).grownB hg4 (fun k hk hlt' => absurd hlt' (by have h9 : some w3.heap.size = some k := hk; cases h9; exact Nat.lt_irrefl _))
        have HG4 := Lib.hid (HG.out.above (hc34.below (B := w3.heap.size) (by simp) (Nat.le_refl _)))
        have hrd := own_readsB (g := g) hown4' (fun k hk => by have := hloc k hk; omega)
        have HL := Lib.hid hloc
        have H4 := Lib.hid (And.intro hown4' hrd)
        clear hown4 hown4' hg4 hloc4 hloc hc34 hrd hs0 cu cu2
        go_wp2_with fail
        refine (add_any _ g msg b _ HG4.out.given H4.out.2).mono ?_
        rintro e w5 ⟨rfl, hgv5, hc5⟩
        have hvp5 : w5.ownsRow w.heap.size 5 1 (.slice ap b.length cp) b.length (bcells b) := own_chB H4.out.1 hc5 (fun k hk e => by have := HL.out k hk; omega)
        have hva5 : w5.ownsRow w.heap.size 5 1 u4 msg.length (bcells msg) := own_chB HG4.out.own hc5 (fun k hk e => HG4.out.apart (by rw [hk, e]))
        have hb5 : Below w.heap.size w w5 := HG4.out.below.trans (hc5.below (by rintro k rfl; have := HG4.out.below.size; omega) HG4.out.below.size)
        have H5 := Lib.hid (And.intro hgv5 (And.intro hvp5 (And.intro hva5 hb5)))
        clear hgv5 hc5 hvp5 hva5 hb5
        go_wp2_with fail
        go_loopw [8] (fun q wz => ∃ (k : Nat) (b' : List Int), k ≤ b.length ∧ q = .int .i64 k ∧ b'.length = b.length ∧ wz.ownsRow w.heap.size 5 1 (.slice ap b.length cp) b.length (bcells b') ∧ Ch (fun x => (Value.slice ap b.length cp).ownBlock = some x) w5 wz) (fun q _ => b.length - (intOf q).toNat)
        case atStart => exact ⟨0, b, Nat.zero_le _, rfl, rfl, H5.out.2.1, Ch.refl _ _⟩
        case round =>
          obtain ⟨k, b', hk, rfl, hbl, hown, hch⟩ := hrel
          by_cases hkl : k < b.length
          · have f1 : decide ((k : Int) < (b.length : Int)) = true := by simp; omega
            have q0 : (0 : Int) ≤ (k : Int) := by omega
            have q1 : (k : Int) < (b.length : Int) := by omega
            obtain ⟨qp, hqp⟩ : ∃ qp, ap = some ⟨qp, 0, none⟩ := by
              rcases hown.2 with ⟨hv, h0⟩ | ⟨g', cap', cur, hv, _⟩
              · omega
              · simp only [Value.slice.injEq] at hv
                exact ⟨g', hv.1⟩
            subst hqp
            obtain ⟨ck, fk⟩ := own_cellB hown k hkl
            have HO := Lib.hid (And.intro hown hch)
            clear hown hch
            go_wp2_with fail
            go_roundw
            case rel => exact ⟨k + 1, b'.set k _, by omega, by go_num, by rw [List.length_set]; exact hbl, own_setB HO.out.1 k hkl _, HO.out.2.setCell _ _ (fun _ => rfl)⟩
            case measure => simp [intOf]; omega
          · have f1 : decide ((k : Int) < (b.length : Int)) = false := by simp; omega
            obtain ⟨w6, hw6⟩ : ∃ x, x = wr := ⟨_, rfl⟩
            subst hw6
            have hvp6 : ∀ x, (Value.slice ap b.length cp).ownBlock = some x → x < w5.heap.size := fun x hx => (H5.out.2.1.lt x hx).2
            have hG6 : Given w6 g (msg ++ b) := H5.out.1.ch hch (fun hx => by have := HL.out g hx; omega)
            have hva6 : w6.ownsRow w.heap.size 5 1 u4 msg.length (bcells msg) := own_chB H5.out.2.2.1 hch (fun x hx hf => by
              have h1 := HL.out x hf
              have h2 := (HG.out.own.lt x hx).2
              omega)
            have hb6 : Below w.heap.size w w6 := H5.out.2.2.2.trans (hch.below (fun x hx => by have := HL.out x hx; omega) H5.out.2.2.2.size)
            have cu6 := (hb6.cell (p := ⟨q, off + i, none⟩) hq).trans HCU.out
            have hrd6 : ReadsB w.heap.size w6 (.slice au b.length cu') b := HU.out.1.new hb6 (Nat.le_refl _)
            have hsz6 := hb6.size
            have hglt6 : g < w6.heap.size := by
              obtain ⟨s6, hs6, _⟩ := hG6
              exact hs6.lt
            have H6 := Lib.hid (And.intro hG6 (And.intro hva6 (And.intro hb6 hrd6)))
            clear hown hch hvp6 hG6 hva6 hb6 hrd6
            go_wp2_with (first | (at_builtin; refine wpList_append_bytes rfl (.tmp 50) (.tmp 54) 26 rfl w.heap.size i0 (.int .u8 0) Try.underlying26 hi hz0 hz1 hz2 rfl _ msg rfl H6.out.2.1 _ rfl b w.heap.size H6.out.2.2.2 HU.out.2.1 (by omega) hsz6 ?_; intro va7 w7 hown7 hg7 hloc7))
            have hc67 : Ch (fun k => u4.ownBlock = some k) w6 w7 := (Ch.refl (fun k => u4.ownBlock = some k) w6).grownB hg7 (fun k hk _ => hk)
            have hap7 : va7.ownBlock ≠ some g := by
              intro e
              rcases hloc7 with e2 | e2
              · exact HG.out.apart (e2.symm.trans e)
              · rw [e2] at e; cases e; omega
            have hG7 : Goes w g va7 (msg ++ b) w7 := ⟨H6.out.1.ch hc67 HG.out.apart, hown7, hap7, H6.out.2.2.1.trans (hc67.below (fun k hk => (H6.out.2.1.lt k hk).1) H6.out.2.2.1.size)⟩
            obtain ⟨a7, c7, hv7⟩ : ∃ a c, va7 = .slice a (msg ++ b).length c := by
              rcases hown7.2 with ⟨hv, h0⟩ | ⟨q, cap, cur, hv, _⟩
              · exact ⟨none, 0, by rw [h0]; exact hv⟩
              · exact ⟨_, _, hv⟩
            subst hv7
            obtain ⟨M, hM⟩ : ∃ M, msg ++ b = M := ⟨_, rfl⟩
            rw [hM] at hG7 hown7
            have HM := Lib.hid hM
            have hf : [M].flatten = M := by simp
            have qD := fun (w : World) => eq28 (sumS M) (outB_length _) w
            have H7 := Lib.hid (And.intro hG7 (own_readsB (g := g) hown7 (fun k hk e => hG7.apart (by rw [hk, e]))))
            rw [hM]
            clear hown7 hg7 hloc7 hc67 hap7 hG7 cu6 hM
            go_wp2_with fail
            refine (digest_any _ g M H7.out.1.given).mono ?_
            rintro e w8 ⟨rfl, hb8⟩
            have H8 := Lib.hid (And.intro (H7.out.1.above hb8) (reads_below H7.out.2 hb8))
            clear hb8
            go_wp2_with fail
            refine (sum_any _ _ [M] (parts_val _ _ M g H8.out.2) (by simp)).mono ?_
            rintro e w9 ⟨rfl, hb9⟩
            rw [hf]
            have hb89 : Below w8.heap.size w8 w9 := (alloc_below w8 _).trans (hb9.mono (by simp))
            have H9 := Lib.hid (And.intro (H8.out.1.above hb89) (reads_below H8.out.2 hb89))
            clear hb9 hb89
            go_wp2_with fail
            refine (digest_any _ g M H9.out.1.given).mono ?_
            rintro e w10 ⟨rfl, hb10⟩
            have H10 := Lib.hid (And.intro (H9.out.1.above hb10) (reads_below H9.out.2 hb10))
            clear hb10
            go_wp2_with fail
            refine (sum_any _ _ [M] (parts_val _ _ M g H10.out.2) (by simp)).mono ?_
            rintro e w11 ⟨rfl, hb11⟩
            rw [hf]
            have hb1011 : Below w10.heap.size w10 w11 := (alloc_below w10 _).trans (hb11.mono (by simp))
            have H11 := Lib.hid (H10.out.1.above hb1011)
            clear hb11 hb1011 hf
            go_wp2_with fail
            go_roundw
            case rel => exact ⟨i + 1, by omega, by go_num, by rw [HS.out, HM.out]; exact H11.out⟩
            case measure => simp [intOf]; omega
      · have e2 : decide ((i : Int) < 12) = false := by simp; omega
        go_wp2_with fail
        refine (add_nil _ _).mono ?_
        rintro e w8 ⟨rfl, rfl⟩
        go_wp2_with fail
        refine (digest_nil _).mono ?_
        rintro e w9 ⟨rfl, hb9⟩
        have H9 := Lib.hid (HG.out.below.trans (hb9.mono HG.out.below.size))
        clear hb9
        go_wp2_with fail
        refine (sum_any _ _ [] ⟨none, 0, rfl, fun h => by simp at h⟩ (by decide)).mono ?_
        rintro e w10 ⟨rfl, hb10⟩
        rw [show sumS ([] : List (List Int)).flatten = sumS [] from rfl]
        have H10 := Lib.hid (H9.out.trans (hb10.mono H9.out.size))
        clear hb10
        go_wp2
        go_ret
        exact ⟨rfl, H10.out⟩
    · have e1 : decide ((i : Int) < (ps.length : Int)) = false := by simp; omega
      go_wp2_with fail
      refine (add_nil _ _).mono ?_
      rintro e w8 ⟨rfl, rfl⟩
      go_wp2_with fail
      refine (digest_nil _).mono ?_
      rintro e w9 ⟨rfl, hb9⟩
      have H9 := Lib.hid (HG.out.below.trans (hb9.mono HG.out.below.size))
      clear hb9
      go_wp2_with fail
      refine (sum_any _ _ [] ⟨none, 0, rfl, fun h => by simp at h⟩ (by decide)).mono ?_
      rintro e w10 ⟨rfl, hb10⟩
      rw [show sumS ([] : List (List Int)).flatten = sumS [] from rfl]
      have H10 := Lib.hid (H9.out.trans (hb10.mono H9.out.size))
      clear hb10
      go_wp2
      go_ret
      exact ⟨rfl, H10.out⟩

end Go.Proofs.Ytnmooepmpebepaa
