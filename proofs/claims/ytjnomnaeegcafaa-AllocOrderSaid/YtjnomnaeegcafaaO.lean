import Derived.Test.YtjnomnaeegcafaaP
import Derived.Deep.RegionLaw
namespace Go.Proofs.Ytjnomnaeegcafaa
open Go.RowKit Go.Shelf

theorem step_append_at {P : Program} {ops : Array Oper} {o : Oper} {a : Act} {w : World} {K : Act → World → Prop} {Q : Exit → Act → World → Prop} {E : Prop} (hgd : o.guard = none) (s x : Operand) (t : TypeId)
    (ho : o.op = .call { callee := .builtin .append, args := #[s, x], argTypes := #[t, t] })
    (base : Nat) (e : TypeId) (i : TypeInfo) (z : Value) (size bytes : Nat) (ht : P.underlying t = some (.slice e)) (hi : P.info? e = some i) (hz : i.zero = some z)
    (hsize : i.size = size) (hby : i.bytes = bytes) (hzs : z.cells.size = size) (hsz : 0 < size)
    (v : Value) (n : Nat) (xs : List Value) (hs : a.eval s = v) (hown : w.ownsRow base e size v n xs)
    (ad : Addr) (m c : Nat) (news : List Value) (hx : a.eval x = .slice (some ad) m c) (hl : news.length = m * size) (hnews : ∀ j u, news[j]? = some u → w.cell? (ad.add j) = some u) (h1 : ∀ u ∈ news, u.oneCell' = true)
    (h63 : n + m ≤ maxLen) (hbytes : (n + m) * bytes ≤ 140737488355328) (hbase : base ≤ w.heap.size)
    (h : ∀ v' w', w'.ownsRow base e size v' (n + m) (xs ++ news) → w.grownBy w' v.ownBlock → (v' = .slice none 0 0 ↔ v = .slice none 0 0 ∧ m = 0) → (v'.ownBlock = v.ownBlock ∨ v'.ownBlock = some w.heap.size) → K (a.put o.dst v') w') :
    if Region.wanted o (yielded ops a.tmps) = true then Oper.wp P o a w K Q else E := by
  have hw : Region.wanted o (yielded ops a.tmps) = true := by simp [Region.wanted, hgd]
  rw [if_pos hw]
  obtain ⟨v', w', hr, h2, h3, h4, h5⟩ := run_append_own_at (P := P) w base t o.type e i z size bytes ht hi hz hsize hby hzs hsz v n xs hown ad m c news hl hnews h1 h63 hbytes hbase
  unfold Oper.wp execOp
  simp only [ho, resolve, invoke, builtin, Sem.run_bind, Sem.run_pure, Result.andThen_ok, List.map_toArray, List.map_cons, List.map_nil, hs, hx, hr]
  exact h v' w' h2 h3 h4 h5

/-- The state of the document's loop. -/
structure RGo (w : World) (spare : Int) (total : List Mv) (k : Nat) (v5 v7 : Value) (wr : World) (left out : List Mv) : Prop where
  ownl : wr.ownsRow w.heap.size 28 2 v5 left.length (cellsM left)
  owno : wr.ownsRow w.heap.size 28 2 v7 out.length (cellsM out)
  apart : ∀ g, v5.ownBlock = some g → v7.ownBlock ≠ some g
  below : Below w.heap.size w wr
  wf : WF spare left
  mu : mu spare left ≤ k
  eq : orderF spare k left out = total
  len : out.length + k ≤ 63
  ll : left.length ≤ 31

theorem grown_ch {w w' : World} {row : Option Nat} (hg : w.grownBy w' row) : Ch (fun k => row = some k) w w' :=
  (Ch.refl (fun k => row = some k) w).grown hg (fun k hk _ => hk)

theorem RGo.above {w wr w' : World} {spare : Int} {total : List Mv} {k : Nat} {v5 v7 : Value} {left out : List Mv} (h : RGo w spare total k v5 v7 wr left out) (hb : Below wr.heap.size wr w') : RGo w spare total k v5 v7 w' left out :=
  ⟨own_ch (F := fun _ => False) h.ownl (Ch.of_below hb) (by simp), own_ch (F := fun _ => False) h.owno (Ch.of_below hb) (by simp), h.apart, h.below.trans (hb.mono h.below.size), h.wf, h.mu, h.eq, h.len, h.ll⟩

/-- One move more has come: what lies there. -/
theorem RGo.push {w wr : World} {spare : Int} {total : List Mv} {k : Nat} {v5 v7 : Value} {left out : List Mv} (h : RGo w spare total k v5 v7 wr left out) (m : Mv) {vo' : Value} {w1 : World}
    (hown : w1.ownsRow w.heap.size 28 2 vo' (out.length + 1) (cellsM out ++ [.int .i64 m.1, .int .i64 m.2]))
    (hg : (wr.alloc (.cells #[.int .i64 m.1, .int .i64 m.2] 28)).grownBy w1 v7.ownBlock) (hloc : vo'.ownBlock = v7.ownBlock ∨ vo'.ownBlock = some (wr.alloc (.cells #[.int .i64 m.1, .int .i64 m.2] 28)).heap.size) :
    w1.ownsRow w.heap.size 28 2 v5 left.length (cellsM left) ∧ w1.ownsRow w.heap.size 28 2 vo' (out ++ [m]).length (cellsM (out ++ [m])) ∧ (∀ g, v5.ownBlock = some g → vo'.ownBlock ≠ some g) ∧ Below w.heap.size w w1 := by
  have hc : Ch (fun k => v7.ownBlock = some k) wr w1 := ((Ch.refl _ wr).alloc _).grown hg (fun k hk _ => hk)
  refine ⟨own_ch h.ownl hc (fun g hg' => h.apart g hg'), ?_, fun g hg' => ?_, h.below.trans (hc.below (fun i hi => (h.owno.lt i hi).1) h.below.size)⟩
  · rw [cellsM_append, List.length_append]; exact hown
  · have hlt := (h.ownl.lt g hg').2
    rcases hloc with e | e
    · rw [e]; exact h.apart g hg'
    · rw [e]; simp; omega

theorem realM_succ (xs : List Mv) (i : Nat) (hi : i < xs.length) : realM (xs.take (i + 1)) = realM (xs.take i) ++ (if (xs.getD i (0, 0)).1 = (xs.getD i (0, 0)).2 then [] else [xs.getD i (0, 0)]) := by
  have hg : xs.getD i (0, 0) = xs[i] := by simp [List.getD, List.getElem?_eq_getElem hi]
  rw [hg, List.take_succ_eq_append_getElem hi]
  simp only [realM, List.filter_append]
  congr 1
  by_cases h : xs[i].1 = xs[i].2
  · rw [if_pos h]; simp [h]
  · rw [if_neg h]; simp [h]
theorem realM_len (xs : List Mv) : (realM xs).length ≤ xs.length := List.length_filter_le _ _

/-- The cells of some moves of a block. -/
theorem Row.news {w : World} {g cap : Nat} {zs : List Mv} {rest : List Value} (h : Row w g cap zs rest) (o n off : Nat) (hon : o + n ≤ zs.length) (hoff : 0 < n → off = o * 2) : ∀ j u, (cellsM ((zs.drop o).take n))[j]? = some u → w.cell? ((⟨g, off, none⟩ : Addr).add j) = some u := by
  intro j u hj
  have hjl := (List.getElem?_eq_some_iff.1 hj).1
  have hl : (cellsM ((zs.drop o).take n)).length = n * 2 := by rw [cellsM_length]; simp; omega
  rw [hl] at hjl
  have ho := hoff (by omega)
  subst ho
  have hadd : (⟨g, o * 2, none⟩ : Addr).add j = ⟨g, o * 2 + j, none⟩ := by unfold Addr.add; split <;> simp_all
  rw [hadd, cell_of_row _ _ _ _ _ _ h.heap]
  simp only [List.getElem?_toArray]
  have hz : cellsM zs = cellsM (zs.take o) ++ (cellsM ((zs.drop o).take n) ++ cellsM ((zs.drop o).drop n)) := by
    rw [← cellsM_append, ← cellsM_append, List.take_append_drop, List.take_append_drop]
  have hlo : (cellsM (zs.take o)).length = o * 2 := by rw [cellsM_length]; simp; omega
  rw [hz, List.append_assoc, List.getElem?_append_right (by omega), hlo, show o * 2 + j - o * 2 = j by omega, List.append_assoc, List.getElem?_append_left (by omega)]
  exact hj

theorem slice22h (g len cap j : Nat) (hj : j ≤ cap) (w : World) : (Instr.slice 22 (.slice (some ⟨g, 0, none⟩) len cap) none (some (.int .i64 (j : Int))) none).run Try.prog w = .ok (.slice (some ⟨g, 0, none⟩) j cap) w := by
  have he : Try.prog.elem 22 = 28 := by simp [Program.elem, Try.underlying22]
  have hs : (sizeOf 28).run Try.prog w = .ok 2 w := by
    obtain ⟨i0, hi, _, hz1, _⟩ := info_parts Try.infoMv
    simp [sizeOf, typeInfo, hi, hz1]
  rw [run_slice_h w 22 _ len cap (by rw [he]; exact Try.underlying22) .i64 _ (by omega) (by omega), he, hs]
  show Result.ok _ w = _
  unfold sliced
  by_cases h : cap = 0
  · simp [h]
  · rw [if_neg h]; simp [Addr.add]
theorem slice22l (g len cap j : Nat) (hj : j ≤ len) : ∃ off, (0 < cap - j → off = j * 2) ∧ ∀ w, (Instr.slice 22 (.slice (some ⟨g, 0, none⟩) len cap) (some (.int .i64 (j : Int))) none none).run Try.prog w = .ok (.slice (some ⟨g, off, none⟩) (len - j) (cap - j)) w := by
  have he : Try.prog.elem 22 = 28 := by simp [Program.elem, Try.underlying22]
  have hs : ∀ w, (sizeOf 28).run Try.prog w = .ok 2 w := by
    obtain ⟨i0, hi, _, hz1, _⟩ := info_parts Try.infoMv
    intro w
    simp [sizeOf, typeInfo, hi, hz1]
  by_cases h : cap = j
  · refine ⟨0, fun h2 => by omega, fun w => ?_⟩
    rw [run_slice_l w 22 _ len cap (by rw [he]; exact Try.underlying22) .i64 _ (by omega) (by omega), he, hs]
    show Result.ok _ w = _
    unfold sliced
    rw [if_pos (by omega)]
    rfl
  · refine ⟨j * 2, fun _ => rfl, fun w => ?_⟩
    rw [run_slice_l w 22 _ len cap (by rw [he]; exact Try.underlying22) .i64 _ (by omega) (by omega), he, hs]
    show Result.ok _ w = _
    unfold sliced
    rw [if_neg (by omega)]
    have hadd : (⟨g, 0, none⟩ : Addr).add (j * 2) = ⟨g, j * 2, none⟩ := by unfold Addr.add; split <;> simp_all
    simp [hadd]

def ROrderEnd (w : World) (total : List Mv) (e : Ending) (w' : World) : Prop := ∃ vo, e = .returned vo ∧ w'.ownsRow w.heap.size 28 2 vo total.length (cellsM total) ∧ Below w.heap.size w w'

set_option maxRecDepth 100000 in
set_option maxHeartbeats 16000000 in
theorem rorder_any (w : World) (v : Value) (xs : List Mv) (spare : Int) (hr : ReadsM w v xs) (hm : mayB xs spare = true) :
    Calls Try.prog 10 #[v, .int .i64 spare] w (ROrderEnd w (orderAll xs spare)) := by
  obtain ⟨-, -, -, hx31⟩ := may_facts hm
  have hwf := realM_wf hm
  have HM := Lib.hid hwf
  have HR := Lib.hid hr
  obtain ⟨a, cap, rfl, -, hc⟩ := hr
  have HC := Lib.hid hc
  obtain ⟨i0, hi, hz0, hz1, hz2⟩ := info_parts Try.infoMv
  clear hm hwf hc
  go_enter Try.func10, Try.ntmps10
  go_wp2_with fail
  go_loopw [5, 6] (fun v5 q wr => ∃ i : Nat, i ≤ xs.length ∧ q = .int .i64 i ∧ wr.ownsRow w.heap.size 28 2 v5 (realM (xs.take i)).length (cellsM (realM (xs.take i))) ∧ Below w.heap.size w wr) (fun _ q _ => xs.length - (intOf q).toNat)
  case atStart => exact ⟨0, Nat.zero_le _, rfl, World.ownsRow_nil _ _ _ _, Below.refl _ _⟩
  case round =>
    obtain ⟨i, hile, rfl, hown, hbel⟩ := hrel
    by_cases hil : i < xs.length
    · have e1 : decide ((i : Int) < (xs.length : Int)) = true := by simp; omega
      have p0 : (0 : Int) ≤ (i : Int) := by omega
      have p1 : (i : Int) < (xs.length : Int) := by omega
      obtain ⟨b, off, rfl, hlt, hcc⟩ := HC.out (by omega)
      have c0 := (hbel.cell (p := ⟨b, off + i * 2, none⟩) hlt).trans (hcc i hil).1
      have c1 := (hbel.cell (p := ⟨b, off + i * 2 + 1, none⟩) hlt).trans (hcc i hil).2
      have hsucc := realM_succ xs i hil
      have hrl := realM_len (xs.take i)
      obtain ⟨m, hmm⟩ : ∃ m, xs.getD i (0, 0) = m := ⟨_, rfl⟩
      rw [hmm] at c0 c1 hsucc
      obtain ⟨m1, m2⟩ := m
      simp only at c0 c1 hsucc
      obtain ⟨R, hRe⟩ : ∃ R, realM (xs.take i) = R := ⟨_, rfl⟩
      rw [hRe] at hown hsucc hrl
      rw [List.length_take] at hrl
      have HO := Lib.hid (And.intro hown hbel)
      have hlo := hbel.size
      have hown1 := (hown.drew).alloc (.cells #[.int .i64 m1, .int .i64 m2] 28)
      have HW := Lib.hid hown1
      by_cases hne : m1 = m2
      · have e2 : (m1 != m2) = false := by simp [hne]
        rw [if_pos hne, List.append_nil] at hsucc
        have HS := Lib.hid hsucc
        clear hne hsucc hown hown1 hbel hmm hcc hRe
        go_wp2_with fail
        go_quiet (fail)
        go_wp2_with fail
        go_roundw
        case rel => exact ⟨i + 1, by omega, by go_num, by rw [HS.out]; exact own_ch (F := fun _ => False) HO.out.1 ((Ch.refl _ _).drewN _) (by simp), HO.out.2.trans (drewN_below _ _ _)⟩
        case measure => simp [intOf]; omega
      · have e2 : (m1 != m2) = true := by simpa using hne
        rw [if_neg hne] at hsucc
        have HS := Lib.hid hsucc
        clear hne hsucc hown hown1 hbel hmm hcc hRe
        go_wp2_with fail
        go_quiet (fail)
        go_wp2_with (first | (at_builtin; refine wpList_append_own_at _ rfl _ _ 22 rfl w.heap.size 28 i0 (.agg #[.int .i64 0, .int .i64 0]) 2 16 Try.underlying22 hi hz0 hz1 hz2 rfl (by decide) _ R.length (cellsM R) rfl (own_ch (F := fun _ => False) HO.out.1 (((Ch.refl _ _).drewN _).alloc _) (by simp)) ⟨wr.heap.size, 0, none⟩ 1 1 [.int .i64 m1, .int .i64 m2] rfl rfl (World.news_of_block (cs := #[.int .i64 m1, .int .i64 m2]) (t := 28) (fr := (0, 0)) (heap_alloc_new _ _)) (cellsM_one [(m1, m2)]) (by unfold maxLen; omega) (by omega) (by simp; omega) ?_; intro v5' w5 hown5 hg5 hnil5 hloc5))
        go_roundw
        case rel =>
          refine ⟨i + 1, by omega, by go_num, ?_, ?_⟩
          · rw [HS.out, List.length_append, cellsM_append]; exact hown5
          · have hb' := (HO.out.2.trans (drewN_below _ _ nq)).alloc (HO.out.2.trans (drewN_below w.heap.size _ nq)).size (.cells #[.int .i64 m1, .int .i64 m2] 28)
            exact hb'.grown hg5 hb'.size (fun k hk => (HO.out.1.lt k hk).1)
        case measure => simp [intOf]; omega
    · have e1 : decide ((i : Int) < (xs.length : Int)) = false := by simp; omega
      have hx : xs.take i = xs := List.take_of_length_le (by omega)
      rw [hx] at hown
      have HO := Lib.hid (And.intro hown hbel)
      have hrl := realM_len xs
      obtain ⟨a5, c5, hv5⟩ : ∃ a c, u5 = .slice a (realM xs).length c := by
        rcases hown.2 with ⟨hv, h0⟩ | ⟨g, cap, cur, hv, _⟩
        · exact ⟨none, 0, by rw [h0]; exact hv⟩
        · exact ⟨_, _, hv⟩
      clear hown hbel hx hv5
      go_wp2_with fail
      go_loopg [5, 7] (2 * xs.length + 1) (fun k v5 v7 wr => ∃ left out, RGo w spare (orderAll xs spare) k v5 v7 wr left out)
      case atStart =>
        exact ⟨realM xs, [], HO.out.1, World.ownsRow_nil _ _ _ _, fun g _ h => by (cases h), HO.out.2, HM.out, realM_mu xs spare, rfl, by simp; omega, by omega⟩
      case round =>
        obtain ⟨left, out, hG⟩ := hrel
        obtain ⟨wo, hwo⟩ : ∃ x, x = wr := ⟨_, rfl⟩
        subst hwo
        by_cases hl0 : left.length = 0
        · obtain rfl : left = [] := List.eq_nil_of_length_eq_zero hl0
          obtain ⟨av, cv, rfl⟩ : ∃ a c, u5 = .slice a 0 c := by
            rcases hG.ownl.2 with ⟨hv, h0⟩ | ⟨g, cap, cur, hv, _⟩
            · exact ⟨_, _, hv⟩
            · exact ⟨_, _, hv⟩
          have HG := Lib.hid hG
          clear hG hl0
          go_wp2
          go_ret
          have he := HG.out.eq
          rw [orderF_nil] at he
          rw [← he]
          exact ⟨_, rfl, HG.out.owno, HG.out.below⟩
        obtain ⟨g, cp, rest, rfl, hg0, hcap, hR⟩ : ∃ g cap rest, u5 = .slice (some ⟨g, 0, none⟩) left.length cap ∧ w.heap.size ≤ g ∧ cap ≤ maxLen ∧ Row wo g cap left rest := by
          rcases row_of_own hG.ownl with ⟨_, h0, _⟩ | ⟨g, cap, rest, h1, h2, h3, _, h5⟩
          · exact absurd h0 hl0
          · exact ⟨g, cap, rest, h1, h2, h3, h5⟩
        have hkpos : 0 < gk := by
          have := hG.mu
          unfold Go.Proofs.Ytjnomnaeegcafaa.mu at this
          omega
        obtain ⟨k', rfl⟩ : ∃ k', gk = k' + 1 := ⟨gk - 1, by omega⟩
        obtain ⟨m0, r0, hml⟩ : ∃ m0 r0, left = m0 :: r0 := by
          cases left with
          | nil => exact absurd rfl hl0
          | cons m0 r0 => exact ⟨m0, r0, rfl⟩
        have hstep : orderF spare (k' + 1) left out = if left.any (freeM left) then orderF spare k' (left.eraseIdx (firstP (freeM left) left 0).toNat) (out ++ [left.getD (firstP (freeM left) left 0).toNat (0, 0)]) else orderF spare k' (brk m0.2 spare left) (out ++ [(m0.2, spare)]) := by
          rw [hml]; rfl
        rw [hG.eq] at hstep
        have hll := hG.ll
        have e0 : decide ((0 : Int) < (left.length : Int)) = true := by simp; omega
        have HG := Lib.hid hG
        have HS := Lib.hid (And.intro hstep hml)
        have HW := Lib.hid hR
        clear hG hstep hml hR
        go_upto_block 4 with fail
        go_cut [8] (fun a wx => Ch (fun _ => False) wo wx ∧ ((a = .int .i64 (-1) ∧ ∀ j, j < left.length → freeM left (left.getD j (0, 0)) = false) ∨ ∃ j : Nat, a = .int .i64 j ∧ j < left.length ∧ freeM left (left.getD j (0, 0)) = true ∧ ∀ j', j' < j → freeM left (left.getD j' (0, 0)) = false))
        case first =>
          go_wp2_with fail
          go_loopw [8, 9] (fun a q wq => ∃ i : Nat, i ≤ left.length ∧ q = .int .i64 i ∧ Ch (fun _ => False) wo wq ∧ ((a = .int .i64 (-1) ∧ ∀ j, j < i → freeM left (left.getD j (0, 0)) = false) ∨ ∃ j : Nat, a = .int .i64 j ∧ j < left.length ∧ freeM left (left.getD j (0, 0)) = true ∧ ∀ j', j' < j → freeM left (left.getD j' (0, 0)) = false)) (fun _ q _ => left.length - (intOf q).toNat)
          case atStart => exact ⟨0, Nat.zero_le _, rfl, Ch.refl _ _, .inl ⟨rfl, fun j hj => by omega⟩⟩
          case round =>
            obtain ⟨i, hi', rfl, hch, hcase⟩ := hrel
            obtain ⟨w1, hw1⟩ : ∃ x, x = wr := ⟨_, rfl⟩
            subst hw1
            have HCH := Lib.hid hch
            clear hch
            rcases hcase with ⟨rfl, hno⟩ | ⟨j, rfl, hjl, hjf, hjp⟩
            · by_cases hil : i < left.length
              · have e1 : decide ((i : Int) < (left.length : Int)) = true := by simp; omega
                have p0 : (0 : Int) ≤ (i : Int) := by omega
                have p1 : (i : Int) < (left.length : Int) := by omega
                have HNO := Lib.hid hno
                obtain ⟨m, hmi⟩ : ∃ m, left.getD i (0, 0) = m := ⟨_, rfl⟩
                have HMI := Lib.hid hmi
                clear hno hmi
                go_wp2_with fail
                go_loopw [10, 11] (fun f q wz => ∃ k : Nat, k ≤ left.length ∧ q = .int .i64 k ∧ f = .bool (!((left.take k).any fun y => y.1 == m.2)) ∧ Ch (fun _ => False) wo wz) (fun _ q _ => left.length - (intOf q).toNat)
                case atStart => exact ⟨0, Nat.zero_le _, rfl, rfl, HCH.out⟩
                case round =>
                  obtain ⟨k, hk, rfl, rfl, hch2⟩ := hrel
                  have HC2 := Lib.hid hch2
                  clear hch2
                  obtain ⟨fb, hfb⟩ : ∃ b, (!((left.take k).any fun y => y.1 == m.2)) = b := ⟨_, rfl⟩
                  by_cases hkl : k < left.length
                  · have e2 : decide ((k : Int) < (left.length : Int)) = true := by simp; omega
                    have q0 : (0 : Int) ≤ (k : Int) := by omega
                    have q1 : (k : Int) < (left.length : Int) := by omega
                    have hRr := HW.out.ch HC2.out (by simp)
                    have c0 := (hRr.cells k hkl).1
                    have c1 := (hRr.cells i hil).2
                    rw [HMI.out] at c1
                    obtain ⟨mk, hmk⟩ : ∃ m, left.getD k (0, 0) = m := ⟨_, rfl⟩
                    rw [hmk] at c0
                    have hany : (left.take (k + 1)).any (fun y => y.1 == m.2) = ((left.take k).any (fun y => y.1 == m.2) || (mk.1 == m.2)) := by
                      rw [List.take_succ_eq_append_getElem hkl, List.any_append]
                      have : left[k] = mk := by rw [← hmk]; simp [List.getD, List.getElem?_eq_getElem hkl]
                      simp [this]
                    have HA := Lib.hid (And.intro hany hfb)
                    rw [hfb]
                    clear hRr hmk hany hfb
                    by_cases heq : mk.1 = m.2
                    · have e3 : (mk.1 == m.2) = true := by simp [heq]
                      have HE := Lib.hid e3
                      clear heq
                      go_wp2_with fail
                      go_quiet (fail)
                      go_wp2_with fail
                      go_roundw
                      case rel => exact ⟨k + 1, by omega, by go_num, by rw [HA.out.1, HE.out]; simp, HC2.out.drewN _⟩
                      case measure => simp [intOf]; omega
                    · have e3 : (mk.1 == m.2) = false := by simpa using heq
                      have HE := Lib.hid e3
                      clear heq
                      go_wp2_with fail
                      go_quiet (fail)
                      go_wp2_with fail
                      go_roundw
                      case rel => exact ⟨k + 1, by omega, by go_num, by rw [HA.out.1, HE.out, Bool.or_false, HA.out.2], HC2.out.drewN _⟩
                      case measure => simp [intOf]; omega
                  · have e2 : decide ((k : Int) < (left.length : Int)) = false := by simp; omega
                    rw [List.take_of_length_le (by omega)] at hfb
                    have hfm : freeM left m = fb := hfb
                    have HF := Lib.hid hfm
                    rw [List.take_of_length_le (show left.length ≤ k by omega)]
                    rw [hfb]
                    clear hfb hfm
                    cases fb
                    · go_wp2_with fail
                      go_roundw
                      case rel =>
                        refine ⟨i + 1, by omega, by go_num, HC2.out, .inl ⟨rfl, fun j hj => ?_⟩⟩
                        by_cases e : j = i
                        · rw [e, HMI.out]; exact HF.out
                        · exact HNO.out j (by omega)
                      case measure => simp [intOf]; omega
                    · go_wp2_with fail
                      go_roundw
                      case rel => exact ⟨i + 1, by omega, by go_num, HC2.out, .inr ⟨i, rfl, hil, by rw [HMI.out]; exact HF.out, HNO.out⟩⟩
                      case measure => simp [intOf]; omega
              · have e1 : decide ((i : Int) < (left.length : Int)) = false := by simp; omega
                have HNO := Lib.hid hno
                clear hno
                go_wp2
                go_meet
                case rel => exact ⟨HCH.out, .inl ⟨rfl, fun j hj => HNO.out j (by omega)⟩⟩
            · have HJ := Lib.hid (And.intro hjl (And.intro hjf hjp))
              have ej : decide ((j : Int) < 0) = false := by simp
              clear hjl hjf hjp
              by_cases hil : i < left.length
              · have e1 : decide ((i : Int) < (left.length : Int)) = true := by simp; omega
                go_wp2
                go_meet
                case rel => exact ⟨HCH.out, .inr ⟨j, rfl, HJ.out.1, HJ.out.2.1, HJ.out.2.2⟩⟩
              · have e1 : decide ((i : Int) < (left.length : Int)) = false := by simp; omega
                go_wp2
                go_meet
                case rel => exact ⟨HCH.out, .inr ⟨j, rfl, HJ.out.1, HJ.out.2.1, HJ.out.2.2⟩⟩
        case rest =>
          obtain ⟨hchx, hcase⟩ := hcut
          obtain ⟨w4, hw4⟩ : ∃ x, x = wc := ⟨_, rfl⟩
          subst hw4
          have hbx : Below wo.heap.size wo w4 := hchx.below (by simp) (Nat.le_refl _)
          have hG4 := HG.out.above hbx
          have hR4 := HW.out.ch hchx (by simp)
          have hol := hG4.len
          have hlo4 : w.heap.size ≤ w4.heap.size := hG4.below.size
          have hglt4 := hR4.lt
          rcases hcase with ⟨rfl, hno⟩ | ⟨j, rfl, hjl, hjf, hjp⟩
          · have hany : left.any (freeM left) = false := by
              rw [List.any_eq_false]
              intro m hm
              obtain ⟨i, hi, rfl⟩ := List.mem_iff_getElem.1 hm
              have := hno i hi
              simp only [List.getD, List.getElem?_eq_getElem hi, Option.getD_some] at this
              simp [this]
            have hst := HS.out.1
            rw [hany] at hst
            simp only [Bool.false_eq_true, if_false] at hst
            have d1 := (hR4.cells 0 (by omega)).2
            have hg0' : left.getD 0 (0, 0) = m0 := by rw [HS.out.2]; rfl
            rw [hg0', Nat.zero_mul, Nat.zero_add] at d1
            have HG4 := Lib.hid hG4
            have HO4 := Lib.hid (hG4.owno.alloc (.cells #[.int .i64 m0.2, .int .i64 spare] 28))
            have HN := Lib.hid (World.news_of_block (cs := #[.int .i64 m0.2, .int .i64 spare]) (t := 28) (fr := (0, 0)) (heap_alloc_new w4 (.cells #[.int .i64 m0.2, .int .i64 spare] 28)))
            have HST := Lib.hid (And.intro hst hany)
            clear hG4 hR4 hno hany hst hg0' hbx hchx
            go_wp2_with (first | (at_builtin; refine wpList_append_own_at _ rfl _ _ 22 rfl w.heap.size 28 i0 (.agg #[.int .i64 0, .int .i64 0]) 2 16 Try.underlying22 hi hz0 hz1 hz2 rfl (by decide) _ out.length (cellsM out) rfl HO4.out ⟨w4.heap.size, 0, none⟩ 1 1 [.int .i64 m0.2, .int .i64 spare] rfl rfl HN.out (cellsM_one [(m0.2, spare)]) (by unfold maxLen; omega) (by omega) (by simp; omega) ?_; intro vo' w5 hown5 hg5 hnil5 hloc5; have HP := Lib.hid (HG4.out.push (m0.2, spare) hown5 hg5 hloc5); clear hown5 hg5 hnil5 hloc5))
            clear d1
            obtain ⟨rest5, hR5⟩ : ∃ rest5, Row w5 g cp left rest5 := by
              rcases row_of_own HP.out.1 with ⟨h, _⟩ | ⟨g', cap', rest', he, _, _, _, h5⟩
              · cases h
              · simp only [Value.slice.injEq, Option.some.injEq, Addr.mk.injEq, and_true, true_and] at he
                obtain ⟨rfl, rfl⟩ := he
                exact ⟨rest', h5⟩
            have HR5 := Lib.hid hR5
            clear hR5
            go_loopw [13] (fun q wq => ∃ k : Nat, k ≤ left.length ∧ q = .int .i64 k ∧ Row wq g cp (bk m0.2 spare left k) rest5 ∧ Ch (fun i => i = g) w5 wq) (fun q _ => left.length - (intOf q).toNat)
            case atStart => exact ⟨0, Nat.zero_le _, rfl, by rw [bk_zero]; exact HR5.out, Ch.refl _ _⟩
            case round =>
              obtain ⟨q, hq, rfl, hRq, hcq⟩ := hrel
              by_cases hql : q < left.length
              · have hbl := bk_length m0.2 spare left q
                have hgd := bk_at m0.2 spare left q hql
                have dq := (hRq.cells q (by omega)).1
                have fq := hRq.frozen (q * 2)
                rw [hgd] at dq
                obtain ⟨mq, hmq⟩ : ∃ mq, left.getD q (0, 0) = mq := ⟨_, rfl⟩
                rw [hmq] at dq hgd
                have e3 : decide ((q : Int) < (left.length : Int)) = true := by simp; omega
                have p0 : (0 : Int) ≤ (q : Int) := by omega
                have p1 : (q : Int) < (left.length : Int) := by omega
                have hset := hRq.set1 q (by omega) spare
                have hsucc := bk_succ m0.2 spare left q hql
                rw [hgd] at hset
                rw [hmq] at hsucc
                have HS1 := Lib.hid (And.intro hset (And.intro hsucc (And.intro hRq (And.intro hcq (And.intro hbl hgd)))))
                clear hset hsucc hRq hcq hmq hbl hgd
                by_cases hk : mq.1 = m0.2
                · have e4 : (mq.1 == m0.2) = true := by simp [hk]
                  have HK := Lib.hid hk
                  clear hk
                  go_wp2_with fail
                  go_roundw
                  case rel =>
                    refine ⟨q + 1, by omega, by go_num, ?_, HS1.out.2.2.2.1.setCell ⟨g, q * 2, none⟩ _ (fun _ => rfl)⟩
                    rw [HS1.out.2.1, if_pos HK.out]
                    exact HS1.out.1
                  case measure => simp [intOf]; omega
                · have e4 : (mq.1 == m0.2) = false := by simp [hk]
                  have HK := Lib.hid hk
                  clear hk
                  go_wp2_with fail
                  go_roundw
                  case rel =>
                    refine ⟨q + 1, by omega, by go_num, ?_, HS1.out.2.2.2.1⟩
                    rw [HS1.out.2.1, if_neg HK.out]
                    have hself : (bk m0.2 spare left q).set q mq = bk m0.2 spare left q := by
                      rw [← HS1.out.2.2.2.2.2]
                      have hbq : q < (bk m0.2 spare left q).length := by rw [HS1.out.2.2.2.2.1]; exact hql
                      simp [List.getD, List.getElem?_eq_getElem hbq]
                    rw [hself]
                    exact HS1.out.2.2.1
                  case measure => simp [intOf]; omega
              · have e3 : decide ((q : Int) < (left.length : Int)) = false := by simp; omega
                have hqe : q = left.length := by omega
                rw [hqe, bk_full] at hRq
                have HQ := Lib.hid (And.intro hRq hcq)
                clear hRq hcq hqe
                go_wp2_with fail
                go_roundg k'
                case rel =>
                  have hmu := mu_brk (HS.out.2 ▸ HG4.out.wf) (HS.out.2 ▸ HST.out.2)
                  rw [← HS.out.2] at hmu
                  have hmu4 := HG4.out.mu
                  have hl4 := HG4.out.len
                  have hown := HQ.out.1.own (B := w.heap.size) hg0 (brk m0.2 spare left).length (Nat.le_refl _) hcap
                  rw [List.take_length, brk_length] at hown
                  refine ⟨brk m0.2 spare left, out ++ [(m0.2, spare)], by rw [brk_length]; exact hown, own_ch HP.out.2.1 HQ.out.2 (fun g' hg' e => HP.out.2.2.1 g rfl (e ▸ hg')), HP.out.2.2.1, HP.out.2.2.2.trans (HQ.out.2.below (by rintro i rfl; exact hg0) HP.out.2.2.2.size), HG4.out.wf.brk _, by omega, HST.out.1.symm, by simp; omega, by rw [brk_length]; exact hll⟩
                case measure => omega
          · have hany : left.any (freeM left) = true := List.any_eq_true.2 ⟨left.getD j (0, 0), by simp [List.getD, List.getElem?_eq_getElem hjl], hjf⟩
            have hfp : firstP (freeM left) left 0 = (j : Int) := by
              obtain ⟨j', h1, h2, h3, h4⟩ := firstP_first (freeM left) left 0 hany
              rw [Nat.zero_add] at h2
              have hjj : j' = j := by
                rcases Nat.lt_trichotomy j' j with h | h | h
                · have := hjp j' h; rw [this] at h4; cases h4
                · exact h
                · have hin : left.getD j (0, 0) ∈ (left.take j').filter (fun m => !freeM left m) := by
                    rw [h3]
                    exact List.mem_iff_getElem.2 ⟨j, by rw [List.length_take]; omega, by simp [List.getD, List.getElem?_eq_getElem hjl]⟩
                  have := (List.mem_filter.1 hin).2
                  rw [hjf] at this
                  cases this
              rw [h2, hjj]
            have hst := HS.out.1
            rw [hany, hfp] at hst
            simp only [Int.toNat_natCast, if_true] at hst
            have d0 := (hR4.cells j hjl).1
            have d1 := (hR4.cells j hjl).2
            obtain ⟨mj, hmj⟩ : ∃ mj, left.getD j (0, 0) = mj := ⟨_, rfl⟩
            rw [hmj] at d0 d1
            have HG4 := Lib.hid hG4
            have HO4 := Lib.hid (hG4.owno.alloc (.cells #[.int .i64 mj.1, .int .i64 mj.2] 28))
            have HN := Lib.hid (World.news_of_block (cs := #[.int .i64 mj.1, .int .i64 mj.2]) (t := 28) (fr := (0, 0)) (heap_alloc_new w4 (.cells #[.int .i64 mj.1, .int .i64 mj.2] 28)))
            have HST := Lib.hid (And.intro hst hmj)
            have ej : decide ((j : Int) < 0) = false := by simp
            have p0 : (0 : Int) ≤ (j : Int) := by omega
            have p1 : (j : Int) < (left.length : Int) := by omega
            clear hG4 hR4 hjf hjp hany hfp hst hmj hbx hchx
            go_wp2_with (first | (at_builtin; refine wpList_append_own_at _ rfl _ _ 22 rfl w.heap.size 28 i0 (.agg #[.int .i64 0, .int .i64 0]) 2 16 Try.underlying22 hi hz0 hz1 hz2 rfl (by decide) _ out.length (cellsM out) rfl HO4.out ⟨w4.heap.size, 0, none⟩ 1 1 [.int .i64 mj.1, .int .i64 mj.2] rfl rfl HN.out (cellsM_one [mj]) (by unfold maxLen; omega) (by omega) (by simp; omega) ?_; intro vo' w5 hown5 hg5 hnil5 hloc5; have HP := Lib.hid (HG4.out.push mj hown5 hg5 hloc5); clear hown5 hg5 hnil5 hloc5))
            clear d0 d1
            obtain ⟨rest5, hR5⟩ : ∃ rest5, Row w5 g cp left rest5 := by
              rcases row_of_own HP.out.1 with ⟨h, _⟩ | ⟨g', cap', rest', he, _, _, _, h5⟩
              · cases h
              · simp only [Value.slice.injEq, Option.some.injEq, Addr.mk.injEq, and_true, true_and] at he
                obtain ⟨rfl, rfl⟩ := he
                exact ⟨rest', h5⟩
            have hglt5 := hR5.lt
            have hsz5 := HP.out.2.2.2.size
            have hcpl := hR5.le
            have hcap63 := hcap
            have hRa : Row ((w5.alloc (.cells #[] 28)).drew) g cp left rest5 := hR5.ch (F := fun _ => False) (((Ch.refl _ w5).alloc _).drewN 1) (by simp)
            have hn1 := hRa.news 0 j 0 (by omega) (fun _ => rfl)
            rw [List.drop_zero] at hn1
            have hown1 : ((w5.alloc (.cells #[] 28)).drew).ownsRow w.heap.size 28 2 (.slice (some ⟨w5.heap.size, 0, none⟩) 0 0) 0 [] := (World.ownsRow_made (base := w.heap.size) (e := 28) (size := 2) w5 #[] 0 hsz5 (Nat.zero_le _) rfl).drew
            have q1 := fun (w : World) => slice22h g left.length cp j (by omega) w
            obtain ⟨off2, hoff2, q2⟩ := slice22l g left.length cp (j + 1) (by omega)
            have hlt1 : (cellsM (left.take j)).length = j * 2 := by rw [cellsM_length]; simp; omega
            have hdt : (left.drop (j + 1)).take (left.length - (j + 1)) = left.drop (j + 1) := List.take_of_length_le (by simp)
            have hlt2 : (cellsM (left.drop (j + 1))).length = (left.length - (j + 1)) * 2 := by rw [cellsM_length]; simp
            have ej1 : ((j + 1 : Nat) : Int) = (j : Int) + 1 := rfl
            simp only [ej1] at q2
            have s1 : IntKind.i64.wrap ((j : Int) + 1) = (j : Int) + 1 := by rw [IntWalk.i64_in _ (by omega)]
            clear ej1
            have hsa : ((w5.alloc (.cells #[] 28)).drew).heap.size = w5.heap.size + 1 := by simp
            have hA : ∀ (va : Value) (wa : World), ((w5.alloc (.cells #[] 28)).drew).grownBy wa (some w5.heap.size) → (va.ownBlock = some w5.heap.size ∨ va.ownBlock = some ((w5.alloc (.cells #[] 28)).drew).heap.size) → Row wa g cp left rest5 ∧ Ch (fun _ => False) w5 wa ∧ w5.heap.size < wa.heap.size := by
              intro va wa hg hl
              have hc : Ch (fun _ => False) w5 wa := (((Ch.refl (fun _ => False) w5).alloc (.cells #[] 28)).drewN 1).grown hg (fun k hk hlt => by cases hk; omega)
              exact ⟨hR5.ch hc (by simp), hc, by have := hg.size; simp at this; omega⟩
            have hB : ∀ (va vb : Value) (wa wb : World), ((w5.alloc (.cells #[] 28)).drew).grownBy wa (some w5.heap.size) → (va.ownBlock = some w5.heap.size ∨ va.ownBlock = some ((w5.alloc (.cells #[] 28)).drew).heap.size) →
                wb.ownsRow w.heap.size 28 2 vb (0 + j + (left.length - (j + 1))) (([] ++ cellsM (left.take j)) ++ cellsM (left.drop (j + 1))) → wa.grownBy wb va.ownBlock → (vb.ownBlock = va.ownBlock ∨ vb.ownBlock = some wa.heap.size) →
                RGo w spare (orderAll xs spare) k' vb vo' wb (left.eraseIdx j) (out ++ [left.getD j (0, 0)]) := by
              intro va vb wa wb hga hla hob hgb hlb
              obtain ⟨_, hca, hwa⟩ := hA va wa hga hla
              have hcb : Ch (fun _ => False) w5 wb := hca.grown hgb (fun k hk hlt => by rcases hla with e | e <;> (rw [hk] at e; simp only [Option.some.injEq] at e; omega))
              have hmu := mu_erase (spare := spare) hjl
              have hmu4 := HG4.out.mu
              have hl4 := HG4.out.len
              have hel : (left.eraseIdx j).length = left.length - 1 := List.length_eraseIdx_of_lt hjl
              have hcells : ([] ++ cellsM (left.take j)) ++ cellsM (left.drop (j + 1)) = cellsM (left.eraseIdx j) := by
                rw [List.nil_append, ← cellsM_append, List.eraseIdx_eq_take_drop_succ]
              rw [hcells, show 0 + j + (left.length - (j + 1)) = (left.eraseIdx j).length by omega] at hob
              refine ⟨hob, own_ch (by rw [HST.out.2]; exact HP.out.2.1) hcb (by simp), fun gg hgg hv => ?_, HP.out.2.2.2.trans (hcb.below (by simp) HP.out.2.2.2.size), HG4.out.wf.erase j, by omega, HST.out.1.symm, by simp; omega, by omega⟩
              have hlt := (HP.out.2.1.lt gg hv).2
              rcases hlb with e | e
              · rw [e] at hgg
                rcases hla with e2 | e2 <;> (rw [e2] at hgg; simp only [Option.some.injEq] at hgg; omega)
              · rw [e] at hgg; simp only [Option.some.injEq] at hgg; omega
            have HA := Lib.hid hA
            have HB := Lib.hid hB
            have HO := Lib.hid hoff2
            have HD := Lib.hid hdt
            clear hRa hA hB hoff2 hdt hsa
            go_wp2_with fail
            go_region_law (first | (refine step_append_at (by rfl) _ _ _ (by rfl) w.heap.size 28 i0 (.agg #[.int .i64 0, .int .i64 0]) 2 16 Try.underlying22 hi hz0 hz1 hz2 rfl (by decide) (.slice (some ⟨w5.heap.size, 0, none⟩) 0 0) 0 [] (by rfl) hown1 ⟨g, 0, none⟩ j cp (cellsM (left.take j)) (by rfl) hlt1 hn1 (cellsM_one _) (by unfold maxLen; omega) (by omega) (by simp; omega) ?_; intro va wa hown2 hga hnila hla) | (refine step_append_at (by rfl) _ _ _ (by rfl) w.heap.size 28 i0 (.agg #[.int .i64 0, .int .i64 0]) 2 16 Try.underlying22 hi hz0 hz1 hz2 rfl (by decide) va (0 + j) ([] ++ cellsM (left.take j)) (by rfl) hown2 ⟨g, off2, none⟩ (left.length - (j + 1)) (cp - (j + 1)) (cellsM (left.drop (j + 1))) (by rfl) hlt2 (by have hr := (HA.out va wa hga hla).1.news (j + 1) (left.length - (j + 1)) off2 (by omega) (fun h0 => HO.out (by omega)); rw [HD.out] at hr; exact hr) (cellsM_one _) (by unfold maxLen; omega) (by omega) (by have := (HA.out va wa hga hla).2.2; omega) ?_; intro vb wb hob hgb hnilb hlb; have hfin := HB.out va vb wa wb hga hla hob hgb hlb))
            all_goals
              clear s1 q1 q2 hn1
              go_wp2_with fail
              go_roundg k'
              case rel => exact ⟨left.eraseIdx j, out ++ [left.getD j (0, 0)], hfin⟩
              case measure => exact Nat.lt_succ_self _

end Go.Proofs.Ytjnomnaeegcafaa
