import Derived.Test.YtnmooepmpebepaaQ
namespace Go.Proofs.Ytnmooepmpebepaa
open Go.RowKit

/-! ### What was stirred can be stirred back -/
theorem ofInt_nat (a : Nat) (_ : a < 4294967296) : BitVec.ofInt IntKind.u32.bits (a : Int) = BitVec.ofNat 32 a := by
  show BitVec.ofInt 32 (a : Int) = _
  rw [BitVec.ofInt_natCast]
theorem bits_or_nat (a b : Nat) (ha : a < 4294967296) (hb : b < 4294967296) : bits .or .u32 (a : Int) (b : Int) = ((a ||| b : Nat) : Int) := by
  have hor : a ||| b < 4294967296 := Nat.or_lt_two_pow (n := 32) ha hb
  unfold bits
  simp only [ofInt_nat a ha, ofInt_nat b hb]
  have e : (BitVec.ofNat 32 a ||| BitVec.ofNat 32 b).toNat = a ||| b := by
    rw [BitVec.toNat_or, BitVec.toNat_ofNat, BitVec.toNat_ofNat, Nat.mod_eq_of_lt ha, Nat.mod_eq_of_lt hb]
  show IntKind.u32.wrap (((BitVec.ofNat 32 a ||| BitVec.ofNat 32 b).toNat : Nat) : Int) = _
  rw [e, wrap_u32]; omega
theorem bits_xor_nat (a b : Nat) (ha : a < 4294967296) (hb : b < 4294967296) : bits .xor .u32 (a : Int) (b : Int) = ((a ^^^ b : Nat) : Int) := by
  have hor : a ^^^ b < 4294967296 := Nat.xor_lt_two_pow (n := 32) ha hb
  unfold bits
  simp only [ofInt_nat a ha, ofInt_nat b hb]
  have e : (BitVec.ofNat 32 a ^^^ BitVec.ofNat 32 b).toNat = a ^^^ b := by
    rw [BitVec.toNat_xor, BitVec.toNat_ofNat, BitVec.toNat_ofNat, Nat.mod_eq_of_lt ha, Nat.mod_eq_of_lt hb]
  show IntKind.u32.wrap (((BitVec.ofNat 32 a ^^^ BitVec.ofNat 32 b).toNat : Nat) : Int) = _
  rw [e, wrap_u32]; omega

def U32 (x : Int) : Prop := 0 ≤ x ∧ x < 4294967296
theorem ad_u32 (x y : Int) : U32 (ad x y) := by unfold U32 ad; rw [wrap_u32]; omega
theorem bits_u32 (op : BinOp) (x y : Int) : U32 (bits op .u32 x y) := by unfold U32 bits; rw [wrap_u32]; omega
theorem xr_u32 (x y : Int) : U32 (xr x y) := bits_u32 _ _ _
theorem ro_u32 (x p q : Int) : U32 (ro x p q) := bits_u32 _ _ _
theorem xr_back (a c : Int) (ha : U32 a) (hc : U32 c) : xr (xr a c) c = a := by
  obtain ⟨m, rfl⟩ : ∃ m : Nat, a = m := ⟨a.toNat, by have := ha.1; omega⟩
  obtain ⟨n, rfl⟩ : ∃ n : Nat, c = n := ⟨c.toNat, by have := hc.1; omega⟩
  have hm : m < 4294967296 := by have := ha.2; omega
  have hn : n < 4294967296 := by have := hc.2; omega
  unfold xr
  rw [bits_xor_nat m n hm hn, bits_xor_nat _ n (Nat.xor_lt_two_pow (n := 32) hm hn) hn, Nat.xor_assoc, Nat.xor_self, Nat.xor_zero]
theorem or_sum (a b : Nat) (k : Nat) (hb : b < 2 ^ k) : (a * 2 ^ k) ||| b = a * 2 ^ k + b := by
  have := Nat.shiftLeft_add_eq_or_of_lt hb a
  rw [Nat.shiftLeft_eq] at this
  exact this.symm
theorem ro_val (z : Int) (hz : U32 z) (k : Nat) (p q : Nat) (hp : p = 2 ^ k) (hpq : p * q = 4294967296) : ro z p q = (((z.toNat % q) * p + z.toNat / q : Nat) : Int) := by
  obtain ⟨n, rfl⟩ : ∃ n : Nat, z = n := ⟨z.toNat, by have := hz.1; omega⟩
  have hn : n < 4294967296 := by have := hz.2; omega
  have hq : 0 < q := by rcases Nat.eq_zero_or_pos q with h | h; · subst h; simp at hpq
                        · exact h
  have hp0 : 0 < p := by rcases Nat.eq_zero_or_pos p with h | h; · subst h; simp at hpq
                         · exact h
  have e1 : IntKind.u32.wrap ((n : Int) * (p : Int)) = (((n % q) * p : Nat) : Int) := by
    rw [wrap_u32, ← Int.natCast_mul]
    have : n * p % 4294967296 = n % q * p := by rw [← hpq, Nat.mul_comm p q, Nat.mul_mod_mul_right]
    omega
  have e2 : (n : Int) / (q : Int) = ((n / q : Nat) : Int) := by simp
  have hlt1 : n % q * p < 4294967296 := by
    rw [← hpq, Nat.mul_comm p q]
    exact Nat.mul_lt_mul_of_pos_right (Nat.mod_lt _ hq) hp0
  have hlt2 : n / q < p := by
    rw [Nat.div_lt_iff_lt_mul hq, hpq]; exact hn
  have hlt3 : n / q < 4294967296 := Nat.lt_of_le_of_lt (Nat.div_le_self _ _) hn
  unfold ro
  rw [e1, e2, bits_or_nat _ _ hlt1 hlt3]
  congr 1
  rw [hp] at hlt2 ⊢
  exact or_sum _ _ _ hlt2
theorem ro_back (z : Int) (hz : U32 z) (k k' p q : Nat) (hp : p = 2 ^ k) (hq : q = 2 ^ k') (hpq : p * q = 4294967296) : ro (ro z p q) q p = z := by
  have hu := ro_u32 z p q
  have hq0 : 0 < q := by rcases Nat.eq_zero_or_pos q with h | h; · subst h; simp at hpq
                         · exact h
  have hp0 : 0 < p := by rcases Nat.eq_zero_or_pos p with h | h; · subst h; simp at hpq
                         · exact h
  rw [ro_val (ro z p q) hu k' q p hq (by rw [Nat.mul_comm]; exact hpq)]
  rw [ro_val z hz k p q hp hpq, Int.toNat_natCast]
  obtain ⟨n, rfl⟩ : ∃ n : Nat, z = n := ⟨z.toNat, by have := hz.1; omega⟩
  have hn : n < 4294967296 := by have := hz.2; omega
  rw [Int.toNat_natCast]
  have hlt2 : n / q < p := by rw [Nat.div_lt_iff_lt_mul hq0, hpq]; exact hn
  have e1 : (n % q * p + n / q) % p = n / q := by rw [Nat.mul_comm (n % q) p, Nat.mul_add_mod, Nat.mod_eq_of_lt hlt2]
  have e2 : (n % q * p + n / q) / p = n % q := by rw [Nat.mul_comm (n % q) p, Nat.mul_add_div hp0, Nat.div_eq_of_lt hlt2, Nat.add_zero]
  rw [e1, e2]
  congr 1
  have := Nat.div_add_mod n q
  rw [Nat.mul_comm (n / q) q]; exact this
def su (x y : Int) : Int := IntKind.u32.wrap (x - y)
theorem su_ad (c d : Int) (hc : U32 c) : su (ad c d) d = c := by
  unfold su ad; rw [wrap_u32, wrap_u32]; have := hc.1; have := hc.2; omega
theorem su_ad2 (a b x : Int) (ha : U32 a) : su (su (ad a (ad b x)) b) x = a := by
  unfold su ad; simp only [wrap_u32]; have := ha.1; have := ha.2; omega

/-- Stirred back. -/
def backS (R : List Int) (x y : Int) : List Int :=
  let b1 := xr (ro (st R 4) 128 33554432) (st R 8)
  let c1 := su (st R 8) (st R 12)
  let d1 := xr (ro (st R 12) 256 16777216) (st R 0)
  let a1 := su (su (st R 0) b1) y
  let b0 := xr (ro b1 4096 1048576) c1
  let c0 := su c1 d1
  let d0 := xr (ro d1 65536 65536) a1
  let a0 := su (su a1 b0) x
  (((R.set 0 a0).set 4 b0).set 8 c0).set 12 d0
theorem back_stir (V : List Int) (lV : V.length = 16) (hV : ∀ i, i < 16 → U32 (st V i)) (x y : Int) : backS (stirS V 0 4 8 12 x y) x y = V := by
  match V, lV with
  | [v0, v1, v2, v3, v4, v5, v6, v7, v8, v9, v10, v11, v12, v13, v14, v15], _ =>
    have h0 : U32 v0 := hV 0 (by decide)
    have h4 : U32 v4 := hV 4 (by decide)
    have h8 : U32 v8 := hV 8 (by decide)
    have h12 : U32 v12 := hV 12 (by decide)
    clear hV
    obtain ⟨a1, ea1⟩ : ∃ a, ad v0 (ad v4 x) = a := ⟨_, rfl⟩
    obtain ⟨d1, ed1⟩ : ∃ a, ro (xr v12 a1) 65536 65536 = a := ⟨_, rfl⟩
    obtain ⟨c1, ec1⟩ : ∃ a, ad v8 d1 = a := ⟨_, rfl⟩
    obtain ⟨b1, eb1⟩ : ∃ a, ro (xr v4 c1) 1048576 4096 = a := ⟨_, rfl⟩
    obtain ⟨a2, ea2⟩ : ∃ a, ad a1 (ad b1 y) = a := ⟨_, rfl⟩
    obtain ⟨d2, ed2⟩ : ∃ a, ro (xr d1 a2) 16777216 256 = a := ⟨_, rfl⟩
    obtain ⟨c2, ec2⟩ : ∃ a, ad c1 d2 = a := ⟨_, rfl⟩
    obtain ⟨b2, eb2⟩ : ∃ a, ro (xr b1 c2) 33554432 128 = a := ⟨_, rfl⟩
    have hR : stirS [v0, v1, v2, v3, v4, v5, v6, v7, v8, v9, v10, v11, v12, v13, v14, v15] 0 4 8 12 x y = [a2, v1, v2, v3, b2, v5, v6, v7, c2, v9, v10, v11, d2, v13, v14, v15] := by
      rw [← eb2, ← ec2, ← ed2, ← ea2, ← eb1, ← ec1, ← ed1, ← ea1]
      rfl
    have ua1 : U32 a1 := ea1 ▸ ad_u32 _ _
    have ud1 : U32 d1 := ed1 ▸ ro_u32 _ _ _
    have uc1 : U32 c1 := ec1 ▸ ad_u32 _ _
    have ub1 : U32 b1 := eb1 ▸ ro_u32 _ _ _
    have ua2 : U32 a2 := ea2 ▸ ad_u32 _ _
    have ud2 : U32 d2 := ed2 ▸ ro_u32 _ _ _
    have uc2 : U32 c2 := ec2 ▸ ad_u32 _ _
    have k1 : xr (ro b2 128 33554432) c2 = b1 := by
      rw [← eb2]
      have := ro_back (xr b1 c2) (xr_u32 _ _) 25 7 33554432 128 (by decide) (by decide) (by decide)
      rw [show ro (ro (xr b1 c2) 33554432 128) 128 33554432 = xr b1 c2 from this]
      exact xr_back b1 c2 ub1 uc2
    have k2 : su c2 d2 = c1 := by rw [← ec2]; exact su_ad c1 d2 uc1
    have k3 : xr (ro d2 256 16777216) a2 = d1 := by
      rw [← ed2]
      have := ro_back (xr d1 a2) (xr_u32 _ _) 24 8 16777216 256 (by decide) (by decide) (by decide)
      rw [show ro (ro (xr d1 a2) 16777216 256) 256 16777216 = xr d1 a2 from this]
      exact xr_back d1 a2 ud1 ua2
    have k4 : su (su a2 b1) y = a1 := by rw [← ea2]; exact su_ad2 a1 b1 y ua1
    have k5 : xr (ro b1 4096 1048576) c1 = v4 := by
      rw [← eb1]
      have := ro_back (xr v4 c1) (xr_u32 _ _) 20 12 1048576 4096 (by decide) (by decide) (by decide)
      rw [show ro (ro (xr v4 c1) 1048576 4096) 4096 1048576 = xr v4 c1 from this]
      exact xr_back v4 c1 h4 uc1
    have k6 : su c1 d1 = v8 := by rw [← ec1]; exact su_ad v8 d1 h8
    have k7 : xr (ro d1 65536 65536) a1 = v12 := by
      rw [← ed1]
      have := ro_back (xr v12 a1) (xr_u32 _ _) 16 16 65536 65536 (by decide) (by decide) (by decide)
      rw [show ro (ro (xr v12 a1) 65536 65536) 65536 65536 = xr v12 a1 from this]
      exact xr_back v12 a1 h12 ua1
    have k8 : su (su a1 v4) x = v0 := by rw [← ea1]; exact su_ad2 v0 v4 x h0
    rw [hR]
    show ([a2, v1, v2, v3, b2, v5, v6, v7, c2, v9, v10, v11, d2, v13, v14, v15].set 0 _ |>.set 4 _ |>.set 8 _ |>.set 12 _) = _
    simp only [st, List.getD_cons_zero, List.getD_cons_succ, k1, k2, k3, k4, k5, k6, k7, k8]
    rfl

theorem left7 (x : Int) (w : World) : Calls Try.prog 19 #[.int .u32 x, .int .i64 7] w fun e w' => e = .returned (.int .u32 (ro x 128 33554432)) ∧ ∃ n, w' = w.drewN n := by
  go_enter Try.func19, Try.ntmps19
  go_wp2
  go_quiet (fail)
  go_wp2
  go_ret
  exact ⟨rfl, _, rfl⟩
theorem left8 (x : Int) (w : World) : Calls Try.prog 19 #[.int .u32 x, .int .i64 8] w fun e w' => e = .returned (.int .u32 (ro x 256 16777216)) ∧ ∃ n, w' = w.drewN n := by
  go_enter Try.func19, Try.ntmps19
  go_wp2
  go_quiet (fail)
  go_wp2
  go_ret
  exact ⟨rfl, _, rfl⟩
theorem left12 (x : Int) (w : World) : Calls Try.prog 19 #[.int .u32 x, .int .i64 12] w fun e w' => e = .returned (.int .u32 (ro x 4096 1048576)) ∧ ∃ n, w' = w.drewN n := by
  go_enter Try.func19, Try.ntmps19
  go_wp2
  go_quiet (fail)
  go_wp2
  go_ret
  exact ⟨rfl, _, rfl⟩
theorem left16 (x : Int) (w : World) : Calls Try.prog 19 #[.int .u32 x, .int .i64 16] w fun e w' => e = .returned (.int .u32 (ro x 65536 65536)) ∧ ∃ n, w' = w.drewN n := by
  go_enter Try.func19, Try.ntmps19
  go_wp2
  go_quiet (fail)
  go_wp2
  go_ret
  exact ⟨rfl, _, rfl⟩

end Go.Proofs.Ytnmooepmpebepaa
