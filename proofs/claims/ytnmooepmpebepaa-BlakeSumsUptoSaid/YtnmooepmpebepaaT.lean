import Derived.Test.YtnmooepmpebepaaS
import Derived.Laws.AppendOwnNone
namespace Go.Proofs.Ytnmooepmpebepaa
open Go.RowKit

/-- A slice of bytes that has been appended to, as it reads. -/
theorem own_readsB {w : World} {B g : Nat} {v : Value} {b : List Int} (h : w.ownsRow B 5 1 v b.length (bcells b)) (hg : ∀ k, v.ownBlock = some k → k ≠ g) : ReadsB g w v b := by
  rcases h.2 with ⟨hv, h0⟩ | ⟨q, cap, cur, hv, hq, hh, hle, hm, hs, ht⟩
  · exact ⟨none, 0, by rw [h0]; exact hv, by omega, fun h => by omega⟩
  · refine ⟨_, cap, hv, hle, fun _ => ⟨q, 0, rfl, hg q (by rw [hv]; rfl), (Array.getElem?_eq_some_iff.1 hh).1, fun j hj => ?_⟩⟩
    rw [Nat.zero_add, cell_of_row _ _ _ _ _ _ hh]
    have := bcells_at b j hj
    rw [← ht, Nat.mul_one, List.getElem?_take_of_lt hj] at this
    simpa using this

theorem wpList_append_bytes {P : Program} {ops : Array Oper} {rest : List Oper} {o : Oper} {a : Act} {w : World} {Q : Exit → Act → World → Prop} (hgd : o.guard = none) (s x : Operand) (t : TypeId)
    (ho : o.op = .call { callee := .builtin .append, args := #[s, x], argTypes := #[t, t] })
    (base : Nat) (i : TypeInfo) (z : Value) (ht : P.underlying t = some (.slice 5)) (hi : P.info? 5 = some i) (hz : i.zero = some z)
    (hsize : i.size = 1) (hby : i.bytes = 1) (hzs : z.cells.size = 1)
    (v : Value) (b0 : List Int) (hs : a.eval s = v) (hown : w.ownsRow base 5 1 v b0.length (bcells b0)) (u : Value) (hx : a.eval x = u) (b : List Int) (g : Nat) (hr : ReadsB g w u b) (hnil : ∀ a n c, u = .slice a n c → a = none → u = .slice none 0 0)
    (hlen : b0.length + b.length ≤ 140737488355328) (hbase : base ≤ w.heap.size)
    (h : ∀ v' w', w'.ownsRow base 5 1 v' (b0 ++ b).length (bcells (b0 ++ b)) → w.grownBy w' v.ownBlock → (v'.ownBlock = v.ownBlock ∨ v'.ownBlock = some w.heap.size) → wpList P ops Q rest (a.put o.dst v') w') :
    wpList P ops Q (o :: rest) a w := by
  obtain ⟨ad, cap, rfl, hle, h3⟩ := hr
  cases ad with
  | none =>
    have hn := hnil _ _ _ rfl rfl
    have hb0 : b = [] := by
      simp only [Value.slice.injEq, true_and] at hn
      exact List.eq_nil_of_length_eq_zero hn.1
    subst hb0
    refine wpList_append_own_none hgd s x t ho base 5 i 1 ht hi v b0.length (bcells b0) hs hown (by rw [hx]; exact hn) (h v w (by rw [List.append_nil]; exact hown) ⟨rfl, rfl, rfl, Nat.le_refl _, fun _ _ _ => rfl⟩ (.inl rfl))
  | some ad =>
    refine wpList_append_own_at _ hgd s x t ho base 5 i z 1 1 ht hi hz hsize hby hzs (by decide) v b0.length (bcells b0) hs hown ad b.length cap (bcells b) hx (by rw [bcells_length]; omega) ?_ (bcells_one b) (by unfold maxLen; omega) (by omega) hbase ?_
    · intro j u hj
      have hjl : j < (bcells b).length := (List.getElem?_eq_some_iff.1 hj).1
      rw [bcells_length] at hjl
      obtain ⟨q, off, hab, _, hlt, hc⟩ := h3 (by omega)
      simp only [Option.some.injEq] at hab
      subst hab
      rw [Addr.add_mid, hc j hjl, ← hj, bcells_at b j hjl]
    · intro v' w' h1 h2 _ h4
      refine h v' w' ?_ h2 h4
      rw [List.length_append]
      simpa [bcells] using h1

end Go.Proofs.Ytnmooepmpebepaa
