/-
  The walk of the reference's copy of a list.
-/
import Derived.Test.YtmhcpaffdchboaaApp
import Derived.Test.YtmhcpaffdchboaaSlices
namespace Go.Proofs.Ytmhcpaffdchboaa
open Go.RowKit
theorem Addr_add_lit (b off j : Nat) : (⟨b, off, none⟩ : Addr).add j = ⟨b, off + j, none⟩ := Addr.add_lit b off j
/-- A whole list appended to an own slice, as a law of a walk. -/
theorem wpl_appAll {P : Program} {ops : Array Oper} {o : Oper} {a : Act} {W : World} {base : Nat} {v : Value} {zs ys : List Int} {rest : List Oper} {Q : Exit → Act → World → Prop} (hgd : o.guard = none) (s x : Operand) (t : TypeId)
    (ho : o.op = .call { callee := .builtin .append, args := #[s, x], argTypes := #[t, t] }) (ht : P.underlying t = some (.slice 2))
    (hinf : (P.info? 2).map (fun i => (i.zero, i.size, i.bytes)) = some (some (.int .i64 0), 1, 8))
    (hs : a.eval s = v) (O : OwnI base W v zs) (ao : Option Addr) (n c : Nat) (hx : a.eval x = .slice ao n c) (R : RdI W (.slice ao n c) ys) (h0 : 0 < ys.length) (hl : zs.length + ys.length ≤ 1048576) (hb : base ≤ W.heap.size)
    (h : ∀ v' W1, OwnI base W1 v' (zs ++ ys) → W.grownBy W1 v.ownBlock → Below base W W1 → wpList P ops Q rest (a.put o.dst v') W1) : wpList P ops Q (o :: rest) a W := by
  obtain ⟨i0, hi, hz0, hz1, hz2⟩ := info_parts hinf
  obtain ⟨b, off, rfl, -⟩ := R.at_ h0
  have hn := R.len
  subst hn
  refine wpList_append_own _ hgd s x t ho base 2 i0 (.int .i64 0) 1 8 ht hi hz0 hz1 hz2 rfl (by decide) v zs.length _ hs O.1 ⟨b, off, none⟩ ys.length c (ys.map (Value.int .i64)) hx (by simp) ?_ (ints_oneCell _ _) ?_ ?_ hb ?_
  · intro j u hu
    have hj : j < ys.length := by
      rcases Nat.lt_or_ge j ys.length with h | h
      · exact h
      · rw [List.getElem?_eq_none (by simpa using h)] at hu; cases hu
    obtain ⟨b', off', e, hc⟩ := R.at_ hj
    simp only [Option.some.injEq, Addr.mk.injEq] at e
    obtain ⟨rfl, rfl, _⟩ := e
    rw [Addr_add_lit, hc]
    rw [← hu, List.getElem?_map, List.getElem?_eq_getElem hj, ← el_at ys j hj]; rfl
  · unfold maxLen; omega
  · omega
  · intro v' W1 h1 h2 _
    exact h v' W1 (OwnI.mk h1 (by simp) (by simp; omega)) h2 ((Below.refl _ _).grown h2 hb (fun k hk => (O.own_lt k hk).1))
theorem l01Own_any (v : Value) (zs : List Int) (w : World) (h : RdI w v zs) (h0 : 0 < zs.length) :
    Calls Try.prog 46 #[v] w fun e w' => ∃ u, e = .returned u ∧ OwnI w.heap.size w' u zs ∧ Below w.heap.size w w' := by
  have hl : zs.length ≤ 1048576 := by obtain ⟨_, _, _, _, h, _⟩ := h; exact h
  obtain ⟨ao, cap, rfl⟩ := h.form
  go_enter Try.func46, Try.ntmps46
  go_wp2_with (at_builtin; refine wpl_appAll rfl _ _ _ rfl Try.underlying32 info_i64 rfl (OwnI.lit w w.heap.size (Nat.le_refl _)) _ _ _ rfl (h.mono (below_alloc _ _)) h0 (by simpa using hl) (by simp) ?_; intro v' W1 O1 G1 B1)
  go_ret
  exact ⟨_, rfl, O1, (below_alloc _ _).trans B1⟩
end Go.Proofs.Ytmhcpaffdchboaa
