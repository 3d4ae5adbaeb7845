/-
  One element appended to a slice of the call's own, as a law of a walk.
-/
import Derived.Test.YtmhcpaffdchboaaDoorMem
import Derived.Deep.AppendLies
import Derived.Deep.RegionHeld3
import Derived.WalkSpells
import Derived.StillTactics
namespace Go.Proofs.YtmhcpaffdchboaaDoor
open Go.RowKit
section
variable {P : Program} {ops : Array Oper} {o : Oper} {a : Act} {W : World} {base : Nat} {v : Value} {zs : List Int}
theorem app_next {n : Nat} {v' : Value} {W1 : World} {y : Int} (O : OwnI base W v zs) (hn : n = zs.length) (hl : zs.length < 1048576) (hb : base ≤ W.heap.size)
    (h1 : W1.ownsRow base 2 1 v' (n + 1) (zs.map (Value.int .i64) ++ [.int .i64 y])) (h2 : W.grownBy W1 v.ownBlock) :
    OwnI base W1 v' (zs ++ [y]) ∧ Below base W W1 :=
  ⟨OwnI.mk h1 (by simp) (by simp; omega), (Below.refl _ _).grown h2 hb (fun k hk => (O.own_lt k hk).1)⟩
theorem wpl_app {rest : List Oper} {Q : Exit → Act → World → Prop} (hgd : o.guard = none) (s x : Operand) (t : TypeId)
    (ho : o.op = .call { callee := .builtin .append, args := #[s, x], argTypes := #[t, t] }) (ht : P.underlying t = some (.slice 2))
    (hinf : (P.info? 2).map (fun i => (i.zero, i.size, i.bytes)) = some (some (.int .i64 0), 1, 8))
    (hs : a.eval s = v) (O : OwnI base W v zs) (ad : Addr) (c : Nat) (y : Int) (hx : a.eval x = .slice (some ad) 1 c) (hc : W.cell? ad = some (.int .i64 y)) (hl : zs.length < 1048576) (hb : base ≤ W.heap.size)
    (h : ∀ v' W1, OwnI base W1 v' (zs ++ [y]) → W.grownBy W1 v.ownBlock → Below base W W1 → wpList P ops Q rest (a.put o.dst v') W1) : wpList P ops Q (o :: rest) a W := by
  obtain ⟨i0, hi, hz0, hz1, hz2⟩ := info_parts hinf
  refine wpList_append_own _ hgd s x t ho base 2 i0 (.int .i64 0) 1 8 ht hi hz0 hz1 hz2 rfl (by decide) v zs.length _ hs O.1 ad 1 c [.int .i64 y] hx rfl ?_ ?_ ?_ ?_ hb ?_
  · intro j u hj
    match j, hj with
    | 0, hj => simp at hj; subst hj; simpa [Addr.add] using hc
  · intro u hu; simp at hu; subst hu; rfl
  · unfold maxLen; omega
  · omega
  · intro v' W1 h1 h2 _
    have R := app_next O rfl hl hb h1 h2
    exact h v' W1 R.1 h2 R.2
theorem step_app {K : Act → World → Prop} {Q : Exit → Act → World → Prop} {E : Prop} (hgd : o.guard = none) (s x : Operand) (t : TypeId)
    (ho : o.op = .call { callee := .builtin .append, args := #[s, x], argTypes := #[t, t] }) (ht : P.underlying t = some (.slice 2))
    (hinf : (P.info? 2).map (fun i => (i.zero, i.size, i.bytes)) = some (some (.int .i64 0), 1, 8))
    (hs : a.eval s = v) (O : OwnI base W v zs) (ad : Addr) (c : Nat) (y : Int) (hx : a.eval x = .slice (some ad) 1 c) (hc : W.cell? ad = some (.int .i64 y)) (hl : zs.length < 1048576) (hb : base ≤ W.heap.size)
    (h : ∀ v' W1, OwnI base W1 v' (zs ++ [y]) → W.grownBy W1 v.ownBlock → Below base W W1 → K (a.put o.dst v') W1) :
    if Region.wanted o (yielded ops a.tmps) = true then Oper.wp P o a W K Q else E := by
  have hw : Region.wanted o (yielded ops a.tmps) = true := by simp [Region.wanted, hgd]
  rw [if_pos hw]
  obtain ⟨i0, hi, hz0, hz1, hz2⟩ := info_parts hinf
  refine wp_append_own _ s x t ho base 2 i0 (.int .i64 0) 1 8 ht hi hz0 hz1 hz2 rfl (by decide) v zs.length _ hs O.1 ad 1 c [.int .i64 y] hx rfl ?_ ?_ ?_ ?_ hb ?_
  · intro j u hj
    match j, hj with
    | 0, hj => simp at hj; subst hj; simpa [Addr.add] using hc
  · intro u hu; simp at hu; subst hu; rfl
  · unfold maxLen; omega
  · omega
  · intro v' W1 h1 h2 _
    have R := app_next O rfl hl hb h1 h2
    exact h v' W1 R.1 h2 R.2
end
theorem cell_new1 (w : World) (x : Value) (t : TypeId) : (w.alloc (.cells #[x] t)).cell? ⟨w.heap.size, 0, none⟩ = some x := by
  rw [World.cell?_alloc_at _ _ _ _ rfl]; rfl
end Go.Proofs.YtmhcpaffdchboaaDoor
