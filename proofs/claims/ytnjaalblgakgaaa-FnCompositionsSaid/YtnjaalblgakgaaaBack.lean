/-
  slices.Backward: the contract of its iterator.
-/
import Derived.Test.YtnjaalblgakgaaaField
import Derived.Test.YtnjaalblgakgaaaMem
import Derived.RangeFuncNested
import Derived.RangeFuncBound
import Derived.RangeFuncCalls
import Derived.RangeFuncLeaves
import Derived.RangeFuncFrom
import Derived.RangeFuncBox
import Derived.Shelf.Abstract
import Derived.Shelf.RegionOpen
import Derived.OwnWalkIn
import Derived.TacticsInMore
import Derived.LoopNIn
import Derived.LoopIn
namespace Go.Proofs.Ytnjaalblgakgaaa
open Go.RowKit Go.Shelf
attribute [local go_sem] Oper.semAt_some
/-- What has come when k rounds are over: the last k places with what they hold, the last one first. -/
def back (zs : List Int) : Nat → List (Nat × Int)
  | 0 => []
  | k + 1 => back zs k ++ [(zs.length - 1 - k, el zs (zs.length - 1 - k))]
theorem back_length (zs : List Int) (k : Nat) : (back zs k).length = k := by
  induction k with
  | zero => rfl
  | succ k ih => simp [back, ih]
/-- What a round keeps: what lay below n, and the slice's box. -/
def BackK (n Bs : Nat) (A B : World) : Prop := Below n A B ∧ ∀ v, Boxed A Bs 22 v → Boxed B Bs 22 v
theorem backK_t {n Bs : Nat} {A B C : World} (h : BackK n Bs A B) (k : BackK n Bs B C) : BackK n Bs A C := ⟨h.1.trans k.1, fun v b => k.2 v (h.2 v b)⟩
theorem backK_b {n Bs : Nat} {w : World} (hn : n ≤ w.heap.size) (hB : Bs < w.heap.size) (W : World) (l : Nat) (o o' : Obj) (hl : w.heap.size ≤ l) (h : W.heap[l]? = some o) (hc : o.isCells = false) (hw : o.isWalk = false) : BackK n Bs W (W.putObj l o') :=
  ⟨belowK_b hn W l o o' hl h hc hw, fun v b => b.kept (grownBy_putObj' W l o') (fun e => by cases e; omega)⟩
set_option maxRecDepth 100000 in
set_option maxHeartbeats 2000000 in
theorem back1_in (F : Fence) (n : Nat) (hf : F.fn 104) (hro : F.round = none) (hn : 1 ≤ n) (l Bs : Nat) (v : Value) (zs : List Int) (w0 : World) (hR : RdI w0 v zs) (J Jx : List (Nat × Int) → World → Prop)
    (hY : ∀ pre x W, J pre W → pre.length < zs.length → YieldAt F (n - 1) Try.prog l #[.int .i64 (x.1 : Int), .int .i64 x.2] W fun e W' =>
      (e = .returned (.bool true) ∧ J (pre ++ [x]) W' ∧ BackK w0.heap.size Bs W W') ∨ (e = .returned (.bool false) ∧ Jx (pre ++ [x]) W'))
    (W : World) (hW : Below w0.heap.size w0 W) (hBs : Boxed W Bs 22 v) (h0 : J [] W) :
    CallsIn F n Try.prog 104 #[.func (.yield l) #[] #[], .pointer (some ⟨Bs, 0, none⟩)] W fun e W' => (∃ v, e = .returned v) ∧
      ((∃ ys, ys = back zs zs.length ∧ J ys W') ∨ (∃ pre, (∃ k, k ≤ zs.length ∧ pre = back zs k) ∧ Jx pre W')) := by
  have H := hid hR
  obtain ⟨ao, cap, rfl, hcap, hmax, -⟩ := hR
  refine callsIn_of_wp Try.func104 rfl hf ?_ hro
  simp only [Try.ntmps104, List.size_toArray, List.length_cons, List.length_nil, Nat.reduceAdd, Nat.reduceSub, Array.replicate_succ, Array.replicate_zero, List.push_toArray, List.append_toArray, List.nil_append, List.cons_append]
  have s0 : IntKind.i64.wrap ((zs.length : Int) - 1) = (zs.length : Int) - 1 := IntWalk.i64_in _ (by omega)
  have hBc := hBs.cell
  gi_wp2
  gi_loopw [3] (fun i wr => ∃ k : Nat, k ≤ zs.length ∧ i = .int .i64 ((zs.length : Int) - 1 - k) ∧ J (back zs k) wr ∧ BackK w0.heap.size Bs W wr)
    (fun i _ => (intOf i + 1).toNat)
  case atStart => exact ⟨0, Nat.zero_le _, by simp, h0, Below.refl _ _, fun _ b => b⟩
  case round =>
    obtain ⟨k, hk, rfl, hJs, hnx⟩ := hrel
    have hBr := (hnx.2 _ hBs).cell
    by_cases hlt : k < zs.length
    · obtain ⟨j, hj⟩ : ∃ j : Nat, j = zs.length - 1 - k := ⟨_, rfl⟩
      obtain ⟨b, off, rfl, hcell⟩ := (H.out.mono (hW.trans hnx.1)).at_ (k := j) (by omega)
      obtain ⟨fn, tmps, assign, body, hy, hR⟩ := hY _ (j, el zs j) wr hJs (by rw [back_length]; exact hlt)
      dsimp only at hy
      have e1 : (zs.length : Int) - 1 - k = (j : Int) := by omega
      have e5 : j < zs.length := by omega
      rw [e1]
      have HJ := hid hj
      clear hj
      gi_wp2
      refine hR.mono ?_
      rintro e W3 (⟨rfl, hJ3, hk3⟩ | ⟨rfl, hJx3⟩)
      · gi_wp2
        go_roundw
        case rel => exact ⟨k + 1, by omega, by congr 1; omega, by rw [back, ← HJ.out]; exact hJ3, backK_t hnx hk3⟩
        case measure => simp [intOf]
      · gi_wp2
        refine bodyPost_ret (results_none rfl _ _ _) rfl ?_
        exact ⟨⟨_, rfl⟩, .inr ⟨_, ⟨k + 1, by omega, by rw [back, ← HJ.out]⟩, hJx3⟩⟩
    · obtain rfl : k = zs.length := by omega
      have e3 : (zs.length : Int) - 1 - zs.length < 0 := by omega
      gi_wp2
      go_end0
      exact ⟨⟨_, rfl⟩, .inl ⟨_, rfl, hJs⟩⟩
set_option maxHeartbeats 1000000 in
theorem back_in (F : Fence) (n : Nat) (hf : F.fn 85) (hro : F.round = none) (a : Option Addr) (len cap : Nat) (w : World) :
    CallsIn F n Try.prog 85 #[.slice a len cap] w fun e w' => e = .returned (.func (.func 104) #[] #[.pointer (some ⟨w.heap.size, 0, none⟩)]) ∧ w' = w.alloc (.cells #[.slice a len cap] 22) := by
  refine callsIn_of_wp Try.func85 rfl hf ?_ hro
  simp only [Try.ntmps85, List.size_toArray, List.length_cons, List.length_nil, Nat.reduceAdd, Nat.reduceSub, Array.replicate_succ, Array.replicate_zero, List.push_toArray, List.append_toArray, List.nil_append, List.cons_append]
  gi_wp2
  go_ret
  exact ⟨rfl, rfl⟩
theorem back_stops (F : Fence) (n : Nat) (hf : F.fn 104) (hro : F.round = none) (hn : 1 ≤ n) (Bs : Nat) (v : Value) (zs : List Int) (w0 w : World) (h0w : Below w0.heap.size w0 w)
    (hc : Boxed w Bs 22 v) (hI : RdI w0 v zs) :
    SeqStopsK F n Try.prog 104 #[.pointer (some ⟨Bs, 0, none⟩)] (fun x : Nat × Int => #[Value.int .i64 (x.1 : Int), Value.int .i64 x.2]) (BackK w0.heap.size Bs) (fun ys => ys = back zs zs.length)
      (fun pre => ∃ k, k ≤ zs.length ∧ pre = back zs k) zs.length w := fun l J Jx W hW _ _ hY h0 =>
  back1_in F n hf hro hn l Bs v zs w0 hI J Jx hY W (h0w.trans (hW.mono h0w.size)) ((hW.block Bs hc.lt).trans hc) h0
end Go.Proofs.Ytnjaalblgakgaaa
