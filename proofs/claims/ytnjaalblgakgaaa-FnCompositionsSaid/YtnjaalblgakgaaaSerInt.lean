/-
  The walks of integrals and scaled series.
-/
import Derived.Test.YtnjaalblgakgaaaSerDer
import Derived.StillTailTactics
namespace Go.Proofs.Ytnjaalblgakgaaa
open Go.RowKit
set_option maxRecDepth 100000
/-- The integral as far as the index k, the coefficients behind 0. -/
def intTo (k : Nat) (A : PS) : PS := fun i => if i < k then PS.int A i else 0
def intN (n : Nat) (A : PS) : PS := intTo n A
theorem still_same {P : Program} {f : FuncId} {args : Array Value} {w : World} {v : Value}
    (h : Calls P f args w fun e w' => e = .returned v ∧ w = w') : Calls P f args w fun e w'' => e = .returned v ∧ w'' = w :=
  h.mono fun _ _ ⟨he, hm⟩ => ⟨he, hm.symm⟩
theorem intTo_succ (k : Nat) (A : PS) (hk : 1 ≤ k) : (fun i => if i = k then A (k - 1) * fi (PS.nF k) else intTo k A i) = intTo (k + 1) A := by
  funext i
  by_cases h : i = k
  · subst h
    simp only [if_true, intTo]
    obtain ⟨m, rfl⟩ : ∃ m, i = m + 1 := ⟨i - 1, by omega⟩
    rw [if_pos (by omega)]; rfl
  · rw [if_neg h]
    simp only [intTo]
    by_cases h2 : i < k
    · rw [if_pos h2, if_pos (by omega)]
    · rw [if_neg h2, if_neg (by omega)]
theorem intTo_one (A : PS) : intTo 1 A = fun _ => 0 := by
  funext i
  simp only [intTo]
  by_cases h : i < 1
  · obtain rfl : i = 0 := by omega
    rfl
  · rw [if_neg h]
set_option maxHeartbeats 1000000 in
theorem integrated_any (n : Nat) (A : PS) (v : Value) (w : World) (h : RdI w v (lst n A)) (hsm : n ≤ 16) :
    Calls Try.prog 84 #[v] w fun e w' => ∃ r, e = .returned r ∧ OwnI w.heap.size w' r (lst n (intTo n A)) ∧ Below w.heap.size w w' := by
  obtain ⟨i0, hi, hz0, hz1, hz2⟩ := info_parts info_i64
  have H := hid h
  obtain ⟨ao, cap, rfl, hcap, hmax, -⟩ := h
  simp only [lst_length] at hcap hmax ⊢
  go_enter Try.func84, Try.ntmps84
  go_wp2_with (at_make; refine wpList_make_full _ rfl _ _ _ rfl w.heap.size 2 i0 _ 1 Try.underlying22 hi hz0 hz1 _ _ _ _ n rfl rfl rfl rfl ?c1 ?c2 ?c3 ?_)
  case c1 => rw [hz2]; omega
  case c2 => unfold maxLen; omega
  case c3 => exact Nat.le_refl _
  intro w1 hown hgrow
  have hg := hgrow.size
  have O1 := OwnI.zeros hown hmax
  have B1 : Below w.heap.size w w1 := (Below.refl _ _).grown hgrow (Nat.le_refl _) (by simp)
  rw [← intTo_one A] at O1
  clear hown hgrow hz2 hz1 hz0 hi
  go_wp2
  go_loopw [4] (fun i wr => ∃ k : Nat, 1 ≤ k ∧ (k ≤ n ∨ k = 1) ∧ i = .int .i64 k ∧ OwnI w.heap.size wr (.slice (some ⟨w.heap.size, 0, none⟩) n n) (lst n (intTo k A)) ∧ Below w.heap.size w wr) (fun i _ => n - (intOf i).toNat)
  case atStart => exact ⟨1, Nat.le_refl _, .inr rfl, rfl, O1, B1⟩
  case round =>
    obtain ⟨k, hk1, hk, rfl, O, Bl⟩ := hrel
    by_cases hlt : k < n
    · obtain ⟨b, off, rfl, hcell⟩ := (H.out.mono Bl).at_ (k := k - 1) (by simp; omega)
      have hbl := H.out.lt (by simp; omega)
      rw [lst_el _ _ _ (by omega)] at hcell
      have b1 := vI_bd (A (k - 1))
      have b2 := invM_bd (k : Int)
      have m1 := (mul_bd b1.1 b1.2 b2.1 b2.2).1
      have m2 := (mul_bd b1.1 b1.2 b2.1 b2.2).2
      have hx : vI (A (k - 1)) * invM (k : Int) % 10007 = vI (A (k - 1) * fi (PS.nF k)) := by
        rw [vI_mul, vI_fi, vI_nF k (by omega)]
      obtain ⟨O2, G2⟩ := O.put k (A (k - 1) * fi (PS.nF k))
      rw [intTo_succ k A hk1, ← hx] at O2
      rw [← hx] at G2
      have hgl := O.glt.2
      have hfk := O.free k
      have hck := O.cellS k hlt
      obtain ⟨x, hx'⟩ : ∃ x, x = Value.int .i64 (vI (intTo k A k)) := ⟨_, rfl⟩
      rw [← hx'] at hck
      clear hx hx' O
      have HG := hid G2
      have HO := hid O2
      clear G2 O2
      have s1 : IntKind.i64.wrap ((k : Int) - 1) = (k : Int) - 1 := IntWalk.i64_in _ (by omega)
      have s2 : 0 ≤ (k : Int) - 1 := by omega
      have s3 : ((k : Int) - 1).toNat = k - 1 := by omega
      have s4 : (k : Int) - 1 < (n : Int) := by omega
      have s5 : (k : Int) < (n : Int) := by omega
      have s6 : (0 : Int) ≤ (k : Int) := by omega
      have s7 : (1 : Int) ≤ (k : Int) := by omega
      go_wp2_with fail
      refine wp_region_still_tail 12 (by kernel_rfl) (by kernel_rfl) ?_
      simp only [List.take_succ_cons, List.take_zero, List.drop_succ_cons, List.drop_zero]
      repeat still_step
      still_call (still_same (inv_any _ _ (by omega) (by omega)))
      repeat still_step
      still_call (still_same (num_any _ _))
      repeat still_step
      refine wpStill_nil ?_
      change wpList _ _ _ _ _ wr.drew
      clear s1 s2 s3 s4 s6 s7
      go_wp2
      go_roundw
      case rel => exact ⟨k + 1, by omega, .inl (by omega), by go_num, HO.out.mono (below_drew _), (Bl.grown HG.out (by omega) (by simp)).drew⟩
      case measure => simp [intOf]; omega
    · go_wp2
      go_ret
      refine ⟨_, rfl, ?_, Bl⟩
      have e : lst n (intTo k A) = lst n (intTo n A) := by
        rcases hk with hk | hk
        · rw [show k = n by omega]
        · subst hk
          apply lst_congr
          intro i hi
          obtain rfl : i = 0 := by omega
          simp only [intTo]; rw [if_pos (by omega), if_pos (by omega)]
      rwa [e] at O
theorem integrateSeries_any (v : Value) (zs : List Int) (w : World) (h : RdI w v zs) :
    Calls Try.prog 29 #[v] w fun e w' => ∃ r, e = .returned (.tuple #[r, .int .i64 (ser1R intTo zs).2]) ∧ OwnI w.heap.size w' r (ser1R intTo zs).1 ∧ Below w.heap.size w w' := by
  cases hs : isSer zs with
  | true =>
    have s1 := isSer_yes hs
    have HA := hid (h.ser_ s1.2.2)
    have HR : Hid (ser1R intTo zs = (lst zs.length (intTo zs.length (ser zs)), 0)) := by simp [Hid, ser1R, hs]
    have HS := hid hs
    clear hs
    go_enter Try.func29, Try.ntmps29
    go_wp2_with fail
    refine (isSeries_any _ zs _ h).mono ?_; rintro e w' ⟨rfl, rfl⟩; rw [HS.out]
    go_wp2_with fail
    refine (integrated_any zs.length (ser zs) _ _ HA.out s1.2.1).mono ?_; rintro e w1 ⟨r, rfl, O, B⟩
    go_wp2
    go_ret2
    rw [HR.out]
    exact ⟨_, rfl, O, B⟩
  | false =>
    have HR : Hid (ser1R intTo zs = ([], 1)) := by simp [Hid, ser1R, hs]
    have HS := hid hs
    clear hs
    go_enter Try.func29, Try.ntmps29
    go_wp2_with fail
    refine (isSeries_any _ zs _ h).mono ?_; rintro e w' ⟨rfl, rfl⟩; rw [HS.out]
    go_wp2
    go_ret2
    rw [HR.out]
    exact ⟨_, rfl, OwnI.nil _ _, Below.refl _ _⟩
end Go.Proofs.Ytnjaalblgakgaaa
