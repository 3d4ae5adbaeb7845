/-
  The walks of products of series.
-/
import Derived.Test.YtnjaalblgakgaaaSerInt
namespace Go.Proofs.Ytnjaalblgakgaaa
open Go.RowKit
set_option maxRecDepth 100000
theorem l02Mul_any (n : Nat) (A B : PS) (v u : Value) (w : World) (h : RdI w v (lst n A)) (h' : RdI w u (lst n B)) :
    Calls Try.prog 79 #[v, u] w fun e w' => ∃ r, e = .returned r ∧ OwnI w.heap.size w' r (lst n (PS.mul A B)) ∧ Below w.heap.size w w' := by
  have H := hid h
  have H' := hid h'
  obtain ⟨ao, cap, rfl, hcap, hmax, -⟩ := h
  obtain ⟨ao', cap', rfl, hcap', hmax', -⟩ := h'
  simp only [lst_length] at hcap hmax hcap' hmax' ⊢
  go_enter Try.func79, Try.ntmps79
  go_wp2
  go_loopw [5, 6] (fun r i wr => ∃ k : Nat, k ≤ n ∧ i = .int .i64 k ∧ OwnI w.heap.size wr r (lst k (PS.mul A B)) ∧ Below w.heap.size w wr) (fun _ i _ => n - (intOf i).toNat)
  case atStart => exact ⟨0, Nat.zero_le _, rfl, OwnI.lit w _ (Nat.le_refl _), below_alloc _ _⟩
  case round =>
    obtain ⟨k, hk, rfl, O, Bl⟩ := hrel
    by_cases hlt : k < n
    · obtain ⟨wo, rfl⟩ : ∃ wo : World, wo = wr := ⟨_, rfl⟩
      have HO := hid O
      have HB := hid Bl
      clear O Bl
      go_wp2
      go_loopw [7, 8] (fun s q wr => ∃ j : Nat, j ≤ k + 1 ∧ q = .int .i64 j ∧ s = .int .i64 (vI (PS.sm (fun i => A i * B (k - i)) j)) ∧ Dr wo wr) (fun _ q _ => k + 1 - (intOf q).toNat)
      case atStart => exact ⟨0, Nat.zero_le _, rfl, by simp [PS.sm, vI_zero], Dr.refl _⟩
      case round =>
        obtain ⟨j, hj, rfl, rfl, hdr⟩ := hrel
        by_cases hlj : j < k + 1
        · obtain ⟨b, off, rfl, hcell⟩ := ((H.out.mono HB.out).dr hdr).at_ (k := j) (by simp; omega)
          obtain ⟨b', off', rfl, hcell'⟩ := ((H'.out.mono HB.out).dr hdr).at_ (k := k - j) (by simp; omega)
          rw [lst_el _ _ _ (by omega)] at hcell hcell'
          have b1 := vI_bd (A j)
          have b2 := vI_bd (B (k - j))
          have b3 := vI_bd (PS.sm (fun i => A i * B (k - i)) j)
          have m1 := md_bd (vI (A j) * vI (B (k - j)))
          have hx : Hid ((vI (PS.sm (fun i => A i * B (k - i)) j) + vI (A j) * vI (B (k - j)) % 10007) % 10007 = vI (PS.sm (fun i => A i * B (k - i)) (j + 1))) := by
            simp only [Hid, PS.sm]; rw [vI_add, vI_mul]
          have s1 : IntKind.i64.wrap ((k : Int) - (j : Int)) = (k : Int) - (j : Int) := IntWalk.i64_in _ (by omega)
          have s2 : 0 ≤ (k : Int) - (j : Int) := by omega
          have s3 : ((k : Int) - (j : Int)).toNat = k - j := by omega
          have s4 : (k : Int) - (j : Int) < (n : Int) := by omega
          have s5 : (j : Int) < (n : Int) := by omega
          have s6 : (0 : Int) ≤ (j : Int) := by omega
          have s7 : (j : Int) ≤ (k : Int) := by omega
          have HD := hid hdr
          clear hdr
          go_wp2_with fail
          go_quiet ((first | (go_at_call 58; exact quiet_same (l01Mul_any _ _ _ (by omega) (by omega) (by omega) (by omega))) | (go_at_call 103; exact quiet_same (l01Add_any _ _ _ (by omega) (by omega) (by omega) (by omega)))))
          clear s1 s2 s3 s4 s6 s7
          go_wp2
          go_roundw
          case rel => exact ⟨j + 1, by omega, by go_num, by rw [← hx.out], HD.out.drewN _⟩
          case measure => simp [intOf]; omega
        · have O := HO.out.mono (hdr.below _)
          have Bl := nx HB.out (hdr.below _)
          have hx : Hid (vI (PS.sm (fun i => A i * B (k - i)) j) = vI (PS.mul A B k)) := by
            simp only [Hid]; rw [PS.mul_sm, show j = k + 1 by omega]
          clear hdr
          go_wp2_with (at_builtin; refine wpl_app rfl _ _ _ rfl Try.underlying22 info_i64 rfl (O.mono (below_alloc _ _)) ⟨wr.heap.size, 0, none⟩ 1 _ rfl (cell_new1 _ _ _) (by simp; omega) (by have := Bl.size; simp; omega) ?_; intro v' W1 O1 G1 B1)
          go_roundw
          case rel => exact ⟨k + 1, by omega, by go_num, O1.snoc hx.out, (Bl.alloc Bl.size _).trans B1⟩
          case measure => simp [intOf]; omega
    · go_wp2
      go_ret
      obtain rfl : k = n := by omega
      exact ⟨_, rfl, O, Bl⟩
/-- The product as far as the first series' coefficients below i have been taken. -/
def tmS (A B : PS) (i : Nat) : PS := fun m => PS.sm (fun j => if j ≤ m then A j * B (m - j) else 0) i
/-- .. and k coefficients of the second one for the coefficient i. -/
def tkS (A B : PS) (i k : Nat) : PS := fun m => if i ≤ m ∧ m < i + k then tmS A B i m + A i * B (m - i) else tmS A B i m
theorem tmS_zero (A B : PS) : tmS A B 0 = fun _ => 0 := rfl
theorem tkS_zero (A B : PS) (i : Nat) : tkS A B i 0 = tmS A B i := by
  funext m; simp only [tkS]; rw [if_neg (by omega)]
theorem tkS_succ (A B : PS) (i k : Nat) : (fun m => if m = i + k then tmS A B i (i + k) + A i * B k else tkS A B i k m) = tkS A B i (k + 1) := by
  funext m
  by_cases h : m = i + k
  · subst h
    simp only [if_true, tkS]
    rw [if_pos (by omega), show i + k - i = k by omega]
  · rw [if_neg h]
    simp only [tkS]
    by_cases h2 : i ≤ m ∧ m < i + k
    · rw [if_pos h2, if_pos (by omega)]
    · rw [if_neg h2, if_neg (by omega)]
theorem tkS_at (A B : PS) (i k : Nat) : tkS A B i k (i + k) = tmS A B i (i + k) := by
  simp only [tkS]; rw [if_neg (by omega)]
theorem tkS_all (A B : PS) (i k n : Nat) (h : n ≤ i + k) : lst n (tkS A B i k) = lst n (tmS A B (i + 1)) := by
  apply lst_congr
  intro m hm
  simp only [tkS, tmS, PS.sm]
  by_cases h2 : i ≤ m
  · rw [if_pos (by omega), if_pos h2]
  · rw [if_neg (by omega), if_neg h2]; grind
theorem tmS_all (A B : PS) (n : Nat) : lst n (tmS A B n) = lst n (PS.mul A B) := by
  apply lst_congr
  intro m hm
  rw [PS.mul_sm]
  have e : ∀ q, tmS A B (m + 1 + q) m = PS.sm (fun k => A k * B (m - k)) (m + 1) := by
    intro q
    induction q with
    | zero => exact PS.sm_congr _ (fun j hj => by rw [if_pos (by omega)])
    | succ q ih =>
      rw [show m + 1 + (q + 1) = (m + 1 + q) + 1 by omega]
      show tmS A B (m + 1 + q) m + (if m + 1 + q ≤ m then A (m + 1 + q) * B (m - (m + 1 + q)) else 0) = _
      rw [ih, if_neg (by omega)]; grind
  have := e (n - (m + 1))
  rwa [show m + 1 + (n - (m + 1)) = n by omega] at this
set_option maxHeartbeats 1000000 in
theorem timesSeries_any (n : Nat) (A B : PS) (v u : Value) (w : World) (h : RdI w v (lst n A)) (h' : RdI w u (lst n B)) :
    Calls Try.prog 81 #[v, u] w fun e w' => ∃ r, e = .returned r ∧ OwnI w.heap.size w' r (lst n (PS.mul A B)) ∧ Below w.heap.size w w' := by
  obtain ⟨i0, hi, hz0, hz1, hz2⟩ := info_parts info_i64
  have H := hid h
  have H' := hid h'
  obtain ⟨ao, cap, rfl, hcap, hmax, -⟩ := h
  obtain ⟨ao', cap', rfl, hcap', hmax', -⟩ := h'
  simp only [lst_length] at hcap hmax hcap' hmax' ⊢
  go_enter Try.func81, Try.ntmps81
  go_wp2_with (at_make; refine wpList_make_full _ rfl _ _ _ rfl w.heap.size 2 i0 _ 1 Try.underlying22 hi hz0 hz1 _ _ _ _ n rfl rfl rfl rfl ?c1 ?c2 ?c3 ?_)
  case c1 => rw [hz2]; omega
  case c2 => unfold maxLen; omega
  case c3 => exact Nat.le_refl _
  intro w1 hown hgrow
  have hg := hgrow.size
  have O1 := OwnI.zeros hown hmax
  have B1 : Below w.heap.size w w1 := (Below.refl _ _).grown hgrow (Nat.le_refl _) (by simp)
  rw [← tmS_zero A B] at O1
  clear hown hgrow hz2 hz1 hz0 hi
  go_wp2
  go_loopw [14] (fun i wr => ∃ k : Nat, k ≤ n ∧ i = .int .i64 k ∧ OwnI w.heap.size wr (.slice (some ⟨w.heap.size, 0, none⟩) n n) (lst n (tmS A B k)) ∧ Below w.heap.size w wr) (fun i _ => n - (intOf i).toNat)
  case atStart => exact ⟨0, Nat.zero_le _, rfl, O1, B1⟩
  case round =>
    obtain ⟨k, hk, rfl, O, Bl⟩ := hrel
    by_cases hlt : k < n
    · obtain ⟨b, off, rfl, hcell⟩ := (H.out.mono Bl).at_ (k := k) (by simp; omega)
      rw [lst_el _ _ _ (by omega)] at hcell
      have hlb := H.out.lt (by simp; omega)
      have b1 := vI_bd (A k)
      obtain ⟨wo, rfl⟩ : ∃ wo : World, wo = wr := ⟨_, rfl⟩
      have HO := hid O
      have HB := hid Bl
      have hsz := Bl.size
      clear O Bl
      go_wp2
      go_loopw [8] (fun q wr => ∃ j : Nat, k + j ≤ n ∧ q = .int .i64 j ∧ OwnI w.heap.size wr (.slice (some ⟨w.heap.size, 0, none⟩) n n) (lst n (tkS A B k j)) ∧ Below w.heap.size w wr) (fun q _ => n - (intOf q).toNat)
      case atStart => exact ⟨0, by omega, rfl, by rw [tkS_zero]; exact HO.out, HB.out⟩
      case round =>
        obtain ⟨j, hj, rfl, O, Bl⟩ := hrel
        by_cases hlj : k + j < n
        · obtain ⟨b', off', rfl, hcell'⟩ := (H'.out.mono Bl).at_ (k := j) (by simp; omega)
          rw [lst_el _ _ _ (by omega)] at hcell'
          have b2 := vI_bd (B j)
          have b3 := vI_bd (tmS A B k (k + j))
          have m1 := (mul_bd b1.1 b1.2 b2.1 b2.2).1
          have m2 := (mul_bd b1.1 b1.2 b2.1 b2.2).2
          have hx : (vI (tmS A B k (k + j)) + vI (A k) * vI (B j)) % 10007 = vI (tmS A B k (k + j) + A k * B j) := by
            rw [vI_add, vI_mul]; simp
          obtain ⟨O2, G2⟩ := O.put (k + j) (tmS A B k (k + j) + A k * B j)
          rw [tkS_succ, ← hx] at O2
          rw [← hx] at G2
          have hgl := O.glt.2
          have hfk := O.free (k + j)
          have hck := O.cellS (k + j) hlj
          rw [tkS_at] at hck
          have HG := hid G2
          have HO2 := hid O2
          clear hx O O2 G2
          have s1 : IntKind.i64.wrap ((k : Int) + (j : Int)) = (k : Int) + (j : Int) := IntWalk.i64_in _ (by omega)
          have s2 : 0 ≤ (k : Int) + (j : Int) := by omega
          have s3 : ((k : Int) + (j : Int)).toNat = k + j := by omega
          have s4 : (k : Int) + (j : Int) < (n : Int) := by omega
          have s5 : (j : Int) < (n : Int) := by omega
          have s6 : (0 : Int) ≤ (j : Int) := by omega
          go_wp2_with fail
          refine wp_region_still_tail 19 (by kernel_rfl) (by kernel_rfl) ?_
          simp only [List.take_succ_cons, List.take_zero, List.drop_succ_cons, List.drop_zero]
          repeat still_step
          still_call (still_same (num_any _ _))
          repeat still_step
          refine wpStill_nil ?_
          change wpList _ _ _ _ _ wr.drew
          clear s1 s2 s3 s4 s6
          go_wp2
          go_roundw
          case rel => exact ⟨j + 1, by omega, by go_num, HO2.out.mono (below_drew _), (Bl.grown HG.out (by omega) (by simp)).drew⟩
          case measure => simp [intOf]; omega
        · go_wp2
          go_roundw
          case rel => exact ⟨k + 1, by omega, by go_num, by rw [← tkS_all A B k j n (by omega)]; exact O, Bl⟩
          case measure => simp [intOf]; omega
    · go_wp2
      go_ret
      obtain rfl : k = n := by omega
      rw [tmS_all] at O
      exact ⟨_, rfl, O, Bl⟩
theorem multiplySeries_any (v u : Value) (xs ys : List Int) (w : World) (h : RdI w v xs) (h' : RdI w u ys) :
    Calls Try.prog 26 #[v, u] w fun e w' => ∃ r, e = .returned (.tuple #[r, .int .i64 (ser2R PS.mul xs ys).2]) ∧ OwnI w.heap.size w' r (ser2R PS.mul xs ys).1 ∧ Below w.heap.size w w' := by
  obtain ⟨ao, cap, rfl⟩ := h.form
  obtain ⟨ao', cap', rfl⟩ := h'.form
  have hlit := RdII_lit2 w _ _ xs ys 22 h h'
  have hB := below_alloc w (.cells #[.slice ao xs.length cap, .slice ao' ys.length cap'] 22)
  by_cases hc : code2 xs ys = 0
  · obtain ⟨s1, s2, hl⟩ := code2_zero hc
    have HA := hid (h.ser_ (isSer_yes s1).2.2)
    have HB := hid (show RdI w _ (lst xs.length (ser ys)) by rw [hl]; exact h'.ser_ (isSer_yes s2).2.2)
    have HR : Hid (ser2R PS.mul xs ys = (lst xs.length (PS.mul (ser xs) (ser ys)), 0)) := by simp [Hid, ser2R, hc]
    have HC := hid hc
    clear hc hl s1 s2
    go_enter Try.func26, Try.ntmps26
    go_wp2_with fail
    refine (checkSeries_any _ _ [xs, ys] [] _ hlit (RdI_nil _)).mono ?_; rintro e w' ⟨rfl, rfl⟩; rw [serCode2, HC.out]
    go_wp2_with fail
    refine (timesSeries_any xs.length (ser xs) (ser ys) _ _ _ (HA.out.mono hB) (HB.out.mono hB)).mono ?_; rintro e w1 ⟨r, rfl, O, B⟩
    go_wp2
    go_ret2
    rw [HR.out]
    exact ⟨_, rfl, O.lower hB.size, nx hB B⟩
  · have hc1 := code2_one hc
    have HC := hid hc1
    have HR : Hid (ser2R PS.mul xs ys = ([], 1)) := by simp [Hid, ser2R, hc]
    clear hc hc1
    go_enter Try.func26, Try.ntmps26
    go_wp2_with fail
    refine (checkSeries_any _ _ [xs, ys] [] _ hlit (RdI_nil _)).mono ?_; rintro e w' ⟨rfl, rfl⟩; rw [serCode2, HC.out]
    go_wp2
    go_ret2
    rw [HR.out]
    exact ⟨_, rfl, OwnI.nil _ _, hB⟩
end Go.Proofs.Ytnjaalblgakgaaa
