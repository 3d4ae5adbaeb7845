/-
  The walks of the program's exponentials and quotients of series.
-/
import Derived.Test.YtnjaalblgakgaaaSerPow
namespace Go.Proofs.Ytnjaalblgakgaaa
open Go.RowKit
set_option maxRecDepth 100000
/-- The program's sum for a coefficient of the exponential, as an integer. -/
def esI (B T : PS) (m j : Nat) : Int := sumTo (fun i => ((i + 1 : Nat) : Int) * vI (B (i + 1) * T (m - i))) j
theorem esI_bd (B T : PS) (m j : Nat) (hj : j ≤ 16) : 0 ≤ esI B T m j ∧ esI B T m j ≤ 2561536 := by
  have h := sumTo_bd (fun i => ((i + 1 : Nat) : Int) * vI (B (i + 1) * T (m - i))) j 160096 (fun i hi => by
    have b := vI_bd (B (i + 1) * T (m - i))
    refine ⟨Int.mul_nonneg (by omega) b.1, ?_⟩
    have := Int.mul_le_mul (show ((i + 1 : Nat) : Int) ≤ 16 by omega) b.2 b.1 (by omega)
    omega)
  unfold esI
  omega
theorem esI_mod (B T : PS) (m j : Nat) (hj : j ≤ 16) : esI B T m j % 10007 = vI (PS.sm (fun i => PS.D B i * T (m - i)) j) := by
  unfold esI
  induction j with
  | zero => simp only [sumTo, PS.sm, vI_zero]; rfl
  | succ j ih =>
    simp only [sumTo, PS.sm]
    rw [vI_add, ← ih (by omega)]
    have e : PS.D B j * T (m - j) = PS.nF (j + 1) * (B (j + 1) * T (m - j)) := by simp only [PS.D]; grind
    rw [e, vI_mul (PS.nF (j + 1)), vI_nF _ (by omega)]
    omega
set_option maxHeartbeats 1000000 in
theorem expSeries_any (n : Nat) (B : PS) (v : Value) (w : World) (h : RdI w v (lst n B)) (hn : 1 ≤ n) (hsm : n ≤ 16) :
    Calls Try.prog 69 #[v] w fun e w' => ∃ r, e = .returned r ∧ OwnI w.heap.size w' r (lst n (PS.exp B)) ∧ Below w.heap.size w w' := by
  obtain ⟨ao, cap, rfl, hcap, hmax⟩ := h.formS
  have H := hid h
  clear h
  obtain ⟨i0, hi, hz0, hz1, hz2⟩ := info_parts info_i64
  go_enter Try.func69, Try.ntmps69
  go_wp2_with (at_make; refine wpList_make_full _ rfl _ _ _ rfl w.heap.size 2 i0 _ 1 Try.underlying22 hi hz0 hz1 _ _ _ _ n rfl rfl rfl rfl ?c1 ?c2 ?c3 ?_)
  case c1 => rw [hz2]; omega
  case c2 => unfold maxLen; omega
  case c3 => exact Nat.le_refl _
  intro w1 hown hgrow
  have hg := hgrow.size
  have O1 := OwnI.zeros hown hmax
  have B1 : Below w.heap.size w w1 := (Below.refl _ _).grown hgrow (Nat.le_refl _) (by simp)
  obtain ⟨O2, G2⟩ := O1.put 0 1
  rw [vI_one] at O2 G2
  rw [show (fun i => if i = 0 then 1 else 0 : PS) = PS.expT B 0 from rfl] at O2
  have hgl := O1.glt.2
  have hfk := O1.free 0
  have hck := O1.cellS 0 (by omega)
  rw [vI_zero] at hck
  have HO2 := hid O2
  have B2 := hid (B1.grown G2 (by omega) (by simp))
  have hn0 : (0 : Int) < (n : Int) := by omega
  clear hown hgrow hz2 hz1 hz0 hi O1 O2 G2
  go_wp2
  go_loopw [4] (fun i wr => ∃ k : Nat, 1 ≤ k ∧ k ≤ n ∧ i = .int .i64 k ∧ OwnI w.heap.size wr (.slice (some ⟨w.heap.size, 0, none⟩) n n) (lst n (PS.expT B (k - 1))) ∧ Below w.heap.size w wr) (fun i _ => n - (intOf i).toNat)
  case atStart => exact ⟨1, Nat.le_refl _, hn, rfl, HO2.out, B2.out⟩
  case round =>
    obtain ⟨k, hk1, hk, rfl, O, Bl⟩ := hrel
    clear hfk hck hgl hg
    by_cases hlt : k < n
    · obtain ⟨wo, rfl⟩ : ∃ wo : World, wo = wr := ⟨_, rfl⟩
      obtain ⟨T, hT⟩ : ∃ T, T = PS.expT B (k - 1) := ⟨_, rfl⟩
      rw [← hT] at O
      have HT := hid hT
      have HO := hid O
      have HB := hid Bl
      clear O Bl hT
      go_wp2
      go_loopw [5, 6] (fun s q wr => ∃ j : Nat, j ≤ k ∧ q = .int .i64 ((j + 1 : Nat) : Int) ∧ s = .int .i64 (esI B T (k - 1) j) ∧ Dr wo wr) (fun _ q _ => k + 1 - (intOf q).toNat)
      case atStart => exact ⟨0, Nat.zero_le _, rfl, rfl, Dr.refl _⟩
      case round =>
        obtain ⟨j, hj, rfl, rfl, hdr⟩ := hrel
        have e0 := esI_bd B T (k - 1) j (by omega)
        by_cases hlj : j < k
        · obtain ⟨b, off, rfl, hcell⟩ := ((H.out.mono HB.out).dr hdr).at_ (k := j + 1) (by simp; omega)
          have hc2 := (HO.out.mono (hdr.below _)).cellS (k - (j + 1)) (by omega)
          rw [lst_el _ _ _ (by omega)] at hcell
          have b1 := vI_bd (B (j + 1))
          have b2 := vI_bd (T (k - (j + 1)))
          have m1 := (mul_bd b1.1 b1.2 b2.1 b2.2).1
          have m2 := (mul_bd b1.1 b1.2 b2.1 b2.2).2
          have m3 := md_bd (vI (B (j + 1)) * vI (T (k - (j + 1))))
          have m4 := (mul_bd (a := ((j : Int) + 1)) (by omega) (by omega) m3.1 m3.2).1
          have m5 := (mul_bd (a := ((j : Int) + 1)) (by omega) (by omega) m3.1 m3.2).2
          have hx : Hid (esI B T (k - 1) j + ((j : Int) + 1) * (vI (B (j + 1)) * vI (T (k - (j + 1))) % 10007) = esI B T (k - 1) (j + 1)) := by
            simp only [Hid, esI, sumTo]; rw [vI_mul, show k - 1 - j = k - (j + 1) by omega]; simp
          have t1 : IntKind.i64.wrap (vI (B (j + 1)) * vI (T (k - (j + 1)))) = vI (B (j + 1)) * vI (T (k - (j + 1))) := IntWalk.i64_in _ (by omega)
          have t2 : IntKind.i64.wrap (((j : Int) + 1) * (vI (B (j + 1)) * vI (T (k - (j + 1))) % 10007)) = ((j : Int) + 1) * (vI (B (j + 1)) * vI (T (k - (j + 1))) % 10007) := IntWalk.i64_in _ (by omega)
          have t3 : IntKind.i64.wrap (esI B T (k - 1) j + ((j : Int) + 1) * (vI (B (j + 1)) * vI (T (k - (j + 1))) % 10007)) = esI B T (k - 1) j + ((j : Int) + 1) * (vI (B (j + 1)) * vI (T (k - (j + 1))) % 10007) := IntWalk.i64_in _ (by omega)
          have s1 : IntKind.i64.wrap ((k : Int) - ((j : Int) + 1)) = (k : Int) - ((j : Int) + 1) := IntWalk.i64_in _ (by omega)
          have s2 : 0 ≤ (k : Int) - ((j : Int) + 1) := by omega
          have s3 : ((k : Int) - ((j : Int) + 1)).toNat = k - (j + 1) := by omega
          have s4 : (k : Int) - ((j : Int) + 1) < (n : Int) := by omega
          have s5 : (j : Int) + 1 < (n : Int) := by omega
          have s6 : (0 : Int) ≤ (j : Int) + 1 := by omega
          have s7 : (j : Int) + 1 ≤ (k : Int) := by omega
          have s8 : ((j : Int) + 1).toNat = j + 1 := by omega
          have HD := hid hdr
          clear hdr
          go_wp2_with fail
          go_quiet ((first | (go_at_call 63; exact quiet_same (num_any _ _))))
          clear s1 s2 s3 s4 s6 s7 s8 t1 t2 t3
          go_wp2
          go_roundw
          case rel => exact ⟨j + 1, by omega, by go_num, by rw [← hx.out], HD.out.drewN _⟩
          case measure => simp [intOf]; omega
        · have O := HO.out.mono (hdr.below _)
          have Bl := nx HB.out (hdr.below _)
          obtain rfl : j = k := by omega
          have x1 := esI_mod B T (j - 1) j (by omega)
          have x2 := md_bd (esI B T (j - 1) j)
          have x3 := invM_bd (j : Int)
          have m1 := (mul_bd x2.1 x2.2 x3.1 x3.2).1
          have m2 := (mul_bd x2.1 x2.2 x3.1 x3.2).2
          have hx : esI B T (j - 1) j % 10007 * invM (j : Int) % 10007 = vI (PS.mul (PS.D B) T (j - 1) * fi (PS.nF j)) := by
            rw [vI_mul, vI_fi, vI_nF _ (by omega), x1, PS.mul_sm, show j - 1 + 1 = j by omega]
          obtain ⟨O2, G2⟩ := O.put j (PS.mul (PS.D B) T (j - 1) * fi (PS.nF j))
          rw [← hx] at O2 G2
          have e : (fun i => if i = j then PS.mul (PS.D B) T (j - 1) * fi (PS.nF j) else T i) = PS.expT B j := by
            obtain ⟨m, rfl⟩ : ∃ m, j = m + 1 := ⟨j - 1, by omega⟩
            rw [HT.out]; rfl
          rw [e] at O2
          have hgl := O.glt.2
          have hfk := O.free j
          have hck := O.cellS j hlt
          obtain ⟨x, hx'⟩ : ∃ x, x = Value.int .i64 (vI (T j)) := ⟨_, rfl⟩
          rw [← hx'] at hck
          have HG := hid G2
          have HO2 := hid O2
          clear hx hx' e O O2 G2 x1 hdr
          go_wp2_with (first | (go_at_call 63; refine (num_any _ _).mono ?_; rintro e w' ⟨rfl, rfl⟩) | (go_at_call 62; refine (inv_any _ _ (by omega) (by omega)).mono ?_; rintro e w' ⟨rfl, rfl⟩))
          go_roundw
          case rel => exact ⟨j + 1, by omega, by omega, by go_num, HO2.out, Bl.grown HG.out (by omega) (by simp)⟩
          case measure => simp [intOf]; omega
    · go_wp2
      go_ret
      obtain rfl : k = n := by omega
      have e : lst k (PS.expT B (k - 1)) = lst k (PS.exp B) := lst_congr (fun i hi => PS.expT_low B (k - 1) i (by omega))
      rw [e] at O
      exact ⟨_, rfl, O, Bl⟩
end Go.Proofs.Ytnjaalblgakgaaa
