/-
  The walks of the exponential function's series.
-/
import Derived.Test.YtpfbcchjeamjoaaSerExpE
namespace Go.Proofs.Ytpfbcchjeamjoaa
open Go.RowKit
def expToR (n : Int) : List Int × Int := if inR n 0 15 = true then (lst (n.toNat + 1) (PS.exp PS.X), 0) else ([], 2)
theorem X_unit (m : Nat) : lst m (fun i => if (i : Int) = 1 then (1 : F) else 0) = lst m PS.X := by
  apply lst_congr; intro i _
  simp only [PS.X]
  by_cases h : i = 1
  · rw [if_pos h, if_pos (by omega)]
  · rw [if_neg h, if_neg (by omega)]
theorem sExponentialTo_any (n : Int) (w : World) :
    Calls Try.prog 33 #[.int .i64 n] w fun e w' => ∃ r, e = .returned (.tuple #[r, .int .i64 (expToR n).2]) ∧ OwnI w.heap.size w' r (expToR n).1 ∧ Below w.heap.size w w' := by
  cases hr : inR n 0 15 with
  | true =>
    have hn := inR_iff.1 hr
    obtain ⟨m, rfl⟩ := Int.eq_ofNat_of_zero_le hn.1
    have HR : Hid (expToR (m : Int) = (lst (m + 1) (PS.exp PS.X), 0)) := by simp [Hid, expToR, hr]
    have HI := hid hr
    clear hr
    go_enter Try.func33, Try.ntmps33
    go_wp2_with fail
    refine (l01In_any _ _ _ _).mono ?_; rintro e w' ⟨rfl, rfl⟩; rw [HI.out]
    go_wp2_with fail
    rw [show ((m : Int) + 1) = ((m + 1 : Nat) : Int) by omega]
    refine (l02Unit_any (m + 1) 1 _ (by omega) (by omega) (by omega) (by omega)).mono ?_; rintro e w1 ⟨r1, rfl, O1, B1⟩
    rw [X_unit] at O1
    go_wp2_with fail
    refine (l02Exp_any (m + 1) PS.X _ _ O1.rd (by omega) (by omega)).mono ?_; rintro e w2 ⟨r, rfl, O, B⟩
    go_wp2
    go_ret2
    rw [HR.out]
    have e : lst (m + 1) (PS.expS (m + 1) PS.X) = lst (m + 1) (PS.exp PS.X) := lst_congr (fun i hi => PS.expS_eq rfl (by omega) i hi)
    rw [e] at O
    exact ⟨_, rfl, O.lower B1.size, nx B1 B⟩
  | false =>
    have HR : Hid (expToR n = ([], 2)) := by simp [Hid, expToR, hr]
    have HI := hid hr
    clear hr
    go_enter Try.func33, Try.ntmps33
    go_wp2_with fail
    refine (l01In_any _ _ _ _).mono ?_; rintro e w' ⟨rfl, rfl⟩; rw [HI.out]
    go_wp2
    go_ret2
    rw [HR.out]
    exact ⟨_, rfl, OwnI.nil _ _, Below.refl _ _⟩
theorem exponentialTo_any (n : Int) (w : World) :
    Calls Try.prog 34 #[.int .i64 n] w fun e w' => ∃ r, e = .returned (.tuple #[r, .int .i64 (expToR n).2]) ∧ OwnI w.heap.size w' r (expToR n).1 ∧ Below w.heap.size w w' := by
  cases hr : inR n 0 15 with
  | true =>
    have hn := inR_iff.1 hr
    obtain ⟨m, rfl⟩ := Int.eq_ofNat_of_zero_le hn.1
    have HR : Hid (expToR (m : Int) = (lst (m + 1) (PS.exp PS.X), 0)) := by simp [Hid, expToR, hr]
    have HI := hid hr
    clear hr
    obtain ⟨i0, hi, hz0, hz1, hz2⟩ := info_parts info_i64
    go_enter Try.func34, Try.ntmps34
    go_wp2_with fail
    refine (inRange_any _ _ _ _).mono ?_; rintro e w' ⟨rfl, rfl⟩; rw [HI.out]
    go_wp2_with (at_make; refine wpList_make_full _ rfl _ _ _ rfl w.heap.size 2 i0 _ 1 Try.underlying22 hi hz0 hz1 _ _ _ _ (m + 1) rfl rfl (by omega) (by omega) ?c1 ?c2 ?c3 ?_)
    case c1 => rw [hz2]; omega
    case c2 => unfold maxLen; omega
    case c3 => exact Nat.le_refl _
    intro w1 hown hgrow
    have hg := hgrow.size
    have O1 := OwnI.zeros hown (by omega)
    have B1 : Below w.heap.size w w1 := (Below.refl _ _).grown hgrow (Nat.le_refl _) (by simp)
    by_cases h0 : m = 0
    · have e1 : lst (m + 1) (fun _ => (0 : F)) = lst (m + 1) PS.X := by
        apply lst_congr; intro i hi
        simp only [PS.X]; rw [if_neg (by omega)]
      rw [e1] at O1
      have h0' : (m : Int) ≤ 0 := by omega
      clear hown hgrow hz2 hz1 hz0 hi e1 h0
      go_wp2_with fail
      refine (expSeries_any (m + 1) PS.X _ _ O1.rd (by omega) (by omega)).mono ?_; rintro e w2 ⟨r, rfl, O, B⟩
      go_wp2
      go_ret2
      rw [HR.out]
      exact ⟨_, rfl, O.lower B1.size, nx B1 B⟩
    · obtain ⟨O2, G2⟩ := O1.put 1 1
      rw [vI_one] at O2 G2
      rw [show (fun i => if i = 1 then 1 else 0 : PS) = PS.X from rfl] at O2
      have hgl := O1.glt.2
      have hfk := O1.free 1
      have hck := O1.cellS 1 (by omega)
      rw [vI_zero] at hck
      have h0' : 0 < (m : Int) := by omega
      have HO := hid O2
      have HB := hid (B1.grown G2 (by omega) (by simp))
      clear hown hgrow hz2 hz1 hz0 hi h0 O1 O2 G2
      go_wp2_with fail
      refine (expSeries_any (m + 1) PS.X _ _ HO.out.rd (by omega) (by omega)).mono ?_; rintro e w2 ⟨r, rfl, O, B⟩
      go_wp2
      go_ret2
      rw [HR.out]
      exact ⟨_, rfl, O.lower HB.out.size, nx HB.out B⟩
  | false =>
    have HR : Hid (expToR n = ([], 2)) := by simp [Hid, expToR, hr]
    have HI := hid hr
    clear hr
    go_enter Try.func34, Try.ntmps34
    go_wp2_with fail
    refine (inRange_any _ _ _ _).mono ?_; rintro e w' ⟨rfl, rfl⟩; rw [HI.out]
    go_wp2
    go_ret2
    rw [HR.out]
    exact ⟨_, rfl, OwnI.nil _ _, Below.refl _ _⟩
end Go.Proofs.Ytpfbcchjeamjoaa
