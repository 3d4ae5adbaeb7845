/-
  Matrices: the walks of the tests.
-/
import Derived.Test.YtmhcpaffdchboaaNums
import Derived.Test.YtmhcpaffdchboaaRows2
namespace Go.Proofs.Ytmhcpaffdchboaa
open Go.RowKit
set_option maxRecDepth 100000
def matTo (zss : List (List Int)) : Nat → Bool
  | 0 => true
  | k + 1 => matTo zss k && (decide ((rowAt zss k).length = (rowAt zss 0).length) && (rowAt zss k).all isNum)
def isMat (zss : List (List Int)) : Bool := decide (1 ≤ zss.length ∧ zss.length ≤ 8 ∧ 1 ≤ (rowAt zss 0).length ∧ (rowAt zss 0).length ≤ 8) && matTo zss zss.length
theorem matTo_le {zss : List (List Int)} {k m : Nat} (h : matTo zss k = true) (hm : m ≤ k) : matTo zss m = true := by
  induction k with
  | zero => obtain rfl : m = 0 := by omega
            exact h
  | succ k ih =>
    rw [matTo, Bool.and_eq_true] at h
    by_cases hk : m = k + 1
    · subst hk; rw [matTo, Bool.and_eq_true]; exact h
    · exact ih h.1 (by omega)
theorem isMat_no {zss : List (List Int)} {k : Nat} (hk : k ≤ zss.length) (h : matTo zss k = false) : isMat zss = false := by
  cases e : matTo zss zss.length with
  | false => simp [isMat, e]
  | true => rw [matTo_le e hk] at h; cases h
theorem isMat_no' {zss : List (List Int)} (h : ¬ (1 ≤ zss.length ∧ zss.length ≤ 8 ∧ 1 ≤ (rowAt zss 0).length ∧ (rowAt zss 0).length ≤ 8)) : isMat zss = false := by
  rw [isMat, decide_eq_false h]; rfl
theorem isMat_yes {zss : List (List Int)} (h : isMat zss = true) : 1 ≤ zss.length ∧ zss.length ≤ 8 ∧ 1 ≤ (rowAt zss 0).length ∧ (rowAt zss 0).length ≤ 8 ∧ ∀ k, k < zss.length → (rowAt zss k).length = (rowAt zss 0).length ∧ (rowAt zss k).all isNum = true := by
  rw [isMat, Bool.and_eq_true, decide_eq_true_iff] at h
  refine ⟨h.1.1, h.1.2.1, h.1.2.2.1, h.1.2.2.2, fun k hk => ?_⟩
  have h1 := matTo_le h.2 (show k + 1 ≤ zss.length by omega)
  rw [matTo, Bool.and_eq_true, Bool.and_eq_true, decide_eq_true_iff] at h1
  exact h1.2
theorem lengthLL_any (v : Value) (zss : List (List Int)) (w : World) (h : RdII w v zss) :
    Calls Try.prog 60 #[v] w fun e w' => e = .returned (.int .i64 (zss.length : Int)) ∧ w = w' := by
  obtain ⟨ao, cap, vs, rfl, hcap, hmax, -⟩ := h
  go_enter Try.func60, Try.ntmps60
  go_wp2
  go_ret
  exact ⟨rfl, rfl⟩
theorem lengthM_any (v : Value) (zs : List Int) (w : World) (h : RdI w v zs) :
    Calls Try.prog 61 #[v] w fun e w' => e = .returned (.int .i64 (zs.length : Int)) ∧ w = w' := by
  obtain ⟨ao, cap, rfl, hcap, hmax, -⟩ := h
  go_enter Try.func61, Try.ntmps61
  go_wp2
  go_ret
  exact ⟨rfl, rfl⟩
theorem isMatrix_any (v : Value) (zss : List (List Int)) (w : World) (h : RdII w v zss) :
    Calls Try.prog 38 #[v] w fun e w' => e = .returned (.bool (isMat zss)) ∧ w = w' := by
  have H := hid h
  obtain ⟨ao, cap, vs, rfl, hcap, hmax, -⟩ := h
  cases h8 : inR (zss.length : Int) 1 8 with
  | false =>
    have H8 := hid h8
    have HR : Hid (isMat zss = false) := by simp only [Hid]; refine isMat_no' fun hh => ?_; have := inR_iff (n := (zss.length : Int)) (lo := 1) (hi := 8); rw [h8] at this; exact absurd (this.2 ⟨by omega, by omega⟩) (by simp)
    clear h8
    go_enter Try.func38, Try.ntmps38
    go_wp2_with (first
      | (go_at_call 60; refine (lengthLL_any _ zss _ H.out).mono ?_; rintro e w1 ⟨rfl, rfl⟩)
      | (go_at_call 59; refine (inRange_any (zss.length : Int) 1 8 _).mono ?_; rintro e w1 ⟨rfl, rfl⟩; rw [H8.out]))
    go_ret
    rw [HR.out]
    exact ⟨rfl, rfl⟩
  | true =>
    have H8 := hid h8
    have hr8 := inR_iff.1 h8
    have hpos : 0 < zss.length := by omega
    have hle8 : zss.length ≤ 8 := by omega
    clear h8 hr8
    go_enter Try.func38, Try.ntmps38
    go_wp2_with (first
      | (go_at_call 60; refine (lengthLL_any _ zss _ H.out).mono ?_; rintro e w1 ⟨rfl, rfl⟩)
      | (go_at_call 59; refine (inRange_any (zss.length : Int) 1 8 _).mono ?_; rintro e w1 ⟨rfl, rfl⟩; rw [H8.out]))
    go_loop [11] (fun i => ∃ k : Nat, k ≤ zss.length ∧ i = .int .i64 k ∧ Hid (matTo zss k = true) ∧ Hid (0 < k → 1 ≤ (rowAt zss 0).length ∧ (rowAt zss 0).length ≤ 8)) (fun i => zss.length - (intOf i).toNat)
    case atStart => exact ⟨0, Nat.zero_le _, rfl, rfl, fun h => absurd h (by omega)⟩
    case round =>
      obtain ⟨k, hk, rfl, HM, H0⟩ := hrel
      by_cases hlt : k < zss.length
      · obtain ⟨b, off, u, rfl, hcell, hu⟩ := H.out.at_ hlt
        obtain ⟨_, _, u0, e1, hcell0, hu0⟩ := H.out.at_ hpos
        cases e1
        rw [Nat.add_zero] at hcell0
        have HU := hid hu
        obtain ⟨aou, capu, rfl⟩ := hu.form
        obtain ⟨aou0, capu0, rfl⟩ := hu0.form
        clear hu hu0
        by_cases hl : (rowAt zss k).length = (rowAt zss 0).length
        · have hl1 : (((rowAt zss k).length : Int) != ((rowAt zss 0).length : Int)) = false := by rw [hl]; simp
          have HL := hid hl
          clear hl
          cases hr : inR ((rowAt zss k).length : Int) 1 8 with
          | false =>
            have HRR := hid hr
            have HR : Hid (isMat zss = false) := by simp only [Hid]; refine isMat_no' fun hh => ?_; have := inR_iff (n := ((rowAt zss k).length : Int)) (lo := 1) (hi := 8); rw [hr] at this; have hl := HL.out; exact absurd (this.2 ⟨by omega, by omega⟩) (by simp)
            clear hr
            go_wp2_with (first
              | (go_at_call 61; refine (lengthM_any _ (rowAt zss k) _ HU.out).mono ?_; rintro e w1 ⟨rfl, rfl⟩)
              | (go_at_call 59; refine (inRange_any ((rowAt zss k).length : Int) 1 8 _).mono ?_; rintro e w1 ⟨rfl, rfl⟩; rw [HRR.out]))
            go_ret
            rw [HR.out]
            exact ⟨rfl, rfl⟩
          | true =>
            have HRR := hid hr
            have hrr := inR_iff.1 hr
            have H0' : Hid (0 < k + 1 → 1 ≤ (rowAt zss 0).length ∧ (rowAt zss 0).length ≤ 8) := fun _ => by have := HL.out; omega
            clear hr hrr
            cases hn : (rowAt zss k).all isNum with
            | false =>
              have HNN := hid hn
              have HR : Hid (isMat zss = false) := isMat_no (show k + 1 ≤ zss.length by omega) (by rw [matTo, hn]; simp)
              clear hn
              go_wp2_with (first
                | (go_at_call 61; refine (lengthM_any _ (rowAt zss k) _ HU.out).mono ?_; rintro e w1 ⟨rfl, rfl⟩)
                | (go_at_call 59; refine (inRange_any ((rowAt zss k).length : Int) 1 8 _).mono ?_; rintro e w1 ⟨rfl, rfl⟩; rw [HRR.out])
                | (go_at_call 49; refine (areNumbers_any _ (rowAt zss k) _ HU.out).mono ?_; rintro e w1 ⟨rfl, rfl⟩; rw [HNN.out]))
              go_ret
              rw [HR.out]
              exact ⟨rfl, rfl⟩
            | true =>
              have HNN := hid hn
              have HM' : Hid (matTo zss (k + 1) = true) := by simp only [Hid]; rw [matTo, HM.out, hn, HL.out]; simp
              clear hn
              go_wp2_with (first
                | (go_at_call 61; refine (lengthM_any _ (rowAt zss k) _ HU.out).mono ?_; rintro e w1 ⟨rfl, rfl⟩)
                | (go_at_call 59; refine (inRange_any ((rowAt zss k).length : Int) 1 8 _).mono ?_; rintro e w1 ⟨rfl, rfl⟩; rw [HRR.out])
                | (go_at_call 49; refine (areNumbers_any _ (rowAt zss k) _ HU.out).mono ?_; rintro e w1 ⟨rfl, rfl⟩; rw [HNN.out]))
              go_round
              case rel => exact ⟨k + 1, by omega, by go_num, HM', H0'⟩
              case measure => simp [intOf]; omega
        · have hl1 : (((rowAt zss k).length : Int) != ((rowAt zss 0).length : Int)) = true := by simp; omega
          have HR : Hid (isMat zss = false) := isMat_no (show k + 1 ≤ zss.length by omega) (by rw [matTo, decide_eq_false hl]; simp)
          have HL := hid hl
          clear hl
          go_wp2
          go_ret
          rw [HR.out]
          exact ⟨rfl, rfl⟩
      · go_wp2
        go_ret
        obtain rfl : k = zss.length := by omega
        have hh := H0.out hpos
        have HR : isMat zss = true := by rw [isMat, HM.out, decide_eq_true ⟨by omega, by omega, hh.1, hh.2⟩]; rfl
        rw [HR]
        exact ⟨rfl, rfl⟩
def matC (zss : List (List Int)) : Int := if isMat zss = true then 0 else 1
theorem l01Matrix_any (v : Value) (zss : List (List Int)) (w : World) (h : RdII w v zss) :
    Calls Try.prog 36 #[v] w fun e w' => e = .returned (.int .i64 (matC zss)) ∧ Dr w w' := by
  have H := hid h
  obtain ⟨ao, cap, vs, rfl, hcap, hmax, -⟩ := h
  by_cases hA : zss.length < 1
  · have HR : Hid (matC zss = 1) := by simp only [Hid, matC]; rw [isMat_no' (by omega)]; rfl
    have h1 : (zss.length : Int) < 1 := by omega
    have HA := hid hA
    clear hA
    go_enter Try.func36, Try.ntmps36
    go_wp2
    go_ret
    rw [HR.out]
    exact ⟨rfl, Dr.refl _⟩
  have hpos : 0 < zss.length := by omega
  have h1 : (1 : Int) ≤ (zss.length : Int) := by omega
  clear hA
  by_cases hB : 8 < zss.length
  · have HR : Hid (matC zss = 1) := by simp only [Hid, matC]; rw [isMat_no' (by omega)]; rfl
    have h2 : (8 : Int) < (zss.length : Int) := by omega
    have HB := hid hB
    clear hB
    go_enter Try.func36, Try.ntmps36
    go_wp2
    go_ret
    rw [HR.out]
    exact ⟨rfl, Dr.refl _⟩
  have h2 : (zss.length : Int) ≤ 8 := by omega
  clear hB
  obtain ⟨b, off, u0, rfl, hcell0, hu0⟩ := H.out.at_ hpos
  rw [Nat.add_zero] at hcell0
  obtain ⟨aou0, capu0, rfl⟩ := hu0.form
  clear hu0
  by_cases hC : (rowAt zss 0).length < 1
  · have HR : Hid (matC zss = 1) := by simp only [Hid, matC]; rw [isMat_no' (by omega)]; rfl
    have h3 : ((rowAt zss 0).length : Int) < 1 := by omega
    have HC := hid hC
    clear hC
    go_enter Try.func36, Try.ntmps36
    go_wp2
    go_ret
    rw [HR.out]
    exact ⟨rfl, Dr.refl _⟩
  have h3 : (1 : Int) ≤ ((rowAt zss 0).length : Int) := by omega
  by_cases hD : 8 < (rowAt zss 0).length
  · have HR : Hid (matC zss = 1) := by simp only [Hid, matC]; rw [isMat_no' (by omega)]; rfl
    have h4 : (8 : Int) < ((rowAt zss 0).length : Int) := by omega
    have HD := hid hD
    clear hD hC
    go_enter Try.func36, Try.ntmps36
    go_wp2
    go_ret
    rw [HR.out]
    exact ⟨rfl, Dr.refl _⟩
  have h4 : ((rowAt zss 0).length : Int) ≤ 8 := by omega
  have H00 : Hid (1 ≤ zss.length ∧ zss.length ≤ 8 ∧ 1 ≤ (rowAt zss 0).length ∧ (rowAt zss 0).length ≤ 8) := ⟨by omega, by omega, by omega, by omega⟩
  clear hC hD
  go_enter Try.func36, Try.ntmps36
  go_wp2
  go_loopw [3] (fun i wr => ∃ k : Nat, k ≤ zss.length ∧ i = .int .i64 k ∧ Hid (matTo zss k = true) ∧ Hid (Dr w wr)) (fun i _ => zss.length - (intOf i).toNat)
  case atStart => exact ⟨0, Nat.zero_le _, rfl, rfl, Dr.refl _⟩
  case round =>
    obtain ⟨k, hk, rfl, HM, HD⟩ := hrel
    have HW := hid (H.out.mono (HD.out.below w.heap.size))
    by_cases hlt : k < zss.length
    · obtain ⟨_, _, u, e1, hcell, hu⟩ := HW.out.at_ hlt
      cases e1
      obtain ⟨_, _, u00, e2, hcell00, hu00⟩ := HW.out.at_ hpos
      cases e2
      rw [Nat.add_zero] at hcell00
      obtain ⟨aou00, capu00, rfl⟩ := hu00.form
      have HU := hid hu
      obtain ⟨aou, capu, rfl⟩ := hu.form
      clear hu hu00
      by_cases hl : (rowAt zss k).length = (rowAt zss 0).length
      · have hl1 : (((rowAt zss k).length : Int) != ((rowAt zss 0).length : Int)) = false := by rw [hl]; simp
        have HL := hid hl
        clear hl
        cases hn : (rowAt zss k).all isNum with
        | false =>
          have HNN := hid hn
          have HR : Hid (matC zss = 1) := by simp only [Hid, matC]; rw [isMat_no (show k + 1 ≤ zss.length by omega) (by rw [matTo, hn]; simp)]; rfl
          clear hn
          go_wp2_with fail
          go_quiet ((go_at_call 45; exact quiet_same ((l01Numbers_any _ (rowAt zss k) _ (HU.out.mono (below_drewN (Below.refl _ _) _))).mono fun _ _ ⟨h, d⟩ => ⟨h.trans (congrArg (fun b => Ending.returned (.bool b)) HNN.out), d⟩)))
          go_wp2
          go_ret
          rw [HR.out]
          exact ⟨rfl, HD.out.drewN _⟩
        | true =>
          have HNN := hid hn
          have HM' : Hid (matTo zss (k + 1) = true) := by simp only [Hid]; rw [matTo, HM.out, hn, HL.out]; simp
          clear hn
          go_wp2_with fail
          go_quiet ((go_at_call 45; exact quiet_same ((l01Numbers_any _ (rowAt zss k) _ (HU.out.mono (below_drewN (Below.refl _ _) _))).mono fun _ _ ⟨h, d⟩ => ⟨h.trans (congrArg (fun b => Ending.returned (.bool b)) HNN.out), d⟩)))
          go_wp2
          go_roundw
          case rel => exact ⟨k + 1, by omega, by go_num, HM', HD.out.drewN _⟩
          case measure => simp [intOf]; omega
      · have hl1 : (((rowAt zss k).length : Int) != ((rowAt zss 0).length : Int)) = true := by simp; omega
        have HR : Hid (matC zss = 1) := by simp only [Hid, matC]; rw [isMat_no (show k + 1 ≤ zss.length by omega) (by rw [matTo, decide_eq_false hl]; simp)]; rfl
        have HL := hid hl
        clear hl
        go_wp2_with fail
        go_quiet (fail)
        go_wp2
        go_ret
        rw [HR.out]
        exact ⟨rfl, HD.out.drewN _⟩
    · go_wp2
      go_ret
      obtain rfl : k = zss.length := by omega
      have HR : matC zss = 0 := by rw [matC, isMat, HM.out, decide_eq_true H00.out]; rfl
      rw [HR]
      exact ⟨rfl, HD.out⟩
end Go.Proofs.Ytmhcpaffdchboaa
