/-
  The walks of powers and roots.
-/
import Derived.Test.YtnjaalblgakgaaaNumFns
import Derived.Test.YtnjaalblgakgaaaRoots
namespace Go.Proofs.Ytnjaalblgakgaaa
open Go.RowKit
set_option maxRecDepth 100000 in
theorem l01Root_any (a k : Int) (w : World) (hk : 0 ≤ k) (hk' : k ≤ 1000000000) :
    Calls Try.prog 87 #[.int .i64 a, .int .i64 k] w fun e w' => e = .returned (.int .i64 (rootI a k.toNat)) ∧ w = w' := by
  go_enter Try.func87, Try.ntmps87
  go_wp2
  go_loop [5] (fun i => ∃ m : Nat, m ≤ 10007 ∧ i = .int .i64 m ∧ ∀ j, j < m → isRoot a k.toNat j = false) (fun i => 10007 - (intOf i).toNat)
  case atStart => exact ⟨0, Nat.zero_le _, rfl, fun j hj => by omega⟩
  case round =>
    obtain ⟨m, hm, rfl, hno⟩ := hrel
    have HN := hid hno
    clear hno
    by_cases hlt : m < 10007
    · by_cases he : powM (m : Int) k.toNat = a
      · have HE := hid he
        have hb : (powM (m : Int) k.toNat == a) = true := by simp [he]
        clear he
        go_wp2_with (go_at_call 94; refine (l01Pow_any _ _ _ (by omega) (by omega) (by omega) (by omega)).mono ?_; rintro e w' ⟨rfl, rfl⟩)
        go_ret
        exact ⟨ret_int (rootI_hit rfl hlt (by unfold isRoot; rw [decide_eq_true_iff]; exact HE.out) HN.out), rfl⟩
      · have HE := hid he
        have hb : (powM (m : Int) k.toNat == a) = false := by simp [he]
        clear he
        go_wp2_with (go_at_call 94; refine (l01Pow_any _ _ _ (by omega) (by omega) (by omega) (by omega)).mono ?_; rintro e w' ⟨rfl, rfl⟩)
        go_round
        case rel =>
          refine ⟨m + 1, by omega, by go_num, fun j hj => ?_⟩
          by_cases hjm : j = m
          · subst hjm; unfold isRoot; rw [decide_eq_false_iff_not]; exact HE.out
          · exact HN.out j (by omega)
        case measure => simp [intOf]; omega
    · go_wp2
      go_ret
      obtain rfl : m = 10007 := by omega
      exact ⟨ret_int (rootI_none HN.out).symm, rfl⟩
theorem sSquareRoot_any (a : Int) (w : World) :
    Calls Try.prog 44 #[.int .i64 a] w fun e w' => e = .returned (.tuple #[.int .i64 (sqrtR a).1, .int .i64 (sqrtR a).2]) ∧ w = w' := by
  cases hn : isNum a with
  | true =>
    have HN := hid hn
    clear hn
    by_cases hr : rootI a 2 < 0
    · have HR := hid hr
      go_enter Try.func44, Try.ntmps44
      go_wp2_with (first | (go_at_call 51; refine (sIsNumber_any _ _).mono ?_; rintro e w' ⟨rfl, rfl⟩; rw [HN.out]) | (go_at_call 87; refine (l01Root_any _ 2 _ (by omega) (by omega)).mono ?_; rintro e w' ⟨rfl, rfl⟩; rw [show (2 : Int).toNat = 2 from rfl]))
      go_ret2
      exact ⟨by rw [sqrtR, if_pos HN.out, if_pos HR.out]; rfl, rfl⟩
    · have HR := hid hr
      have hr' : 0 ≤ rootI a 2 := by omega
      clear hr
      go_enter Try.func44, Try.ntmps44
      go_wp2_with (first | (go_at_call 51; refine (sIsNumber_any _ _).mono ?_; rintro e w' ⟨rfl, rfl⟩; rw [HN.out]) | (go_at_call 87; refine (l01Root_any _ 2 _ (by omega) (by omega)).mono ?_; rintro e w' ⟨rfl, rfl⟩; rw [show (2 : Int).toNat = 2 from rfl]))
      go_ret2
      exact ⟨by rw [sqrtR, if_pos HN.out, if_neg (by have := HR.out; omega)]; rfl, rfl⟩
  | false =>
    have HN := hid hn
    clear hn
    go_enter Try.func44, Try.ntmps44
    go_wp2_with (go_at_call 51; refine (sIsNumber_any _ _).mono ?_; rintro e w' ⟨rfl, rfl⟩; rw [HN.out])
    go_ret2
    exact ⟨by rw [sqrtR, HN.out]; rfl, rfl⟩
theorem squareRoot_any (a : Int) (w : World) :
    Calls Try.prog 43 #[.int .i64 a] w fun e w' => e = .returned (.tuple #[.int .i64 (sqrtR a).1, .int .i64 (sqrtR a).2]) ∧ w = w' := by
  cases hn : isNum a with
  | true =>
    have HN := hid hn
    clear hn
    go_enter Try.func43, Try.ntmps43
    go_wp2_with (go_at_call 50; refine (isNumber_any _ _).mono ?_; rintro e w' ⟨rfl, rfl⟩; rw [HN.out])
    go_loop [4] (fun i => ∃ m : Nat, m ≤ 5004 ∧ i = .int .i64 m ∧ ∀ j : Nat, j < m → (j : Int) * j % 10007 ≠ a) (fun i => 5004 - (intOf i).toNat)
    case atStart => exact ⟨0, Nat.zero_le _, rfl, fun j hj => by omega⟩
    case round =>
      obtain ⟨m, hm, rfl, hno⟩ := hrel
      have HQ := hid hno
      clear hno
      by_cases hlt : m < 5004
      · have m1 := (mul_bd (a := m) (b := m) (by omega) (by omega) (by omega) (by omega)).1
        have m2 := (mul_bd (a := m) (b := m) (by omega) (by omega) (by omega) (by omega)).2
        by_cases he : (m : Int) * m % 10007 = a
        · have HE := hid he
          have hb : ((m : Int) * m % 10007 == a) = true := by simp [he]
          clear he
          go_wp2_with (go_at_call 63; refine (num_any _ _).mono ?_; rintro e w' ⟨rfl, rfl⟩)
          go_ret2
          have hr : (m : Int) = rootI a 2 := rootI_hit rfl (by omega) (by unfold isRoot; rw [decide_eq_true_iff, powM_two]; exact HE.out) (fun j hj => by unfold isRoot; rw [decide_eq_false_iff_not, powM_two]; exact HQ.out j hj)
          exact ⟨by rw [sqrtR, if_pos HN.out, ← hr, if_neg (by omega)]; rfl, rfl⟩
        · have HE := hid he
          have hb : ((m : Int) * m % 10007 == a) = false := by simp [he]
          clear he
          go_wp2_with (go_at_call 63; refine (num_any _ _).mono ?_; rintro e w' ⟨rfl, rfl⟩)
          go_round
          case rel =>
            refine ⟨m + 1, by omega, by go_num, fun j hj => ?_⟩
            by_cases hjm : j = m
            · subst hjm; exact HE.out
            · exact HQ.out j (by omega)
          case measure => simp [intOf]; omega
      · go_wp2
        go_ret2
        have hr : rootI a 2 = -1 := rootI_none (fun j hj => sq_half a (fun i hi => HQ.out i (by omega)) j hj)
        exact ⟨by rw [sqrtR, if_pos HN.out, hr, if_pos (by omega)]; rfl, rfl⟩
  | false =>
    have HN := hid hn
    clear hn
    go_enter Try.func43, Try.ntmps43
    go_wp2_with (go_at_call 50; refine (isNumber_any _ _).mono ?_; rintro e w' ⟨rfl, rfl⟩; rw [HN.out])
    go_ret2
    exact ⟨by rw [sqrtR, HN.out]; rfl, rfl⟩
theorem isK_three : isK 3 = true := by rfl
theorem isK_five : isK 5 = true := by rfl
theorem isK_no {k : Int} (h3 : ¬ k = 3) (h5 : ¬ k = 5) : isK k = false := by simp [isK, h3, h5]
set_option maxRecDepth 100000 in
theorem rootNumber3_any (a : Int) (w : World) (hn : isNum a = true) :
    Calls Try.prog 46 #[.int .i64 a, .int .i64 3] w fun e w' => e = .returned (.tuple #[.int .i64 (rootR a 3).1, .int .i64 (rootR a 3).2]) ∧ w = w' := by
  have HN := hid hn
  have na := isNum_yes hn
  clear hn
  go_enter Try.func46, Try.ntmps46
  go_wp2_with (go_at_call 50; refine (isNumber_any _ _).mono ?_; rintro e w' ⟨rfl, rfl⟩; rw [HN.out])
  go_loop [6] (fun i => ∃ m : Int, 1 ≤ m ∧ m ≤ 6671 ∧ i = .int .i64 m) (fun i => (6671 - intOf i).toNat)
  case atStart => exact ⟨1, by omega, by omega, rfl⟩
  case round =>
    obtain ⟨m, h1, h2, rfl⟩ := hrel
    by_cases he : m = 6671
    · subst he
      go_wp2_with (go_at_call 89; refine (pow_any _ _ _ (by omega) (by omega) (by omega) (by omega)).mono ?_; rintro e w' ⟨rfl, rfl⟩)
      go_ret2
      exact ⟨by rw [rootR, if_pos ⟨HN.out, by rfl⟩, show (3 : Int).toNat = 3 from rfl, root_eq HN.out 3 6671 2 (by omega)]; rfl, rfl⟩
    · have hb : (m * 3 % 10006 != 1) = true := by rw [bne_iff_ne]; omega
      have hm : m < 6671 := by omega
      clear he
      go_wp2
      go_round
      case rel => exact ⟨m + 1, by omega, by omega, rfl⟩
      case measure => simp [intOf]; omega
set_option maxRecDepth 100000 in
theorem rootNumber5_any (a : Int) (w : World) (hn : isNum a = true) :
    Calls Try.prog 46 #[.int .i64 a, .int .i64 5] w fun e w' => e = .returned (.tuple #[.int .i64 (rootR a 5).1, .int .i64 (rootR a 5).2]) ∧ w = w' := by
  have HN := hid hn
  have na := isNum_yes hn
  clear hn
  go_enter Try.func46, Try.ntmps46
  go_wp2_with (go_at_call 50; refine (isNumber_any _ _).mono ?_; rintro e w' ⟨rfl, rfl⟩; rw [HN.out])
  go_loop [6] (fun i => ∃ m : Int, 1 ≤ m ∧ m ≤ 8005 ∧ i = .int .i64 m) (fun i => (8005 - intOf i).toNat)
  case atStart => exact ⟨1, by omega, by omega, rfl⟩
  case round =>
    obtain ⟨m, h1, h2, rfl⟩ := hrel
    by_cases he : m = 8005
    · subst he
      go_wp2_with (go_at_call 89; refine (pow_any _ _ _ (by omega) (by omega) (by omega) (by omega)).mono ?_; rintro e w' ⟨rfl, rfl⟩)
      go_ret2
      exact ⟨by rw [rootR, if_pos ⟨HN.out, by rfl⟩, show (5 : Int).toNat = 5 from rfl, root_eq HN.out 5 8005 4 (by omega)]; rfl, rfl⟩
    · have hb : (m * 5 % 10006 != 1) = true := by rw [bne_iff_ne]; omega
      have hm : m < 8005 := by omega
      clear he
      go_wp2
      go_round
      case rel => exact ⟨m + 1, by omega, by omega, rfl⟩
      case measure => simp [intOf]; omega
theorem rootNumber_any (a k : Int) (w : World) :
    Calls Try.prog 46 #[.int .i64 a, .int .i64 k] w fun e w' => e = .returned (.tuple #[.int .i64 (rootR a k).1, .int .i64 (rootR a k).2]) ∧ w = w' := by
  cases hn : isNum a with
  | true =>
    by_cases h3 : k = 3
    · subst h3; exact rootNumber3_any a w hn
    · by_cases h5 : k = 5
      · subst h5; exact rootNumber5_any a w hn
      · have hk := isK_no h3 h5
        have HK := hid hk
        have HN := hid hn
        have b3 : (k != 3) = true := by simpa using h3
        have b5 : (k != 5) = true := by simpa using h5
        clear hk h3 h5 hn
        go_enter Try.func46, Try.ntmps46
        go_wp2_with (first | (go_at_call 50; refine (isNumber_any _ _).mono ?_; rintro e w' ⟨rfl, rfl⟩; rw [HN.out]))
        go_ret2
        exact ⟨by rw [rootR, HK.out, if_neg (by simp)]; rfl, rfl⟩
  | false =>
    have HN := hid hn
    clear hn
    go_enter Try.func46, Try.ntmps46
    go_wp2_with (go_at_call 50; refine (isNumber_any _ _).mono ?_; rintro e w' ⟨rfl, rfl⟩; rw [HN.out])
    go_ret2
    exact ⟨by rw [rootR, HN.out, if_neg (by simp)]; rfl, rfl⟩
/-- The power with an exponent of any sign. -/
def powerR (a k : Int) : Int × Int :=
  if isNum a = true ∧ inR k (-1000000000) 1000000000 = true then (if 0 ≤ k then (powM a k.toNat, 0) else if a = 0 then (0, 5) else (powM (invM a) (-k).toNat, 0)) else (0, 2)
theorem powerNumber_any (a k : Int) (w : World) :
    Calls Try.prog 45 #[.int .i64 a, .int .i64 k] w fun e w' => e = .returned (.tuple #[.int .i64 (powerR a k).1, .int .i64 (powerR a k).2]) ∧ w = w' := by
  cases hn : isNum a with
  | true =>
    cases hk : inR k (-1000000000) 1000000000 with
    | true =>
      have HN := hid hn
      have na := isNum_yes hn
      have ia := invM_bd a
      have nk := inR_iff.1 hk
      have HK := hid hk
      clear hn hk
      by_cases h0 : 0 ≤ k
      · by_cases hz : a = 0
        · subst hz
          go_enter Try.func45, Try.ntmps45
          go_wp2_with (first | (go_at_call 50; refine (isNumber_any _ _).mono ?_; rintro e w' ⟨rfl, rfl⟩; rw [HN.out]) | (go_at_call 88; refine (inRange_any _ _ _ _).mono ?_; rintro e w' ⟨rfl, rfl⟩; rw [HK.out]) | (go_at_call 89; refine (pow_any _ _ _ (by omega) (by omega) (by omega) (by omega)).mono ?_; rintro e w' ⟨rfl, rfl⟩))
          go_ret2
          exact ⟨by rw [powerR, if_pos ⟨HN.out, HK.out⟩, if_pos h0]; rfl, rfl⟩
        · have hz' : 0 < a := by omega
          clear hz
          go_enter Try.func45, Try.ntmps45
          go_wp2_with (first | (go_at_call 50; refine (isNumber_any _ _).mono ?_; rintro e w' ⟨rfl, rfl⟩; rw [HN.out]) | (go_at_call 88; refine (inRange_any _ _ _ _).mono ?_; rintro e w' ⟨rfl, rfl⟩; rw [HK.out]) | (go_at_call 89; refine (pow_any _ _ _ (by omega) (by omega) (by omega) (by omega)).mono ?_; rintro e w' ⟨rfl, rfl⟩))
          go_ret2
          exact ⟨by rw [powerR, if_pos ⟨HN.out, HK.out⟩, if_pos h0]; rfl, rfl⟩
      · have h0' : k < 0 := by omega
        clear h0
        by_cases hz : a = 0
        · subst hz
          go_enter Try.func45, Try.ntmps45
          go_wp2_with (first | (go_at_call 50; refine (isNumber_any _ _).mono ?_; rintro e w' ⟨rfl, rfl⟩; rw [HN.out]) | (go_at_call 88; refine (inRange_any _ _ _ _).mono ?_; rintro e w' ⟨rfl, rfl⟩; rw [HK.out]))
          go_ret2
          exact ⟨by rw [powerR, if_pos ⟨HN.out, HK.out⟩, if_neg (by omega), if_pos rfl]; rfl, rfl⟩
        · have hz' : 0 < a := by omega
          have HZ := hid hz
          clear hz
          go_enter Try.func45, Try.ntmps45
          go_wp2_with (first | (go_at_call 50; refine (isNumber_any _ _).mono ?_; rintro e w' ⟨rfl, rfl⟩; rw [HN.out]) | (go_at_call 88; refine (inRange_any _ _ _ _).mono ?_; rintro e w' ⟨rfl, rfl⟩; rw [HK.out]) | (go_at_call 62; refine (inv_any _ _ (by omega) (by omega)).mono ?_; rintro e w' ⟨rfl, rfl⟩) | (go_at_call 89; refine (pow_any _ _ _ (by omega) (by omega) (by omega) (by omega)).mono ?_; rintro e w' ⟨rfl, rfl⟩))
          go_ret2
          exact ⟨by rw [powerR, if_pos ⟨HN.out, HK.out⟩, if_neg (by omega), if_neg (by omega)]; rfl, rfl⟩
    | false =>
      have HN := hid hn
      have HK := hid hk
      clear hn hk
      go_enter Try.func45, Try.ntmps45
      go_wp2_with (first | (go_at_call 50; refine (isNumber_any _ _).mono ?_; rintro e w' ⟨rfl, rfl⟩; rw [HN.out]) | (go_at_call 88; refine (inRange_any _ _ _ _).mono ?_; rintro e w' ⟨rfl, rfl⟩; rw [HK.out]))
      go_ret2
      exact ⟨by rw [powerR, HK.out, if_neg (by simp)]; rfl, rfl⟩
  | false =>
    have HN := hid hn
    clear hn
    go_enter Try.func45, Try.ntmps45
    go_wp2_with (go_at_call 50; refine (isNumber_any _ _).mono ?_; rintro e w' ⟨rfl, rfl⟩; rw [HN.out])
    go_ret2
    exact ⟨by rw [powerR, HN.out, if_neg (by simp)]; rfl, rfl⟩
end Go.Proofs.Ytnjaalblgakgaaa
