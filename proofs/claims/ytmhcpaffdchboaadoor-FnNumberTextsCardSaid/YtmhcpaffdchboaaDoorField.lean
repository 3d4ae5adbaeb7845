/-
  The walks of the functions on numbers: range, remainder, sums and products.
-/
import Derived.Test.YtmhcpaffdchboaaDoorRows
import Derived.Test.YtmhcpaffdchboaaDoorPlain
import Derived.Test.YtmhcpaffdchboaaDoorMem
import Derived.Outline

namespace Go.Proofs.YtmhcpaffdchboaaDoor
open Go.RowKit


theorem inRange_any (n lo hi : Int) (w : World) :
    Calls Tryd.prog 30 #[.int .i64 n, .int .i64 lo, .int .i64 hi] w fun e w' => e = .returned (.bool (inR n lo hi)) ∧ w = w' := by
  go_enter Tryd.func30, Tryd.ntmps30
  go_wp2
  · have h : lo ≤ n := by assumption
    go_ret; exact ⟨ret_bool (by simp [inR, h]), rfl⟩
  · have h : n < lo := by assumption
    go_ret; exact ⟨ret_bool (by simp [inR]; omega), rfl⟩
theorem l01In_any (n lo hi : Int) (w : World) :
    Calls Tryd.prog 33 #[.int .i64 n, .int .i64 lo, .int .i64 hi] w fun e w' => e = .returned (.bool (inR n lo hi)) ∧ w = w' := by
  go_enter Tryd.func33, Tryd.ntmps33
  go_wp2
  · have h : lo ≤ n := by assumption
    go_ret; exact ⟨ret_bool (by simp [inR, h]), rfl⟩
  · have h : n < lo := by assumption
    go_ret; exact ⟨ret_bool (by simp [inR]; omega), rfl⟩
theorem num_any (n : Int) (w : World) :
    Calls Tryd.prog 31 #[.int .i64 n] w fun e w' => e = .returned (.int .i64 (n % 10007)) ∧ w = w' := by
  have h1 := (tmod_bd n).1
  have h2 := (tmod_bd n).2
  go_enter Tryd.func31, Tryd.ntmps31
  go_wp2
  go_ret
  exact ⟨ret_int (by rw [← md_eq n, Int.tmod_eq_emod_of_nonneg (by omega : 0 ≤ n.tmod 10007 + 10007)]), rfl⟩
theorem l01Mod_any (n : Int) (w : World) :
    Calls Tryd.prog 34 #[.int .i64 n] w fun e w' => e = .returned (.int .i64 (n % 10007)) ∧ w = w' := by
  have h1 := (tmod_bd n).1
  have h2 := (tmod_bd n).2
  go_enter Tryd.func34, Tryd.ntmps34
  go_wp2
  go_ret
  exact ⟨ret_int (by rw [← md_eq n, Int.tmod_eq_emod_of_nonneg (by omega : 0 ≤ n.tmod 10007 + 10007)]), rfl⟩
theorem isNumber_any (a : Int) (w : World) :
    Calls Tryd.prog 18 #[.int .i64 a] w fun e w' => e = .returned (.bool (isNum a)) ∧ w = w' := by
  go_enter Tryd.func18, Tryd.ntmps18
  go_wp2_with (go_at_call 30; refine (inRange_any _ _ _ _).mono ?_; rintro e w' ⟨rfl, rfl⟩)
  go_ret
  exact ⟨rfl, rfl⟩
theorem sIsNumber_any (a : Int) (w : World) :
    Calls Tryd.prog 16 #[.int .i64 a] w fun e w' => e = .returned (.bool (isNum a)) ∧ w = w' := by
  go_enter Tryd.func16, Tryd.ntmps16
  go_wp2_with (go_at_call 33; refine (l01In_any _ _ _ _).mono ?_; rintro e w' ⟨rfl, rfl⟩)
  go_ret
  exact ⟨rfl, rfl⟩
theorem l01Mul_any (a b : Int) (w : World) (ha : 0 ≤ a) (ha' : a ≤ 10006) (hb : 0 ≤ b) (hb' : b ≤ 10006) :
    Calls Tryd.prog 39 #[.int .i64 a, .int .i64 b] w fun e w' => e = .returned (.int .i64 ((a * b) % 10007)) ∧ w = w' := by
  have h1 := (mul_bd ha ha' hb hb').1
  have h2 := (mul_bd ha ha' hb hb').2
  go_enter Tryd.func39, Tryd.ntmps39
  go_wp2_with (go_at_call 34; refine (l01Mod_any _ _).mono ?_; rintro e w' ⟨rfl, rfl⟩)
  go_ret
  exact ⟨rfl, rfl⟩
theorem pow_any (a k : Int) (w : World) (ha : 0 ≤ a) (ha' : a ≤ 10006) (hk : 0 ≤ k) (hk' : k ≤ 1000000000) :
    Calls Tryd.prog 45 #[.int .i64 a, .int .i64 k] w fun e w' => e = .returned (.int .i64 (powM a k.toNat)) ∧ w = w' := by
  go_enter Tryd.func45, Tryd.ntmps45
  go_wp2
  go_loop [0, 1, 5] (fun b m o => ∃ B M O : Int, b = .int .i64 B ∧ m = .int .i64 M ∧ o = .int .i64 O ∧ 0 ≤ B ∧ B ≤ 10006 ∧ 0 ≤ M ∧ M ≤ 1000000000 ∧ 0 ≤ O ∧ O ≤ 10006 ∧ O * B ^ M.toNat % 10007 = a ^ k.toNat % 10007)
    (fun _ m _ => (intOf m).toNat)
  case atStart => exact ⟨a, k, 1, rfl, rfl, rfl, ha, ha', hk, hk', by omega, by omega, by rw [Int.one_mul]⟩
  case round =>
    obtain ⟨B, M, O, rfl, rfl, rfl, hB, hB', hM, hM', hO, hO', hrel⟩ := hrel
    have HR := hid hrel
    clear hrel
    have b1 := (mul_bd hB hB' hB hB').1
    have b2 := (mul_bd hB hB' hB hB').2
    have b3 := (mul_bd hO hO' hB hB').1
    have b4 := (mul_bd hO hO' hB hB').2
    have m1 := md_bd (B * B)
    have m2 := md_bd (O * B)
    by_cases hz : M = 0
    · have H0 := hid hz
      have hz' : M ≤ 0 := by omega
      clear hz
      go_wp2
      go_ret
      exact ⟨ret_int (by have h := HR.out; rw [H0.out] at h; unfold powM; rw [← h]; simp; omega), rfl⟩
    · have hp : 0 < M := by omega
      clear hz
      by_cases hodd : M % 2 = 1
      · have hb : (M % 2 == 1) = true := by simpa using hodd
        have hr := pow_odd O B M.toNat (by omega)
        have H2 := hid hr
        clear hr hodd
        go_wp2_with (go_at_call 31; refine (num_any _ _).mono ?_; rintro e w' ⟨rfl, rfl⟩)
        go_round
        case rel => exact ⟨_, _, _, rfl, rfl, rfl, m1.1, m1.2, by omega, by omega, m2.1, m2.2, by rw [show (M / 2).toNat = M.toNat / 2 by omega, H2.out]; exact HR.out⟩
        case measure => simp [intOf]; omega
      · have hb : (M % 2 == 1) = false := by simpa using hodd
        have hr := pow_even O B M.toNat (by omega)
        have H2 := hid hr
        clear hr hodd
        go_wp2_with (go_at_call 31; refine (num_any _ _).mono ?_; rintro e w' ⟨rfl, rfl⟩)
        go_round
        case rel => exact ⟨_, _, _, rfl, rfl, rfl, m1.1, m1.2, by omega, by omega, hO, hO', by rw [show (M / 2).toNat = M.toNat / 2 by omega, H2.out]; exact HR.out⟩
        case measure => simp [intOf]; omega
theorem l01Pow_any (a k : Int) (w : World) (ha : 0 ≤ a) (ha' : a ≤ 10006) (hk : 0 ≤ k) (hk' : k ≤ 1000000000) :
    Calls Tryd.prog 47 #[.int .i64 a, .int .i64 k] w fun e w' => e = .returned (.int .i64 (powM a k.toNat)) ∧ w = w' := by
  go_enter Tryd.func47, Tryd.ntmps47
  go_wp2
  go_loop [0, 1, 5] (fun b m o => ∃ B M O : Int, b = .int .i64 B ∧ m = .int .i64 M ∧ o = .int .i64 O ∧ 0 ≤ B ∧ B ≤ 10006 ∧ 0 ≤ M ∧ M ≤ 1000000000 ∧ 0 ≤ O ∧ O ≤ 10006 ∧ O * B ^ M.toNat % 10007 = a ^ k.toNat % 10007)
    (fun _ m _ => (intOf m).toNat)
  case atStart => exact ⟨a, k, 1, rfl, rfl, rfl, ha, ha', hk, hk', by omega, by omega, by rw [Int.one_mul]⟩
  case round =>
    obtain ⟨B, M, O, rfl, rfl, rfl, hB, hB', hM, hM', hO, hO', hrel⟩ := hrel
    have HR := hid hrel
    clear hrel
    have b1 := (mul_bd hB hB' hB hB').1
    have b2 := (mul_bd hB hB' hB hB').2
    have b3 := (mul_bd hO hO' hB hB').1
    have b4 := (mul_bd hO hO' hB hB').2
    have m1 := md_bd (B * B)
    have m2 := md_bd (O * B)
    by_cases hz : M = 0
    · have H0 := hid hz
      have hz' : M ≤ 0 := by omega
      clear hz
      go_wp2
      go_ret
      exact ⟨ret_int (by have h := HR.out; rw [H0.out] at h; unfold powM; rw [← h]; simp; omega), rfl⟩
    · have hp : 0 < M := by omega
      clear hz
      by_cases hodd : M % 2 = 1
      · have hb : (M % 2 == 1) = true := by simpa using hodd
        have hr := pow_odd O B M.toNat (by omega)
        have H2 := hid hr
        clear hr hodd
        go_wp2_with (go_at_call 39; refine (l01Mul_any _ _ _ (by omega) (by omega) (by omega) (by omega)).mono ?_; rintro e w' ⟨rfl, rfl⟩)
        go_round
        case rel => exact ⟨_, _, _, rfl, rfl, rfl, m1.1, m1.2, by omega, by omega, m2.1, m2.2, by rw [show (M / 2).toNat = M.toNat / 2 by omega, H2.out]; exact HR.out⟩
        case measure => simp [intOf]; omega
      · have hb : (M % 2 == 1) = false := by simpa using hodd
        have hr := pow_even O B M.toNat (by omega)
        have H2 := hid hr
        clear hr hodd
        go_wp2_with (go_at_call 39; refine (l01Mul_any _ _ _ (by omega) (by omega) (by omega) (by omega)).mono ?_; rintro e w' ⟨rfl, rfl⟩)
        go_round
        case rel => exact ⟨_, _, _, rfl, rfl, rfl, m1.1, m1.2, by omega, by omega, hO, hO', by rw [show (M / 2).toNat = M.toNat / 2 by omega, H2.out]; exact HR.out⟩
        case measure => simp [intOf]; omega
theorem inv_any (a : Int) (w : World) (ha : 0 ≤ a) (ha' : a ≤ 10006) :
    Calls Tryd.prog 32 #[.int .i64 a] w fun e w' => e = .returned (.int .i64 (invM a)) ∧ w = w' := by
  go_enter Tryd.func32, Tryd.ntmps32
  go_wp2_with (go_at_call 45; refine (pow_any _ _ _ (by omega) (by omega) (by omega) (by omega)).mono ?_; rintro e w' ⟨rfl, rfl⟩)
  go_ret
  exact ⟨ret_int (by unfold invM; rfl), rfl⟩
theorem l01Inv_any (a : Int) (w : World) (ha : 0 ≤ a) (ha' : a ≤ 10006) :
    Calls Tryd.prog 40 #[.int .i64 a] w fun e w' => e = .returned (.int .i64 (invM a)) ∧ w = w' := by
  go_enter Tryd.func40, Tryd.ntmps40
  go_wp2_with (go_at_call 47; refine (l01Pow_any _ _ _ (by omega) (by omega) (by omega) (by omega)).mono ?_; rintro e w' ⟨rfl, rfl⟩)
  go_ret
  exact ⟨ret_int (by unfold invM; rfl), rfl⟩
end Go.Proofs.YtmhcpaffdchboaaDoor
