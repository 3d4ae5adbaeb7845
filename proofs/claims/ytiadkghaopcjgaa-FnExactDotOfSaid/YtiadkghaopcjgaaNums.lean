/-
  The walks of the functions on lists of numbers.
-/
import Derived.Test.YtiadkghaopcjgaaField
import Derived.Test.YtiadkghaopcjgaaMem
namespace Go.Proofs.Ytiadkghaopcjgaa
open Go.RowKit
theorem areNumbers1_any (a : Int) (w : World) :
    Calls Try.prog 58 #[.int .i64 a] w fun e w' => e = .returned (.bool (!isNum a)) ∧ w = w' := by
  go_enter Try.func58, Try.ntmps58
  go_wp2_with (go_at_call 16; refine (isNumber_any _ _).mono ?_; rintro e w' ⟨rfl, rfl⟩)
  go_ret
  exact ⟨rfl, rfl⟩
/-- The index of the first element that is no number, or -1. -/
theorem indexFunc_yes (v : Value) (zs : List Int) (w : World) (h : RdI w v zs) (hall : zs.all isNum = true) :
    Calls Try.prog 59 #[v, .func (.func 58) #[] #[]] w fun e w' => e = .returned (.int .i64 (-1)) ∧ w = w' := by
  obtain ⟨ao, cap, rfl, hcap, hmax, hc⟩ := h
  go_enter Try.func59, Try.ntmps59
  go_wp2
  go_loop [8] (fun i => ∃ k : Nat, k ≤ zs.length ∧ i = .int .i64 k) (fun i => zs.length - (intOf i).toNat)
  case atStart => exact ⟨0, Nat.zero_le _, rfl⟩
  case round =>
    obtain ⟨k, hk, rfl⟩ := hrel
    by_cases hlt : k < zs.length
    · obtain ⟨b, off, rfl, hcell⟩ := hc k hlt
      have hn : isNum (el zs k) = true := all_at hall hlt
      clear hc hall
      go_wp2_with (go_at_call 58; refine (areNumbers1_any _ _).mono ?_; rintro e w' ⟨rfl, rfl⟩)
      go_round
      case rel => exact ⟨k + 1, by omega, by go_num⟩
      case measure => simp [intOf]; omega
    · clear hc
      go_wp2
      go_ret
      exact ⟨rfl, rfl⟩
theorem indexFunc_no (v : Value) (zs : List Int) (w : World) (h : RdI w v zs) (hall : zs.all isNum = false) :
    Calls Try.prog 59 #[v, .func (.func 58) #[] #[]] w fun e w' => ∃ k : Nat, e = .returned (.int .i64 k) ∧ w = w' := by
  obtain ⟨ao, cap, rfl, hcap, hmax, hc⟩ := h
  go_enter Try.func59, Try.ntmps59
  go_wp2
  go_loop [8] (fun i => ∃ k : Nat, k ≤ zs.length ∧ i = .int .i64 k ∧ (zs.take k).all isNum = true) (fun i => zs.length - (intOf i).toNat)
  case atStart => exact ⟨0, Nat.zero_le _, rfl, rfl⟩
  case round =>
    obtain ⟨k, hk, rfl, htk⟩ := hrel
    by_cases hlt : k < zs.length
    · obtain ⟨b, off, rfl, hcell⟩ := hc k hlt
      have HT := hid htk
      have HA := hid hall
      clear hc hall htk
      cases hn : isNum (el zs k) with
      | true =>
        go_wp2_with (go_at_call 58; refine (areNumbers1_any _ _).mono ?_; rintro e w' ⟨rfl, rfl⟩)
        go_round
        case rel => exact ⟨k + 1, by omega, by go_num, by rw [take_all_succ _ _ _ hlt, HT.out, hn]; rfl⟩
        case measure => simp [intOf]; omega
      | false =>
        go_wp2_with (go_at_call 58; refine (areNumbers1_any _ _).mono ?_; rintro e w' ⟨rfl, rfl⟩)
        go_ret
        exact ⟨k, rfl, rfl⟩
    · rw [List.take_of_length_le (by omega), hall] at htk
      cases htk
theorem containsFunc_any (v : Value) (zs : List Int) (w : World) (h : RdI w v zs) :
    Calls Try.prog 57 #[v, .func (.func 58) #[] #[]] w fun e w' => e = .returned (.bool (!zs.all isNum)) ∧ w = w' := by
  cases hall : zs.all isNum with
  | true =>
    have HA := hid hall
    clear hall
    go_enter Try.func57, Try.ntmps57
    go_wp2_with (go_at_call 59; refine (indexFunc_yes _ zs _ h HA.out).mono ?_; rintro e w' ⟨rfl, rfl⟩)
    go_ret
    exact ⟨rfl, rfl⟩
  | false =>
    have HA := hid hall
    clear hall
    go_enter Try.func57, Try.ntmps57
    go_wp2_with (go_at_call 59; refine (indexFunc_no _ zs _ h HA.out).mono ?_; rintro e w' ⟨k, rfl, rfl⟩)
    go_ret
    exact ⟨ret_bool (by simp), rfl⟩
/-- Are all elements numbers? -/
theorem areNumbers_any (v : Value) (zs : List Int) (w : World) (h : RdI w v zs) :
    Calls Try.prog 43 #[v] w fun e w' => e = .returned (.bool (zs.all isNum)) ∧ w = w' := by
  go_enter Try.func43, Try.ntmps43
  go_wp2_with (go_at_call 57; refine (containsFunc_any _ zs _ h).mono ?_; rintro e w' ⟨rfl, rfl⟩)
  go_ret
  exact ⟨ret_bool (by simp), rfl⟩
theorem l01Numbers_any (v : Value) (zs : List Int) (w : World) (h : RdI w v zs) :
    Calls Try.prog 53 #[v] w fun e w' => e = .returned (.bool (zs.all isNum)) ∧ w = w' := by
  obtain ⟨ao, cap, rfl, hcap, hmax, hc⟩ := h
  go_enter Try.func53, Try.ntmps53
  go_wp2
  go_loop [3] (fun i => ∃ k : Nat, k ≤ zs.length ∧ i = .int .i64 k ∧ (zs.take k).all isNum = true) (fun i => zs.length - (intOf i).toNat)
  case atStart => exact ⟨0, Nat.zero_le _, rfl, rfl⟩
  case round =>
    obtain ⟨k, hk, rfl, htk⟩ := hrel
    have HT := hid htk
    clear htk
    by_cases hlt : k < zs.length
    · obtain ⟨b, off, rfl, hcell⟩ := hc k hlt
      clear hc
      cases hn : isNum (el zs k) with
      | true =>
        go_wp2_with (go_at_call 15; refine (sIsNumber_any _ _).mono ?_; rintro e w' ⟨rfl, rfl⟩)
        go_round
        case rel => exact ⟨k + 1, by omega, by go_num, by rw [take_all_succ _ _ _ hlt, HT.out, hn]; rfl⟩
        case measure => simp [intOf]; omega
      | false =>
        go_wp2_with (go_at_call 15; refine (sIsNumber_any _ _).mono ?_; rintro e w' ⟨rfl, rfl⟩)
        go_ret
        exact ⟨ret_bool (by rw [all_false_at hlt hn]), rfl⟩
    · clear hc
      go_wp2
      go_ret
      exact ⟨ret_bool (by have h := HT.out; rw [List.take_of_length_le (by omega)] at h; rw [h]), rfl⟩
/-- What SumOf returns. -/
def sumOfR (zs : List Int) : Int × Int := if zs.length ≤ 64 ∧ zs.all isNum = true then (sumL zs zs.length % 10007, 0) else (0, 2)
theorem sSumOf_any (v : Value) (zs : List Int) (w : World) (h : RdI w v zs) :
    Calls Try.prog 33 #[v] w fun e w' => e = .returned (.tuple #[.int .i64 (sumOfR zs).1, .int .i64 (sumOfR zs).2]) ∧ w = w' := by
  have h0 := h
  obtain ⟨ao, cap, rfl, hcap, hmax, hc⟩ := h
  by_cases hl : zs.length ≤ 64
  · cases hn : zs.all isNum with
    | true =>
      have HN := hid hn
      have HC := hid hc
      have H0 := hid h0
      clear hn hc h0
      go_enter Try.func33, Try.ntmps33
      go_wp2_with (go_at_call 53; refine (l01Numbers_any _ zs _ H0.out).mono ?_; rintro e w' ⟨rfl, rfl⟩; rw [HN.out])
      go_loop [4, 5] (fun s i => ∃ k : Nat, k ≤ zs.length ∧ i = .int .i64 k ∧ s = .int .i64 (sumL zs k % 10007)) (fun _ i => zs.length - (intOf i).toNat)
      case atStart => exact ⟨0, Nat.zero_le _, rfl, rfl⟩
      case round =>
        obtain ⟨k, hk, rfl, rfl⟩ := hrel
        have b := md_bd (sumL zs k)
        by_cases hlt : k < zs.length
        · obtain ⟨b, off, rfl, hcell⟩ := HC.out k hlt
          have hz := Nums.at HN.out k
          go_wp2_with (go_at_call 42; refine (l01Add_any _ _ _ (by omega) (by omega) (by omega) (by omega)).mono ?_; rintro e w' ⟨rfl, rfl⟩)
          go_round
          case rel => exact ⟨k + 1, by omega, by go_num, rfl⟩
          case measure => simp [intOf]; omega
        · go_wp2
          go_ret2
          obtain rfl : k = zs.length := by omega
          exact ⟨by simp [sumOfR, hl, HN.out], rfl⟩
    | false =>
      have HN := hid hn
      have H0 := hid h0
      clear hn hc h0
      go_enter Try.func33, Try.ntmps33
      go_wp2_with (go_at_call 53; refine (l01Numbers_any _ zs _ H0.out).mono ?_; rintro e w' ⟨rfl, rfl⟩; rw [HN.out])
      go_ret2
      exact ⟨by simp [sumOfR, HN.out], rfl⟩
  · clear hc h0
    go_enter Try.func33, Try.ntmps33
    go_wp2
    go_ret2
    exact ⟨by simp [sumOfR, hl], rfl⟩
end Go.Proofs.Ytiadkghaopcjgaa
