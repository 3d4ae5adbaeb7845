/-
  The walks of the functions on lists of numbers.
-/
import Derived.Test.YtmhcpaffdchboaaField
import Derived.Test.YtmhcpaffdchboaaMem
namespace Go.Proofs.Ytmhcpaffdchboaa
open Go.RowKit
theorem areNumbers1_any (a : Int) (w : World) :
    Calls Try.prog 74 #[.int .i64 a] w fun e w' => e = .returned (.bool (!isNum a)) ∧ w = w' := by
  go_enter Try.func74, Try.ntmps74
  go_wp2_with (go_at_call 75; refine (isNumber_any _ _).mono ?_; rintro e w' ⟨rfl, rfl⟩)
  go_ret
  exact ⟨rfl, rfl⟩
/-- The index of the first element that is no number, or -1. -/
theorem indexFunc_yes (v : Value) (zs : List Int) (w : World) (h : RdI w v zs) (hall : zs.all isNum = true) :
    Calls Try.prog 88 #[v, .func (.func 74) #[] #[]] w fun e w' => e = .returned (.int .i64 (-1)) ∧ w = w' := by
  obtain ⟨ao, cap, rfl, hcap, hmax, hc⟩ := h
  go_enter Try.func88, Try.ntmps88
  go_wp2
  go_loop [8] (fun i => ∃ k : Nat, k ≤ zs.length ∧ i = .int .i64 k) (fun i => zs.length - (intOf i).toNat)
  case atStart => exact ⟨0, Nat.zero_le _, rfl⟩
  case round =>
    obtain ⟨k, hk, rfl⟩ := hrel
    by_cases hlt : k < zs.length
    · obtain ⟨b, off, rfl, hcell⟩ := hc k hlt
      have hn : isNum (el zs k) = true := all_at hall hlt
      clear hc hall
      go_wp2_with (go_at_call 74; refine (areNumbers1_any _ _).mono ?_; rintro e w' ⟨rfl, rfl⟩)
      go_round
      case rel => exact ⟨k + 1, by omega, by go_num⟩
      case measure => simp [intOf]; omega
    · clear hc
      go_wp2
      go_ret
      exact ⟨rfl, rfl⟩
theorem indexFunc_no (v : Value) (zs : List Int) (w : World) (h : RdI w v zs) (hall : zs.all isNum = false) :
    Calls Try.prog 88 #[v, .func (.func 74) #[] #[]] w fun e w' => ∃ k : Nat, e = .returned (.int .i64 k) ∧ w = w' := by
  obtain ⟨ao, cap, rfl, hcap, hmax, hc⟩ := h
  go_enter Try.func88, Try.ntmps88
  go_wp2
  go_loop [8] (fun i => ∃ k : Nat, k ≤ zs.length ∧ i = .int .i64 k ∧ (zs.take k).all isNum = true) (fun i => zs.length - (intOf i).toNat)
  case atStart => exact ⟨0, Nat.zero_le _, rfl, rfl⟩
  case round =>
    obtain ⟨k, hk, rfl, htk⟩ := hrel
    by_cases hlt : k < zs.length
    · obtain ⟨b, off, rfl, hcell⟩ := hc k hlt
      have HT := hid htk
      have HA := hid hall
      clear hc hall htk
      cases hn : isNum (el zs k) with
      | true =>
        go_wp2_with (go_at_call 74; refine (areNumbers1_any _ _).mono ?_; rintro e w' ⟨rfl, rfl⟩)
        go_round
        case rel => exact ⟨k + 1, by omega, by go_num, by rw [take_all_succ _ _ _ hlt, HT.out, hn]; rfl⟩
        case measure => simp [intOf]; omega
      | false =>
        go_wp2_with (go_at_call 74; refine (areNumbers1_any _ _).mono ?_; rintro e w' ⟨rfl, rfl⟩)
        go_ret
        exact ⟨k, rfl, rfl⟩
    · rw [List.take_of_length_le (by omega), hall] at htk
      cases htk
theorem containsFunc_any (v : Value) (zs : List Int) (w : World) (h : RdI w v zs) :
    Calls Try.prog 73 #[v, .func (.func 74) #[] #[]] w fun e w' => e = .returned (.bool (!zs.all isNum)) ∧ w = w' := by
  cases hall : zs.all isNum with
  | true =>
    have HA := hid hall
    clear hall
    go_enter Try.func73, Try.ntmps73
    go_wp2_with (go_at_call 88; refine (indexFunc_yes _ zs _ h HA.out).mono ?_; rintro e w' ⟨rfl, rfl⟩)
    go_ret
    exact ⟨rfl, rfl⟩
  | false =>
    have HA := hid hall
    clear hall
    go_enter Try.func73, Try.ntmps73
    go_wp2_with (go_at_call 88; refine (indexFunc_no _ zs _ h HA.out).mono ?_; rintro e w' ⟨k, rfl, rfl⟩)
    go_ret
    exact ⟨ret_bool (by simp), rfl⟩
/-- Are all elements numbers? -/
theorem areNumbers_any (v : Value) (zs : List Int) (w : World) (h : RdI w v zs) :
    Calls Try.prog 49 #[v] w fun e w' => e = .returned (.bool (zs.all isNum)) ∧ w = w' := by
  go_enter Try.func49, Try.ntmps49
  go_wp2_with (go_at_call 73; refine (containsFunc_any _ zs _ h).mono ?_; rintro e w' ⟨rfl, rfl⟩)
  go_ret
  exact ⟨ret_bool (by simp), rfl⟩
theorem l01Numbers_any (v : Value) (zs : List Int) (w : World) (h : RdI w v zs) :
    Calls Try.prog 45 #[v] w fun e w' => e = .returned (.bool (zs.all isNum)) ∧ w = w' := by
  obtain ⟨ao, cap, rfl, hcap, hmax, hc⟩ := h
  go_enter Try.func45, Try.ntmps45
  go_wp2
  go_loop [3] (fun i => ∃ k : Nat, k ≤ zs.length ∧ i = .int .i64 k ∧ (zs.take k).all isNum = true) (fun i => zs.length - (intOf i).toNat)
  case atStart => exact ⟨0, Nat.zero_le _, rfl, rfl⟩
  case round =>
    obtain ⟨k, hk, rfl, htk⟩ := hrel
    have HT := hid htk
    clear htk
    by_cases hlt : k < zs.length
    · obtain ⟨b, off, rfl, hcell⟩ := hc k hlt
      clear hc
      cases hn : isNum (el zs k) with
      | true =>
        go_wp2_with (go_at_call 72; refine (sIsNumber_any _ _).mono ?_; rintro e w' ⟨rfl, rfl⟩)
        go_round
        case rel => exact ⟨k + 1, by omega, by go_num, by rw [take_all_succ _ _ _ hlt, HT.out, hn]; rfl⟩
        case measure => simp [intOf]; omega
      | false =>
        go_wp2_with (go_at_call 72; refine (sIsNumber_any _ _).mono ?_; rintro e w' ⟨rfl, rfl⟩)
        go_ret
        exact ⟨ret_bool (by rw [all_false_at hlt hn]), rfl⟩
    · clear hc
      go_wp2
      go_ret
      exact ⟨ret_bool (by have h := HT.out; rw [List.take_of_length_le (by omega)] at h; rw [h]), rfl⟩
end Go.Proofs.Ytmhcpaffdchboaa
