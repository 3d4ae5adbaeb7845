/-
  The walks of the exported functions on numbers.
-/
import Derived.Test.YtnjaalblgakgaaaNums
import Derived.Deep.QuietTactic
import Derived.BigQuiet
namespace Go.Proofs.Ytnjaalblgakgaaa
open Go.RowKit
theorem l01Two_any (a b : Int) (w : World) :
    Calls Try.prog 91 #[.int .i64 a, .int .i64 b] w fun e w' => e = .returned (.int .i64 (codeOf (two a b))) ∧ w = w' := by
  cases ha : isNum a with
  | true =>
    cases hb : isNum b with
    | true =>
      have H : Hid (two a b = true) := by simp [Hid, two, ha, hb]
      have HA := hid ha
      have HB := hid hb
      clear ha hb
      go_enter Try.func91, Try.ntmps91
      go_wp2_with fail
      refine (sIsNumber_any _ _).mono ?_; rintro e w' ⟨rfl, rfl⟩; rw [HA.out]
      go_wp2_with fail
      refine (sIsNumber_any _ _).mono ?_; rintro e w' ⟨rfl, rfl⟩; rw [HB.out]
      go_wp2
      go_ret
      exact ⟨by rw [H.out]; rfl, rfl⟩
    | false =>
      have H : Hid (two a b = false) := by simp [Hid, two, ha, hb]
      have HA := hid ha
      have HB := hid hb
      clear ha hb
      go_enter Try.func91, Try.ntmps91
      go_wp2_with fail
      refine (sIsNumber_any _ _).mono ?_; rintro e w' ⟨rfl, rfl⟩; rw [HA.out]
      go_wp2_with fail
      refine (sIsNumber_any _ _).mono ?_; rintro e w' ⟨rfl, rfl⟩; rw [HB.out]
      go_wp2
      go_ret
      exact ⟨by rw [H.out]; rfl, rfl⟩
  | false =>
    have H : Hid (two a b = false) := by simp [Hid, two, ha]
    have HA := hid ha
    clear ha
    go_enter Try.func91, Try.ntmps91
    go_wp2_with fail
    refine (sIsNumber_any _ _).mono ?_; rintro e w' ⟨rfl, rfl⟩; rw [HA.out]
    go_wp2
    go_ret
    exact ⟨by rw [H.out]; rfl, rfl⟩
theorem addNumbers_any (a b : Int) (w : World) :
    Calls Try.prog 54 #[.int .i64 a, .int .i64 b] w fun e w' => e = .returned (.tuple #[.int .i64 (okR (two a b) ((a + b) % 10007)).1, .int .i64 (okR (two a b) ((a + b) % 10007)).2]) ∧ Below w.heap.size w w' := by
  have hr := RdI_lit2 w a b 2
  cases h2 : two a b with
  | true =>
    obtain ⟨ha, hb⟩ : isNum a = true ∧ isNum b = true := by simpa [two] using h2
    have na := isNum_yes ha
    have nb := isNum_yes hb
    have HA : Hid ([a, b].all isNum = true) := by simp [Hid, ha, hb]
    clear ha hb h2
    go_enter Try.func54, Try.ntmps54
    go_wp2_with (first | (go_at_call 90; refine (areNumbers_any _ [a, b] _ hr).mono ?_; rintro e w' ⟨rfl, rfl⟩; rw [HA.out]) | (go_at_call 63; refine (num_any _ _).mono ?_; rintro e w' ⟨rfl, rfl⟩))
    go_ret2
    exact ⟨by simp [okR], below_alloc _ _⟩
  | false =>
    have HA : Hid ([a, b].all isNum = false) := by simp [Hid]; simpa [two] using h2
    clear h2
    go_enter Try.func54, Try.ntmps54
    go_wp2_with (first | (go_at_call 90; refine (areNumbers_any _ [a, b] _ hr).mono ?_; rintro e w' ⟨rfl, rfl⟩; rw [HA.out]))
    go_ret2
    exact ⟨by simp [okR], below_alloc _ _⟩
theorem subtractNumbers_any (a b : Int) (w : World) :
    Calls Try.prog 55 #[.int .i64 a, .int .i64 b] w fun e w' => e = .returned (.tuple #[.int .i64 (okR (two a b) ((a - b) % 10007)).1, .int .i64 (okR (two a b) ((a - b) % 10007)).2]) ∧ Below w.heap.size w w' := by
  have hr := RdI_lit2 w a b 2
  cases h2 : two a b with
  | true =>
    obtain ⟨ha, hb⟩ : isNum a = true ∧ isNum b = true := by simpa [two] using h2
    have na := isNum_yes ha
    have nb := isNum_yes hb
    have HA : Hid ([a, b].all isNum = true) := by simp [Hid, ha, hb]
    clear ha hb h2
    go_enter Try.func55, Try.ntmps55
    go_wp2_with (first | (go_at_call 90; refine (areNumbers_any _ [a, b] _ hr).mono ?_; rintro e w' ⟨rfl, rfl⟩; rw [HA.out]) | (go_at_call 63; refine (num_any _ _).mono ?_; rintro e w' ⟨rfl, rfl⟩))
    go_ret2
    exact ⟨by simp [okR], below_alloc _ _⟩
  | false =>
    have HA : Hid ([a, b].all isNum = false) := by simp [Hid]; simpa [two] using h2
    clear h2
    go_enter Try.func55, Try.ntmps55
    go_wp2_with (first | (go_at_call 90; refine (areNumbers_any _ [a, b] _ hr).mono ?_; rintro e w' ⟨rfl, rfl⟩; rw [HA.out]))
    go_ret2
    exact ⟨by simp [okR], below_alloc _ _⟩
theorem multiplyNumbers_any (a b : Int) (w : World) :
    Calls Try.prog 53 #[.int .i64 a, .int .i64 b] w fun e w' => e = .returned (.tuple #[.int .i64 (okR (two a b) ((a * b) % 10007)).1, .int .i64 (okR (two a b) ((a * b) % 10007)).2]) ∧ Below w.heap.size w w' := by
  have hr := RdI_lit2 w a b 2
  cases h2 : two a b with
  | true =>
    obtain ⟨ha, hb⟩ : isNum a = true ∧ isNum b = true := by simpa [two] using h2
    have na := isNum_yes ha
    have nb := isNum_yes hb
    have m1 := (mul_bd (isNum_yes ha).1 (isNum_yes ha).2 (isNum_yes hb).1 (isNum_yes hb).2).1
    have m2 := (mul_bd (isNum_yes ha).1 (isNum_yes ha).2 (isNum_yes hb).1 (isNum_yes hb).2).2
    have HA : Hid ([a, b].all isNum = true) := by simp [Hid, ha, hb]
    clear ha hb h2
    go_enter Try.func53, Try.ntmps53
    go_wp2_with (first | (go_at_call 90; refine (areNumbers_any _ [a, b] _ hr).mono ?_; rintro e w' ⟨rfl, rfl⟩; rw [HA.out]) | (go_at_call 63; refine (num_any _ _).mono ?_; rintro e w' ⟨rfl, rfl⟩))
    go_ret2
    exact ⟨by simp [okR], below_alloc _ _⟩
  | false =>
    have HA : Hid ([a, b].all isNum = false) := by simp [Hid]; simpa [two] using h2
    clear h2
    go_enter Try.func53, Try.ntmps53
    go_wp2_with (first | (go_at_call 90; refine (areNumbers_any _ [a, b] _ hr).mono ?_; rintro e w' ⟨rfl, rfl⟩; rw [HA.out]))
    go_ret2
    exact ⟨by simp [okR], below_alloc _ _⟩
end Go.Proofs.Ytnjaalblgakgaaa
