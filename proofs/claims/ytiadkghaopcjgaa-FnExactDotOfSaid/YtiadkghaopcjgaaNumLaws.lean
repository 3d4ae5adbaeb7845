/-
  The walks of the exported functions on numbers.
-/
import Derived.Test.YtiadkghaopcjgaaNums
import Derived.Deep.QuietTactic
import Derived.BigQuiet
namespace Go.Proofs.Ytiadkghaopcjgaa
open Go.RowKit
theorem l01Two_any (a b : Int) (w : World) :
    Calls Try.prog 41 #[.int .i64 a, .int .i64 b] w fun e w' => e = .returned (.int .i64 (codeOf (two a b))) ∧ w = w' := by
  cases ha : isNum a with
  | true =>
    cases hb : isNum b with
    | true =>
      have H : Hid (two a b = true) := by simp [Hid, two, ha, hb]
      have HA := hid ha
      have HB := hid hb
      clear ha hb
      go_enter Try.func41, Try.ntmps41
      go_wp2_with fail
      refine (sIsNumber_any _ _).mono ?_; rintro e w' ⟨rfl, rfl⟩; rw [HA.out]
      go_wp2_with fail
      refine (sIsNumber_any _ _).mono ?_; rintro e w' ⟨rfl, rfl⟩; rw [HB.out]
      go_wp2
      go_ret
      exact ⟨by rw [H.out]; rfl, rfl⟩
    | false =>
      have H : Hid (two a b = false) := by simp [Hid, two, ha, hb]
      have HA := hid ha
      have HB := hid hb
      clear ha hb
      go_enter Try.func41, Try.ntmps41
      go_wp2_with fail
      refine (sIsNumber_any _ _).mono ?_; rintro e w' ⟨rfl, rfl⟩; rw [HA.out]
      go_wp2_with fail
      refine (sIsNumber_any _ _).mono ?_; rintro e w' ⟨rfl, rfl⟩; rw [HB.out]
      go_wp2
      go_ret
      exact ⟨by rw [H.out]; rfl, rfl⟩
  | false =>
    have H : Hid (two a b = false) := by simp [Hid, two, ha]
    have HA := hid ha
    clear ha
    go_enter Try.func41, Try.ntmps41
    go_wp2_with fail
    refine (sIsNumber_any _ _).mono ?_; rintro e w' ⟨rfl, rfl⟩; rw [HA.out]
    go_wp2
    go_ret
    exact ⟨by rw [H.out]; rfl, rfl⟩
theorem addNumbers_any (a b : Int) (w : World) :
    Calls Try.prog 18 #[.int .i64 a, .int .i64 b] w fun e w' => e = .returned (.tuple #[.int .i64 (okR (two a b) ((a + b) % 10007)).1, .int .i64 (okR (two a b) ((a + b) % 10007)).2]) ∧ Below w.heap.size w w' := by
  have hr := RdI_lit2 w a b 2
  cases h2 : two a b with
  | true =>
    obtain ⟨ha, hb⟩ : isNum a = true ∧ isNum b = true := by simpa [two] using h2
    have na := isNum_yes ha
    have nb := isNum_yes hb
    have HA : Hid ([a, b].all isNum = true) := by simp [Hid, ha, hb]
    clear ha hb h2
    go_enter Try.func18, Try.ntmps18
    go_wp2_with (first | (go_at_call 43; refine (areNumbers_any _ [a, b] _ hr).mono ?_; rintro e w' ⟨rfl, rfl⟩; rw [HA.out]) | (go_at_call 44; refine (num_any _ _).mono ?_; rintro e w' ⟨rfl, rfl⟩))
    go_ret2
    exact ⟨by simp [okR], below_alloc _ _⟩
  | false =>
    have HA : Hid ([a, b].all isNum = false) := by simp [Hid]; simpa [two] using h2
    clear h2
    go_enter Try.func18, Try.ntmps18
    go_wp2_with (first | (go_at_call 43; refine (areNumbers_any _ [a, b] _ hr).mono ?_; rintro e w' ⟨rfl, rfl⟩; rw [HA.out]))
    go_ret2
    exact ⟨by simp [okR], below_alloc _ _⟩
theorem sAddNumbers_any (a b : Int) (w : World) :
    Calls Try.prog 17 #[.int .i64 a, .int .i64 b] w fun e w' => e = .returned (.tuple #[.int .i64 (okR (two a b) ((a + b) % 10007)).1, .int .i64 (okR (two a b) ((a + b) % 10007)).2]) ∧ w = w' := by
  cases h2 : two a b with
  | true =>
    obtain ⟨ha, hb⟩ : isNum a = true ∧ isNum b = true := by simpa [two] using h2
    have na := isNum_yes ha
    have nb := isNum_yes hb
    have H2 := hid h2
    clear ha hb h2
    go_enter Try.func17, Try.ntmps17
    go_wp2_with (first | (go_at_call 41; refine (l01Two_any _ _ _).mono ?_; rintro e w' ⟨rfl, rfl⟩; rw [H2.out]; simp only [codeOf]) | (go_at_call 42; refine (l01Add_any _ _ _ (by omega) (by omega) (by omega) (by omega)).mono ?_; rintro e w' ⟨rfl, rfl⟩))
    go_ret2
    exact ⟨by simp [okR], rfl⟩
  | false =>
    have H2 := hid h2
    clear h2
    go_enter Try.func17, Try.ntmps17
    go_wp2_with (first | (go_at_call 41; refine (l01Two_any _ _ _).mono ?_; rintro e w' ⟨rfl, rfl⟩; rw [H2.out]; simp only [codeOf]))
    go_ret2
    exact ⟨by simp [okR], rfl⟩
theorem subtractNumbers_any (a b : Int) (w : World) :
    Calls Try.prog 22 #[.int .i64 a, .int .i64 b] w fun e w' => e = .returned (.tuple #[.int .i64 (okR (two a b) ((a - b) % 10007)).1, .int .i64 (okR (two a b) ((a - b) % 10007)).2]) ∧ Below w.heap.size w w' := by
  have hr := RdI_lit2 w a b 2
  cases h2 : two a b with
  | true =>
    obtain ⟨ha, hb⟩ : isNum a = true ∧ isNum b = true := by simpa [two] using h2
    have na := isNum_yes ha
    have nb := isNum_yes hb
    have HA : Hid ([a, b].all isNum = true) := by simp [Hid, ha, hb]
    clear ha hb h2
    go_enter Try.func22, Try.ntmps22
    go_wp2_with (first | (go_at_call 43; refine (areNumbers_any _ [a, b] _ hr).mono ?_; rintro e w' ⟨rfl, rfl⟩; rw [HA.out]) | (go_at_call 44; refine (num_any _ _).mono ?_; rintro e w' ⟨rfl, rfl⟩))
    go_ret2
    exact ⟨by simp [okR], below_alloc _ _⟩
  | false =>
    have HA : Hid ([a, b].all isNum = false) := by simp [Hid]; simpa [two] using h2
    clear h2
    go_enter Try.func22, Try.ntmps22
    go_wp2_with (first | (go_at_call 43; refine (areNumbers_any _ [a, b] _ hr).mono ?_; rintro e w' ⟨rfl, rfl⟩; rw [HA.out]))
    go_ret2
    exact ⟨by simp [okR], below_alloc _ _⟩
theorem sSubtractNumbers_any (a b : Int) (w : World) :
    Calls Try.prog 21 #[.int .i64 a, .int .i64 b] w fun e w' => e = .returned (.tuple #[.int .i64 (okR (two a b) ((a - b) % 10007)).1, .int .i64 (okR (two a b) ((a - b) % 10007)).2]) ∧ w = w' := by
  cases h2 : two a b with
  | true =>
    obtain ⟨ha, hb⟩ : isNum a = true ∧ isNum b = true := by simpa [two] using h2
    have na := isNum_yes ha
    have nb := isNum_yes hb
    have H2 := hid h2
    clear ha hb h2
    go_enter Try.func21, Try.ntmps21
    go_wp2_with (first | (go_at_call 41; refine (l01Two_any _ _ _).mono ?_; rintro e w' ⟨rfl, rfl⟩; rw [H2.out]; simp only [codeOf]) | (go_at_call 46; refine (l01Sub_any _ _ _ (by omega) (by omega) (by omega) (by omega)).mono ?_; rintro e w' ⟨rfl, rfl⟩))
    go_ret2
    exact ⟨by simp [okR], rfl⟩
  | false =>
    have H2 := hid h2
    clear h2
    go_enter Try.func21, Try.ntmps21
    go_wp2_with (first | (go_at_call 41; refine (l01Two_any _ _ _).mono ?_; rintro e w' ⟨rfl, rfl⟩; rw [H2.out]; simp only [codeOf]))
    go_ret2
    exact ⟨by simp [okR], rfl⟩
theorem multiplyNumbers_any (a b : Int) (w : World) :
    Calls Try.prog 20 #[.int .i64 a, .int .i64 b] w fun e w' => e = .returned (.tuple #[.int .i64 (okR (two a b) ((a * b) % 10007)).1, .int .i64 (okR (two a b) ((a * b) % 10007)).2]) ∧ Below w.heap.size w w' := by
  have hr := RdI_lit2 w a b 2
  cases h2 : two a b with
  | true =>
    obtain ⟨ha, hb⟩ : isNum a = true ∧ isNum b = true := by simpa [two] using h2
    have na := isNum_yes ha
    have nb := isNum_yes hb
    have m1 := (mul_bd (isNum_yes ha).1 (isNum_yes ha).2 (isNum_yes hb).1 (isNum_yes hb).2).1
    have m2 := (mul_bd (isNum_yes ha).1 (isNum_yes ha).2 (isNum_yes hb).1 (isNum_yes hb).2).2
    have HA : Hid ([a, b].all isNum = true) := by simp [Hid, ha, hb]
    clear ha hb h2
    go_enter Try.func20, Try.ntmps20
    go_wp2_with (first | (go_at_call 43; refine (areNumbers_any _ [a, b] _ hr).mono ?_; rintro e w' ⟨rfl, rfl⟩; rw [HA.out]) | (go_at_call 44; refine (num_any _ _).mono ?_; rintro e w' ⟨rfl, rfl⟩))
    go_ret2
    exact ⟨by simp [okR], below_alloc _ _⟩
  | false =>
    have HA : Hid ([a, b].all isNum = false) := by simp [Hid]; simpa [two] using h2
    clear h2
    go_enter Try.func20, Try.ntmps20
    go_wp2_with (first | (go_at_call 43; refine (areNumbers_any _ [a, b] _ hr).mono ?_; rintro e w' ⟨rfl, rfl⟩; rw [HA.out]))
    go_ret2
    exact ⟨by simp [okR], below_alloc _ _⟩
theorem sMultiplyNumbers_any (a b : Int) (w : World) :
    Calls Try.prog 19 #[.int .i64 a, .int .i64 b] w fun e w' => e = .returned (.tuple #[.int .i64 (okR (two a b) ((a * b) % 10007)).1, .int .i64 (okR (two a b) ((a * b) % 10007)).2]) ∧ w = w' := by
  cases h2 : two a b with
  | true =>
    obtain ⟨ha, hb⟩ : isNum a = true ∧ isNum b = true := by simpa [two] using h2
    have na := isNum_yes ha
    have nb := isNum_yes hb
    have H2 := hid h2
    clear ha hb h2
    go_enter Try.func19, Try.ntmps19
    go_wp2_with (first | (go_at_call 41; refine (l01Two_any _ _ _).mono ?_; rintro e w' ⟨rfl, rfl⟩; rw [H2.out]; simp only [codeOf]) | (go_at_call 45; refine (l01Mul_any _ _ _ (by omega) (by omega) (by omega) (by omega)).mono ?_; rintro e w' ⟨rfl, rfl⟩))
    go_ret2
    exact ⟨by simp [okR], rfl⟩
  | false =>
    have H2 := hid h2
    clear h2
    go_enter Try.func19, Try.ntmps19
    go_wp2_with (first | (go_at_call 41; refine (l01Two_any _ _ _).mono ?_; rintro e w' ⟨rfl, rfl⟩; rw [H2.out]; simp only [codeOf]))
    go_ret2
    exact ⟨by simp [okR], rfl⟩
theorem l01Dot_any (v u : Value) (xs ys : List Int) (w : World) (h : RdI w v xs) (h' : RdI w u ys) (hl : xs.length ≤ ys.length) (hx : Nums xs) (hy : Nums ys) :
    Calls Try.prog 54 #[v, u] w fun e w' => e = .returned (.int .i64 (dotL xs ys xs.length % 10007)) ∧ Dr w w' := by
  have H := hid h
  have H' := hid h'
  obtain ⟨ao, cap, rfl, hcap, hmax, -⟩ := h
  obtain ⟨ao', cap', rfl, hcap', hmax', -⟩ := h'
  have HX := hid hx
  have HY := hid hy
  clear hx hy
  go_enter Try.func54, Try.ntmps54
  go_wp2
  go_loopw [5, 6] (fun s i wr => ∃ k : Nat, k ≤ xs.length ∧ i = .int .i64 k ∧ s = .int .i64 (dotL xs ys k % 10007) ∧ Dr w wr) (fun _ i _ => xs.length - (intOf i).toNat)
  case atStart => exact ⟨0, Nat.zero_le _, rfl, rfl, Dr.refl _⟩
  case round =>
    obtain ⟨k, hk, rfl, rfl, hdr⟩ := hrel
    have b := md_bd (dotL xs ys k)
    by_cases hlt : k < xs.length
    · obtain ⟨_, _, e1, -, -, hc⟩ := H.out.dr hdr
      obtain ⟨b, off, rfl, hcell⟩ := hc k hlt
      obtain ⟨_, _, e2, -, -, hc'⟩ := H'.out.dr hdr
      obtain ⟨b', off', rfl, hcell'⟩ := hc' k (by omega)
      cases e1; cases e2
      clear hc hc'
      have hz := Nums.at HX.out k
      have hz' := Nums.at HY.out k
      have hlt' : k < ys.length := by omega
      have m1 := md_bd (el xs k * el ys k)
      have HD := hid hdr
      clear hdr
      go_wp2_with fail
      go_quiet ((first | (go_at_call 45; exact quiet_same (l01Mul_any _ _ _ (by omega) (by omega) (by omega) (by omega))) | (go_at_call 42; exact quiet_same (l01Add_any _ _ _ (by omega) (by omega) (by omega) (by omega)))))
      go_wp2
      go_roundw
      case rel => exact ⟨k + 1, by omega, by go_num, by simp [dotL, sumTo], HD.out.drewN _⟩
      case measure => simp [intOf]; omega
    · go_wp2
      go_ret
      obtain rfl : k = xs.length := by omega
      exact ⟨rfl, hdr⟩
end Go.Proofs.Ytiadkghaopcjgaa
