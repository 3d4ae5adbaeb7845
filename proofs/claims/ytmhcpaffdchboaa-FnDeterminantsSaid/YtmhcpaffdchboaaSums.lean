/-
  The walks of sums and scalar products.
-/
import Derived.Test.YtmhcpaffdchboaaNumLaws
namespace Go.Proofs.Ytmhcpaffdchboaa
open Go.RowKit
set_option maxRecDepth 100000
theorem dot_any (v u : Value) (xs ys : List Int) (w : World) (h : RdI w v xs) (h' : RdI w u ys) (hl : xs.length ≤ ys.length) (hx : Nums xs) (hy : Nums ys) :
    Calls Try.prog 39 #[v, u] w fun e w' => e = .returned (.int .i64 (dotL xs ys xs.length % 10007)) ∧ w = w' := by
  obtain ⟨ao, cap, rfl, hcap, hmax, hc⟩ := h
  obtain ⟨ao', cap', rfl, hcap', hmax', hc'⟩ := h'
  have HC := hid hc
  have HC' := hid hc'
  have HX := hid hx
  have HY := hid hy
  clear hx hy hc hc'
  go_enter Try.func39, Try.ntmps39
  go_wp2
  go_loop [5, 10] (fun s i => ∃ k : Nat, k ≤ xs.length ∧ i = .int .i64 k ∧ s = .int .i64 (dotL xs ys k)) (fun _ i => xs.length - (intOf i).toNat)
  case atStart => exact ⟨0, Nat.zero_le _, rfl, rfl⟩
  case round =>
    obtain ⟨k, hk, rfl, rfl⟩ := hrel
    have b := sumTo_bd (fun i => el xs i * el ys i) k 100120036 (fun i _ => mul_bd (Nums.at HX.out i).1 (Nums.at HX.out i).2 (Nums.at HY.out i).1 (Nums.at HY.out i).2)
    rw [show sumTo (fun i => el xs i * el ys i) k = dotL xs ys k from rfl] at b
    have b1 := b.1
    have b2 := b.2
    clear b
    by_cases hlt : k < xs.length
    · obtain ⟨b, off, rfl, hcell⟩ := HC.out k hlt
      obtain ⟨b', off', rfl, hcell'⟩ := HC'.out k (by omega)
      have hz := Nums.at HX.out k
      have hz' := Nums.at HY.out k
      have m1 := (mul_bd hz.1 hz.2 hz'.1 hz'.2).1
      have m2 := (mul_bd hz.1 hz.2 hz'.1 hz'.2).2
      have hlt' : k < ys.length := by omega
      go_wp2
      go_round
      case rel => exact ⟨k + 1, by omega, by go_num, rfl⟩
      case measure => simp [intOf]; omega
    · go_wp2_with (go_at_call 62; refine (num_any _ _).mono ?_; rintro e w' ⟨rfl, rfl⟩)
      go_ret
      obtain rfl : k = xs.length := by omega
      exact ⟨rfl, rfl⟩
/-- What DotOf returns. -/
def dotOfR (xs ys : List Int) : Int × Int := if xs.length = ys.length ∧ xs.length ≤ 64 ∧ xs.all isNum = true ∧ ys.all isNum = true then (dotL xs ys xs.length % 10007, 0) else (0, 2)
theorem dotOf_any (v u : Value) (xs ys : List Int) (w : World) (h : RdI w v xs) (h' : RdI w u ys) :
    Calls Try.prog 34 #[v, u] w fun e w' => e = .returned (.tuple #[.int .i64 (dotOfR xs ys).1, .int .i64 (dotOfR xs ys).2]) ∧ w = w' := by
  have H := hid h
  have H' := hid h'
  obtain ⟨ao, cap, rfl, hcap, hmax, -⟩ := h
  obtain ⟨ao', cap', rfl, hcap', hmax', -⟩ := h'
  by_cases he : xs.length = ys.length
  · have HE := hid he
    have he1 : xs.length ≤ ys.length := by omega
    have hb : ((xs.length : Int) != (ys.length : Int)) = false := by simp [he]
    clear he
    by_cases hl : xs.length ≤ 64
    · cases hx : xs.all isNum with
      | true =>
        have HX := hid hx
        clear hx
        cases hy : ys.all isNum with
        | true =>
          have HY := hid hy
          clear hy
          go_enter Try.func34, Try.ntmps34
          go_wp2_with fail
          refine (areNumbers_any _ xs _ H.out).mono ?_; rintro e w' ⟨rfl, rfl⟩; rw [HX.out]
          go_wp2_with fail
          refine (areNumbers_any _ ys _ H'.out).mono ?_; rintro e w' ⟨rfl, rfl⟩; rw [HY.out]
          go_wp2_with fail
          refine (dot_any _ _ xs ys _ H.out H'.out he1 HX.out HY.out).mono ?_; rintro e w' ⟨rfl, rfl⟩
          go_wp2
          go_ret2
          exact ⟨by rw [dotOfR, if_pos ⟨HE.out, hl, HX.out, HY.out⟩]; rfl, rfl⟩
        | false =>
          have HY := hid hy
          clear hy
          go_enter Try.func34, Try.ntmps34
          go_wp2_with fail
          refine (areNumbers_any _ xs _ H.out).mono ?_; rintro e w' ⟨rfl, rfl⟩; rw [HX.out]
          go_wp2_with fail
          refine (areNumbers_any _ ys _ H'.out).mono ?_; rintro e w' ⟨rfl, rfl⟩; rw [HY.out]
          go_wp2
          go_ret2
          exact ⟨by rw [dotOfR, HY.out, if_neg (by simp)]; rfl, rfl⟩
      | false =>
        have HX := hid hx
        clear hx
        go_enter Try.func34, Try.ntmps34
        go_wp2_with fail
        refine (areNumbers_any _ xs _ H.out).mono ?_; rintro e w' ⟨rfl, rfl⟩; rw [HX.out]
        go_wp2
        go_ret2
        exact ⟨by rw [dotOfR, HX.out, if_neg (by simp)]; rfl, rfl⟩
    · go_enter Try.func34, Try.ntmps34
      go_wp2
      go_ret2
      exact ⟨by rw [dotOfR, if_neg (fun h => by have := h.2.1; omega)]; rfl, rfl⟩
  · have HE := hid he
    have hb : ((xs.length : Int) != (ys.length : Int)) = true := by simp; omega
    clear he
    go_enter Try.func34, Try.ntmps34
    go_wp2
    go_ret2
    exact ⟨by rw [dotOfR, if_neg (fun h => HE.out h.1)]; rfl, rfl⟩
end Go.Proofs.Ytmhcpaffdchboaa
