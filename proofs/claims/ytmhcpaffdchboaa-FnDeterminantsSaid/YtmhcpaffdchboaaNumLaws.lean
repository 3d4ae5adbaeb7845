/-
  The walks of the exported functions on numbers.
-/
import Derived.Test.YtmhcpaffdchboaaNums
import Derived.Deep.QuietTactic
import Derived.BigQuiet
namespace Go.Proofs.Ytmhcpaffdchboaa
open Go.RowKit
theorem l01Dot_any (v u : Value) (xs ys : List Int) (w : World) (h : RdI w v xs) (h' : RdI w u ys) (hl : xs.length ≤ ys.length) (hx : Nums xs) (hy : Nums ys) :
    Calls Try.prog 56 #[v, u] w fun e w' => e = .returned (.int .i64 (dotL xs ys xs.length % 10007)) ∧ Dr w w' := by
  have H := hid h
  have H' := hid h'
  obtain ⟨ao, cap, rfl, hcap, hmax, -⟩ := h
  obtain ⟨ao', cap', rfl, hcap', hmax', -⟩ := h'
  have HX := hid hx
  have HY := hid hy
  clear hx hy
  go_enter Try.func56, Try.ntmps56
  go_wp2
  go_loopw [5, 6] (fun s i wr => ∃ k : Nat, k ≤ xs.length ∧ i = .int .i64 k ∧ s = .int .i64 (dotL xs ys k % 10007) ∧ Dr w wr) (fun _ i _ => xs.length - (intOf i).toNat)
  case atStart => exact ⟨0, Nat.zero_le _, rfl, rfl, Dr.refl _⟩
  case round =>
    obtain ⟨k, hk, rfl, rfl, hdr⟩ := hrel
    have b := md_bd (dotL xs ys k)
    by_cases hlt : k < xs.length
    · obtain ⟨_, _, e1, -, -, hc⟩ := H.out.dr hdr
      obtain ⟨b, off, rfl, hcell⟩ := hc k hlt
      obtain ⟨_, _, e2, -, -, hc'⟩ := H'.out.dr hdr
      obtain ⟨b', off', rfl, hcell'⟩ := hc' k (by omega)
      cases e1; cases e2
      clear hc hc'
      have hz := Nums.at HX.out k
      have hz' := Nums.at HY.out k
      have hlt' : k < ys.length := by omega
      have m1 := md_bd (el xs k * el ys k)
      have HD := hid hdr
      clear hdr
      go_wp2_with fail
      go_quiet ((first | (go_at_call 63; exact quiet_same (l01Mul_any _ _ _ (by omega) (by omega) (by omega) (by omega))) | (go_at_call 65; exact quiet_same (l01Add_any _ _ _ (by omega) (by omega) (by omega) (by omega)))))
      go_wp2
      go_roundw
      case rel => exact ⟨k + 1, by omega, by go_num, by simp [dotL, sumTo], HD.out.drewN _⟩
      case measure => simp [intOf]; omega
    · go_wp2
      go_ret
      obtain rfl : k = xs.length := by omega
      exact ⟨rfl, hdr⟩
end Go.Proofs.Ytmhcpaffdchboaa
