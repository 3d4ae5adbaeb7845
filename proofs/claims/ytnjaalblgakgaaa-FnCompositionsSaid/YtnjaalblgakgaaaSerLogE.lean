/-
  The walks of the exported logarithms of series.
-/
import Derived.Test.YtnjaalblgakgaaaSerExpE
import Derived.Test.YtnjaalblgakgaaaSerLog
namespace Go.Proofs.Ytnjaalblgakgaaa
open Go.RowKit
set_option maxRecDepth 100000
theorem one_ne : (1 : F) ≠ 0 := by decide
def logR := serQR 1 fun _ => PS.log
theorem logSeriesE_any (v : Value) (zs : List Int) (w : World) (h : RdI w v zs) :
    Calls Try.prog 41 #[v] w fun e w' => ∃ r, e = .returned (.tuple #[r, .int .i64 (logR zs).2]) ∧ OwnI w.heap.size w' r (logR zs).1 ∧ Below w.heap.size w w' := by
  obtain ⟨ao, cap, rfl⟩ := h.form
  cases hs : isSer zs with
  | true =>
    have s1 := isSer_yes hs
    obtain ⟨b, off, rfl, hcell⟩ := h.at_ (k := 0) (by omega)
    rw [Nat.add_zero] at hcell
    have n0 : (0 : Int) < (zs.length : Int) := by omega
    have HA := hid (h.ser_ s1.2.2)
    have HS := hid hs
    clear hs
    by_cases hz : el zs 0 = 1
    · have HR : Hid (logR zs = (lst zs.length (PS.log (ser zs)), 0)) := by simp [Hid, logR, serQR, HS.out, hz]
      have hb : (el zs 0 != 1) = false := by simp [hz]
      have HZ : Hid (ser zs 0 ≠ 0) := by simp only [Hid]; rw [ser_one_at hz]; exact one_ne
      clear hz
      go_enter Try.func41, Try.ntmps41
      go_wp2_with fail
      refine (isSeries_any _ zs _ h).mono ?_; rintro e w' ⟨rfl, rfl⟩; rw [HS.out]
      go_wp2_with fail
      refine (logSeries_any zs.length (ser zs) _ _ HA.out s1.1 s1.2.1 HZ.out).mono ?_; rintro e w1 ⟨r, rfl, O, B⟩
      go_wp2
      go_ret2
      rw [HR.out]
      exact ⟨_, rfl, O, B⟩
    · have HR : Hid (logR zs = ([], 5)) := by simp [Hid, logR, serQR, HS.out, hz]
      have hb : (el zs 0 != 1) = true := by simpa using hz
      clear hz
      go_enter Try.func41, Try.ntmps41
      go_wp2_with fail
      refine (isSeries_any _ zs _ h).mono ?_; rintro e w' ⟨rfl, rfl⟩; rw [HS.out]
      go_wp2
      go_ret2
      rw [HR.out]
      exact ⟨_, rfl, OwnI.nil _ _, Below.refl _ _⟩
  | false =>
    have HR : Hid (logR zs = ([], 1)) := by simp [Hid, logR, serQR, hs]
    have HS := hid hs
    clear hs
    go_enter Try.func41, Try.ntmps41
    go_wp2_with fail
    refine (isSeries_any _ zs _ h).mono ?_; rintro e w' ⟨rfl, rfl⟩; rw [HS.out]
    go_wp2
    go_ret2
    rw [HR.out]
    exact ⟨_, rfl, OwnI.nil _ _, Below.refl _ _⟩
end Go.Proofs.Ytnjaalblgakgaaa
