/-
  The walks of the exported exponentials of series.
-/
import Derived.Test.YtnjaalblgakgaaaSerExpI
namespace Go.Proofs.Ytnjaalblgakgaaa
open Go.RowKit
set_option maxRecDepth 100000
/-- The result of a function of a series that must begin with a number q. -/
def serQR (q : Int) (f : Nat → PS → PS) (zs : List Int) : List Int × Int :=
  if isSer zs = true then (if el zs 0 = q then (lst zs.length (f zs.length (ser zs)), 0) else ([], 5)) else ([], 1)
theorem ser_zero_at {zs : List Int} (h : el zs 0 = 0) : ser zs 0 = 0 := by unfold ser; rw [h]; exact vI_inj (by rw [vI_fI, vI_zero]; rfl)
theorem fI_one' : fI 1 = 1 := vI_inj (by rw [vI_fI, vI_one]; rfl)
theorem ser_one_at {zs : List Int} (h : el zs 0 = 1) : ser zs 0 = 1 := by unfold ser; rw [h]; exact fI_one'
def expR := serQR 0 fun _ => PS.exp
theorem expSeriesE_any (v : Value) (zs : List Int) (w : World) (h : RdI w v zs) :
    Calls Try.prog 39 #[v] w fun e w' => ∃ r, e = .returned (.tuple #[r, .int .i64 (expR zs).2]) ∧ OwnI w.heap.size w' r (expR zs).1 ∧ Below w.heap.size w w' := by
  obtain ⟨ao, cap, rfl⟩ := h.form
  cases hs : isSer zs with
  | true =>
    have s1 := isSer_yes hs
    obtain ⟨b, off, rfl, hcell⟩ := h.at_ (k := 0) (by omega)
    rw [Nat.add_zero] at hcell
    have n0 : (0 : Int) < (zs.length : Int) := by omega
    have HA := hid (h.ser_ s1.2.2)
    have HS := hid hs
    clear hs
    by_cases hz : el zs 0 = 0
    · have HR : Hid (expR zs = (lst zs.length (PS.exp (ser zs)), 0)) := by simp [Hid, expR, serQR, HS.out, hz]
      have hb : (el zs 0 != 0) = false := by simp [hz]
      clear hz
      go_enter Try.func39, Try.ntmps39
      go_wp2_with fail
      refine (isSeries_any _ zs _ h).mono ?_; rintro e w' ⟨rfl, rfl⟩; rw [HS.out]
      go_wp2_with fail
      refine (expSeries_any zs.length (ser zs) _ _ HA.out s1.1 s1.2.1).mono ?_; rintro e w1 ⟨r, rfl, O, B⟩
      go_wp2
      go_ret2
      rw [HR.out]
      exact ⟨_, rfl, O, B⟩
    · have HR : Hid (expR zs = ([], 5)) := by simp [Hid, expR, serQR, HS.out, hz]
      have hb : (el zs 0 != 0) = true := by simpa using hz
      clear hz
      go_enter Try.func39, Try.ntmps39
      go_wp2_with fail
      refine (isSeries_any _ zs _ h).mono ?_; rintro e w' ⟨rfl, rfl⟩; rw [HS.out]
      go_wp2
      go_ret2
      rw [HR.out]
      exact ⟨_, rfl, OwnI.nil _ _, Below.refl _ _⟩
  | false =>
    have HR : Hid (expR zs = ([], 1)) := by simp [Hid, expR, serQR, hs]
    have HS := hid hs
    clear hs
    go_enter Try.func39, Try.ntmps39
    go_wp2_with fail
    refine (isSeries_any _ zs _ h).mono ?_; rintro e w' ⟨rfl, rfl⟩; rw [HS.out]
    go_wp2
    go_ret2
    rw [HR.out]
    exact ⟨_, rfl, OwnI.nil _ _, Below.refl _ _⟩
theorem sExpSeries_any (v : Value) (zs : List Int) (w : World) (h : RdI w v zs) :
    Calls Try.prog 40 #[v] w fun e w' => ∃ r, e = .returned (.tuple #[r, .int .i64 (expR zs).2]) ∧ OwnI w.heap.size w' r (expR zs).1 ∧ Below w.heap.size w w' := by
  obtain ⟨ao, cap, rfl⟩ := h.form
  cases hs : isSer zs with
  | true =>
    have s1 := isSer_yes hs
    obtain ⟨b, off, rfl, hcell⟩ := h.at_ (k := 0) (by omega)
    rw [Nat.add_zero] at hcell
    have n0 : (0 : Int) < (zs.length : Int) := by omega
    have HA := hid (h.ser_ s1.2.2)
    have HS := hid hs
    clear hs
    by_cases hz : el zs 0 = 0
    · have HR : Hid (expR zs = (lst zs.length (PS.exp (ser zs)), 0)) := by simp [Hid, expR, serQR, HS.out, hz]
      have hb : (el zs 0 != 0) = false := by simp [hz]
      have HZ := hid hz
      clear hz
      go_enter Try.func40, Try.ntmps40
      go_wp2_with fail
      refine (l02Is_any _ zs _ h).mono ?_; rintro e w' ⟨rfl, rfl⟩; rw [HS.out]
      go_wp2_with fail
      refine (l02Exp_any zs.length (ser zs) _ _ HA.out s1.1 s1.2.1).mono ?_; rintro e w1 ⟨r, rfl, O, B⟩
      go_wp2
      go_ret2
      rw [HR.out]
      have e : lst zs.length (PS.expS zs.length (ser zs)) = lst zs.length (PS.exp (ser zs)) := lst_congr (fun i hi => PS.expS_eq (ser_zero_at HZ.out) (by omega) i hi)
      rw [e] at O
      exact ⟨_, rfl, O, B⟩
    · have HR : Hid (expR zs = ([], 5)) := by simp [Hid, expR, serQR, HS.out, hz]
      have hb : (el zs 0 != 0) = true := by simpa using hz
      clear hz
      go_enter Try.func40, Try.ntmps40
      go_wp2_with fail
      refine (l02Is_any _ zs _ h).mono ?_; rintro e w' ⟨rfl, rfl⟩; rw [HS.out]
      go_wp2
      go_ret2
      rw [HR.out]
      exact ⟨_, rfl, OwnI.nil _ _, Below.refl _ _⟩
  | false =>
    have HR : Hid (expR zs = ([], 1)) := by simp [Hid, expR, serQR, hs]
    have HS := hid hs
    clear hs
    go_enter Try.func40, Try.ntmps40
    go_wp2_with fail
    refine (l02Is_any _ zs _ h).mono ?_; rintro e w' ⟨rfl, rfl⟩; rw [HS.out]
    go_wp2
    go_ret2
    rw [HR.out]
    exact ⟨_, rfl, OwnI.nil _ _, Below.refl _ _⟩
end Go.Proofs.Ytnjaalblgakgaaa
