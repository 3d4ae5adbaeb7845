/-
  The walks of the exported compositions of series.
-/
import Derived.Test.YtnjaalblgakgaaaSerComp
import Derived.Test.YtnjaalblgakgaaaSerDivE
namespace Go.Proofs.Ytnjaalblgakgaaa
open Go.RowKit
set_option maxRecDepth 100000
theorem ser_eq {zs : List Int} (h : el zs 0 = 0) : ser zs 0 = 0 := by unfold ser; rw [h]; apply vI_inj; rw [vI_fI, vI_zero]; rfl
def cmpR := ser2Q true PS.comp
theorem composeSeriesE_any (v u : Value) (xs ys : List Int) (w : World) (h : RdI w v xs) (h' : RdI w u ys) :
    Calls Try.prog 22 #[v, u] w fun e w' => ∃ r, e = .returned (.tuple #[r, .int .i64 (cmpR xs ys).2]) ∧ OwnI w.heap.size w' r (cmpR xs ys).1 ∧ Below w.heap.size w w' := by
  obtain ⟨ao, cap, rfl⟩ := h.form
  obtain ⟨ao', cap', rfl⟩ := h'.form
  have hlit := RdII_lit2 w _ _ xs ys 22 h h'
  have hB := below_alloc w (.cells #[.slice ao xs.length cap, .slice ao' ys.length cap'] 22)
  by_cases hc : code2 xs ys = 0
  · obtain ⟨s1, s2, hl⟩ := code2_zero hc
    have q1 := isSer_yes s1
    have q2 := isSer_yes s2
    have HA := hid (h.ser_ q1.2.2)
    have HB := hid (show RdI w _ (lst xs.length (ser ys)) by rw [hl]; exact h'.ser_ q2.2.2)
    obtain ⟨b, off, rfl, hcell⟩ := (h'.mono hB).at_ (k := 0) (by omega)
    rw [Nat.add_zero] at hcell
    have n0 : (0 : Int) < (ys.length : Int) := by omega
    have HC := hid hc
    by_cases hz : el ys 0 = 0
    · have HR : Hid (cmpR xs ys = (lst xs.length (PS.comp (ser xs) (ser ys)), 0)) := by simp [Hid, cmpR, ser2Q, hc, hz]
      have hb : (el ys 0 != 0) = false := by simp [hz]
      have HN := hid (ser_eq hz)
      clear hz hc hl s1 s2
      go_enter Try.func22, Try.ntmps22
      go_wp2_with fail
      refine (checkSeries_any _ _ [xs, ys] [] _ hlit (RdI_nil _)).mono ?_; rintro e w' ⟨rfl, rfl⟩; rw [serCode2, HC.out]
      go_wp2_with fail
      refine (composeSeries_any xs.length (ser xs) (ser ys) HN.out _ _ _ (HA.out.mono hB) (HB.out.mono hB) q1.1).mono ?_; rintro e w1 ⟨r, rfl, O, B⟩
      go_wp2
      go_ret2
      rw [HR.out]
      exact ⟨_, rfl, O.lower hB.size, nx hB B⟩
    · have HR : Hid (cmpR xs ys = ([], 5)) := by simp [Hid, cmpR, ser2Q, hc, hz]
      have hb : (el ys 0 != 0) = true := by simpa using hz
      clear hz hc hl s1 s2
      go_enter Try.func22, Try.ntmps22
      go_wp2_with fail
      refine (checkSeries_any _ _ [xs, ys] [] _ hlit (RdI_nil _)).mono ?_; rintro e w' ⟨rfl, rfl⟩; rw [serCode2, HC.out]
      go_wp2
      go_ret2
      rw [HR.out]
      exact ⟨_, rfl, OwnI.nil _ _, hB⟩
  · have hc1 := code2_one hc
    have HC := hid hc1
    have HR : Hid (cmpR xs ys = ([], 1)) := by simp [Hid, cmpR, ser2Q, hc]
    clear hc hc1
    go_enter Try.func22, Try.ntmps22
    go_wp2_with fail
    refine (checkSeries_any _ _ [xs, ys] [] _ hlit (RdI_nil _)).mono ?_; rintro e w' ⟨rfl, rfl⟩; rw [serCode2, HC.out]
    go_wp2
    go_ret2
    rw [HR.out]
    exact ⟨_, rfl, OwnI.nil _ _, hB⟩
theorem sComposeSeries_any (v u : Value) (xs ys : List Int) (w : World) (h : RdI w v xs) (h' : RdI w u ys) :
    Calls Try.prog 31 #[v, u] w fun e w' => ∃ r, e = .returned (.tuple #[r, .int .i64 (cmpR xs ys).2]) ∧ OwnI w.heap.size w' r (cmpR xs ys).1 ∧ Below w.heap.size w w' := by
  obtain ⟨ao, cap, rfl⟩ := h.form
  obtain ⟨ao', cap', rfl⟩ := h'.form
  by_cases hc : code2 xs ys = 0
  · obtain ⟨s1, s2, hl⟩ := code2_zero hc
    have q1 := isSer_yes s1
    have q2 := isSer_yes s2
    have HA := hid (h.ser_ q1.2.2)
    have HB := hid (show RdI w _ (lst xs.length (ser ys)) by rw [hl]; exact h'.ser_ q2.2.2)
    obtain ⟨b, off, rfl, hcell⟩ := h'.at_ (k := 0) (by omega)
    rw [Nat.add_zero] at hcell
    have n0 : (0 : Int) < (ys.length : Int) := by omega
    have HC := hid hc
    by_cases hz : el ys 0 = 0
    · have HR : Hid (cmpR xs ys = (lst xs.length (PS.comp (ser xs) (ser ys)), 0)) := by simp [Hid, cmpR, ser2Q, hc, hz]
      have hb : (el ys 0 != 0) = false := by simp [hz]
      have HN := hid (ser_eq hz)
      clear hz hc hl s1 s2
      go_enter Try.func31, Try.ntmps31
      go_wp2_with fail
      refine (l02Code_any _ _ xs ys _ h h').mono ?_; rintro e w' ⟨rfl, rfl⟩; rw [HC.out]
      go_wp2_with fail
      refine (l02Compose_any xs.length (ser xs) (ser ys) HN.out _ _ _ HA.out HB.out q1.1).mono ?_; rintro e w1 ⟨r, rfl, O, B⟩
      go_wp2
      go_ret2
      rw [HR.out]
      exact ⟨_, rfl, O, B⟩
    · have HR : Hid (cmpR xs ys = ([], 5)) := by simp [Hid, cmpR, ser2Q, hc, hz]
      have hb : (el ys 0 != 0) = true := by simpa using hz
      clear hz hc hl s1 s2
      go_enter Try.func31, Try.ntmps31
      go_wp2_with fail
      refine (l02Code_any _ _ xs ys _ h h').mono ?_; rintro e w' ⟨rfl, rfl⟩; rw [HC.out]
      go_wp2
      go_ret2
      rw [HR.out]
      exact ⟨_, rfl, OwnI.nil _ _, Below.refl _ _⟩
  · have hc1 := code2_one hc
    have HC := hid hc1
    have HR : Hid (cmpR xs ys = ([], 1)) := by simp [Hid, cmpR, ser2Q, hc]
    clear hc hc1
    go_enter Try.func31, Try.ntmps31
    go_wp2_with fail
    refine (l02Code_any _ _ xs ys _ h h').mono ?_; rintro e w' ⟨rfl, rfl⟩; rw [HC.out]
    go_wp2
    go_ret2
    rw [HR.out]
    exact ⟨_, rfl, OwnI.nil _ _, Below.refl _ _⟩
end Go.Proofs.Ytnjaalblgakgaaa
