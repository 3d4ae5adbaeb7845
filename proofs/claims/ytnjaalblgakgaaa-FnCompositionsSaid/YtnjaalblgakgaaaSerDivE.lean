/-
  The walks of the exported quotients of series.
-/
import Derived.Test.YtnjaalblgakgaaaSerDiv
namespace Go.Proofs.Ytnjaalblgakgaaa
open Go.RowKit
set_option maxRecDepth 100000
/-- The result of a function of two series, of which the second one must (t) or must not (f) begin with 0. -/
def ser2Q (t : Bool) (f : PS → PS → PS) (xs ys : List Int) : List Int × Int :=
  if code2 xs ys = 0 then (if decide (el ys 0 = 0) = t then (lst xs.length (f (ser xs) (ser ys)), 0) else ([], 5)) else ([], 1)
theorem ser_ne {zs : List Int} (hn : Nums zs) (h : ¬ el zs 0 = 0) : ser zs 0 ≠ 0 := by
  intro e
  apply h
  have h1 := hn.at 0
  have : vI (ser zs 0) = el zs 0 := by unfold ser; exact vI_fI_num (by rw [isNum_iff]; exact h1)
  rw [← this, e, vI_zero]
def divR2 := ser2Q false PS.div
theorem divideSeriesE_any (v u : Value) (xs ys : List Int) (w : World) (h : RdI w v xs) (h' : RdI w u ys) :
    Calls Try.prog 24 #[v, u] w fun e w' => ∃ r, e = .returned (.tuple #[r, .int .i64 (divR2 xs ys).2]) ∧ OwnI w.heap.size w' r (divR2 xs ys).1 ∧ Below w.heap.size w w' := by
  obtain ⟨ao, cap, rfl⟩ := h.form
  obtain ⟨ao', cap', rfl⟩ := h'.form
  have hlit := RdII_lit2 w _ _ xs ys 22 h h'
  have hB := below_alloc w (.cells #[.slice ao xs.length cap, .slice ao' ys.length cap'] 22)
  by_cases hc : code2 xs ys = 0
  · obtain ⟨s1, s2, hl⟩ := code2_zero hc
    have q1 := isSer_yes s1
    have q2 := isSer_yes s2
    have HA := hid (h.ser_ q1.2.2)
    have HB := hid (show RdI w _ (lst xs.length (ser ys)) by rw [hl]; exact h'.ser_ q2.2.2)
    obtain ⟨b, off, rfl, hcell⟩ := (h'.mono hB).at_ (k := 0) (by omega)
    rw [Nat.add_zero] at hcell
    have n0 : (0 : Int) < (ys.length : Int) := by omega
    have HC := hid hc
    by_cases hz : el ys 0 = 0
    · have HR : Hid (divR2 xs ys = ([], 5)) := by simp [Hid, divR2, ser2Q, hc, hz]
      have hb : (el ys 0 == 0) = true := by simp [hz]
      clear hz hc hl s1 s2
      go_enter Try.func24, Try.ntmps24
      go_wp2_with fail
      refine (checkSeries_any _ _ [xs, ys] [] _ hlit (RdI_nil _)).mono ?_; rintro e w' ⟨rfl, rfl⟩; rw [serCode2, HC.out]
      go_wp2
      go_ret2
      rw [HR.out]
      exact ⟨_, rfl, OwnI.nil _ _, hB⟩
    · have HR : Hid (divR2 xs ys = (lst xs.length (PS.div (ser xs) (ser ys)), 0)) := by simp [Hid, divR2, ser2Q, hc, hz]
      have hb : (el ys 0 == 0) = false := by simp [hz]
      clear hz hc hl s1 s2
      go_enter Try.func24, Try.ntmps24
      go_wp2_with fail
      refine (checkSeries_any _ _ [xs, ys] [] _ hlit (RdI_nil _)).mono ?_; rintro e w' ⟨rfl, rfl⟩; rw [serCode2, HC.out]
      go_wp2_with fail
      refine (divideSeries_any xs.length (ser xs) (ser ys) _ _ _ (HA.out.mono hB) (HB.out.mono hB) q1.1 q1.2.1).mono ?_; rintro e w1 ⟨r, rfl, O, B⟩
      go_wp2
      go_ret2
      rw [HR.out]
      exact ⟨_, rfl, O.lower hB.size, nx hB B⟩
  · have hc1 := code2_one hc
    have HC := hid hc1
    have HR : Hid (divR2 xs ys = ([], 1)) := by simp [Hid, divR2, ser2Q, hc]
    clear hc hc1
    go_enter Try.func24, Try.ntmps24
    go_wp2_with fail
    refine (checkSeries_any _ _ [xs, ys] [] _ hlit (RdI_nil _)).mono ?_; rintro e w' ⟨rfl, rfl⟩; rw [serCode2, HC.out]
    go_wp2
    go_ret2
    rw [HR.out]
    exact ⟨_, rfl, OwnI.nil _ _, hB⟩
theorem sDivideSeries_any (v u : Value) (xs ys : List Int) (w : World) (h : RdI w v xs) (h' : RdI w u ys) :
    Calls Try.prog 25 #[v, u] w fun e w' => ∃ r, e = .returned (.tuple #[r, .int .i64 (divR2 xs ys).2]) ∧ OwnI w.heap.size w' r (divR2 xs ys).1 ∧ Below w.heap.size w w' := by
  obtain ⟨ao, cap, rfl⟩ := h.form
  obtain ⟨ao', cap', rfl⟩ := h'.form
  by_cases hc : code2 xs ys = 0
  · obtain ⟨s1, s2, hl⟩ := code2_zero hc
    have q1 := isSer_yes s1
    have q2 := isSer_yes s2
    have HA := hid (h.ser_ q1.2.2)
    have HB := hid (show RdI w _ (lst xs.length (ser ys)) by rw [hl]; exact h'.ser_ q2.2.2)
    obtain ⟨b, off, rfl, hcell⟩ := h'.at_ (k := 0) (by omega)
    rw [Nat.add_zero] at hcell
    have n0 : (0 : Int) < (ys.length : Int) := by omega
    have HC := hid hc
    by_cases hz : el ys 0 = 0
    · have HR : Hid (divR2 xs ys = ([], 5)) := by simp [Hid, divR2, ser2Q, hc, hz]
      have hb : (el ys 0 == 0) = true := by simp [hz]
      clear hz hc hl s1 s2
      go_enter Try.func25, Try.ntmps25
      go_wp2_with fail
      refine (l02Code_any _ _ xs ys _ h h').mono ?_; rintro e w' ⟨rfl, rfl⟩; rw [HC.out]
      go_wp2
      go_ret2
      rw [HR.out]
      exact ⟨_, rfl, OwnI.nil _ _, Below.refl _ _⟩
    · have HR : Hid (divR2 xs ys = (lst xs.length (PS.div (ser xs) (ser ys)), 0)) := by simp [Hid, divR2, ser2Q, hc, hz]
      have hb : (el ys 0 == 0) = false := by simp [hz]
      have HN := hid (ser_ne q2.2.2 hz)
      clear hz hc hl s1 s2
      go_enter Try.func25, Try.ntmps25
      go_wp2_with fail
      refine (l02Code_any _ _ xs ys _ h h').mono ?_; rintro e w' ⟨rfl, rfl⟩; rw [HC.out]
      go_wp2_with fail
      refine (l02Inverse_any xs.length (ser ys) _ _ HB.out q1.1 q1.2.1).mono ?_; rintro e w1 ⟨r1, rfl, O1, B1⟩
      go_wp2_with fail
      refine (l02Mul_any xs.length (ser xs) (PS.invS xs.length (ser ys)) _ _ _ (HA.out.mono B1) O1.rd).mono ?_; rintro e w2 ⟨r, rfl, O, B⟩
      go_wp2
      go_ret2
      rw [HR.out]
      have e : lst xs.length (PS.mul (ser xs) (PS.invS xs.length (ser ys))) = lst xs.length (PS.div (ser xs) (ser ys)) := lst_congr (fun i hi => PS.mul_invS HN.out _ _ i hi)
      rw [e] at O
      exact ⟨_, rfl, O.lower B1.size, nx B1 B⟩
  · have hc1 := code2_one hc
    have HC := hid hc1
    have HR : Hid (divR2 xs ys = ([], 1)) := by simp [Hid, divR2, ser2Q, hc]
    clear hc hc1
    go_enter Try.func25, Try.ntmps25
    go_wp2_with fail
    refine (l02Code_any _ _ xs ys _ h h').mono ?_; rintro e w' ⟨rfl, rfl⟩; rw [HC.out]
    go_wp2
    go_ret2
    rw [HR.out]
    exact ⟨_, rfl, OwnI.nil _ _, Below.refl _ _⟩
end Go.Proofs.Ytnjaalblgakgaaa
