/-
  The walks of the exported sums of series.
-/
import Derived.Test.YtnjaalblgakgaaaSerFns
import Derived.Test.YtnjaalblgakgaaaSerChk
namespace Go.Proofs.Ytnjaalblgakgaaa
open Go.RowKit
set_option maxRecDepth 100000
/-- The result of a function of two series: a list and a code. -/
def ser2R (f : PS → PS → PS) (xs ys : List Int) : List Int × Int := if code2 xs ys = 0 then (lst xs.length (f (ser xs) (ser ys)), 0) else ([], 1)
theorem code2_zero {xs ys : List Int} (h : code2 xs ys = 0) : isSer xs = true ∧ isSer ys = true ∧ xs.length = ys.length := by
  unfold code2 at h
  split at h
  · assumption
  · cases h
theorem code2_one {xs ys : List Int} (h : ¬ code2 xs ys = 0) : code2 xs ys = 1 := by
  unfold code2 at h ⊢
  split
  · rename_i h'; rw [if_pos h'] at h; exact absurd rfl h
  · rfl
theorem RdI.ser_ {w : World} {v : Value} {zs : List Int} (h : RdI w v zs) (hn : Nums zs) : RdI w v (lst zs.length (ser zs)) := by rw [lst_ser hn]; exact h
theorem fI_one : fI 1 = 1 := vI_inj (by rw [vI_fI, vI_one]; rfl)
theorem addSeries_any (v u : Value) (xs ys : List Int) (w : World) (h : RdI w v xs) (h' : RdI w u ys) :
    Calls Try.prog 28 #[v, u] w fun e w' => ∃ r, e = .returned (.tuple #[r, .int .i64 (ser2R PS.add xs ys).2]) ∧ OwnI w.heap.size w' r (ser2R PS.add xs ys).1 ∧ Below w.heap.size w w' := by
  obtain ⟨ao, cap, rfl⟩ := h.form
  obtain ⟨ao', cap', rfl⟩ := h'.form
  have hlit := RdII_lit2 w _ _ xs ys 22 h h'
  have hB := below_alloc w (.cells #[.slice ao xs.length cap, .slice ao' ys.length cap'] 22)
  by_cases hc : code2 xs ys = 0
  · obtain ⟨s1, s2, hl⟩ := code2_zero hc
    have HA := hid (h.ser_ (isSer_yes s1).2.2)
    have HB := hid (show RdI w _ (lst xs.length (ser ys)) by rw [hl]; exact h'.ser_ (isSer_yes s2).2.2)
    have HR : Hid (ser2R PS.add xs ys = (lst xs.length (PS.add (ser xs) (ser ys)), 0)) := by simp [Hid, ser2R, hc]
    have HC := hid hc
    clear hc hl s1 s2
    go_enter Try.func28, Try.ntmps28
    go_wp2_with fail
    refine (checkSeries_any _ _ [xs, ys] [] _ hlit (RdI_nil _)).mono ?_; rintro e w' ⟨rfl, rfl⟩; rw [serCode2, HC.out]
    go_wp2_with fail
    refine (plus_any xs.length (ser xs) (ser ys) _ _ _ _ (HA.out.mono hB) (HB.out.mono hB)).mono ?_; rintro e w1 ⟨r, rfl, O, B⟩
    go_wp2
    go_ret2
    rw [HR.out]
    refine ⟨_, rfl, ?_, nx hB B⟩
    have e : PS.add (ser xs) (PS.smul (fI 1) (ser ys)) = PS.add (ser xs) (ser ys) := by
      funext i; simp only [PS.add, PS.smul, fI_one]; grind
    rw [e] at O
    exact O.lower hB.size
  · have hc1 := code2_one hc
    have HC := hid hc1
    have HR : Hid (ser2R PS.add xs ys = ([], 1)) := by simp [Hid, ser2R, hc]
    clear hc hc1
    go_enter Try.func28, Try.ntmps28
    go_wp2_with fail
    refine (checkSeries_any _ _ [xs, ys] [] _ hlit (RdI_nil _)).mono ?_; rintro e w' ⟨rfl, rfl⟩; rw [serCode2, HC.out]
    go_wp2
    go_ret2
    rw [HR.out]
    exact ⟨_, rfl, OwnI.nil _ _, hB⟩
end Go.Proofs.Ytnjaalblgakgaaa
