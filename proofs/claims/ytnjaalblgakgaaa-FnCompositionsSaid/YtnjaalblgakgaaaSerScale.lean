/-
  The walks of scaled series.
-/
import Derived.Test.YtnjaalblgakgaaaSerInt
namespace Go.Proofs.Ytnjaalblgakgaaa
open Go.RowKit
set_option maxRecDepth 100000
/-- The series of which each coefficient is multiplied by a power of c. -/
def scS (c : F) (A : PS) : PS := fun i => A i * c ^ i
/-- The code of a series and a number. -/
def code1 (xs : List Int) (k : Int) : Int := if isSer xs = true then codeOf (isNum k) else 1
theorem serCode1' (xs : List Int) (k : Int) : serCode [xs] [k] = code1 xs k := by
  rw [serCode1, code1]; simp
theorem code1_zero {xs : List Int} {k : Int} (h : code1 xs k = 0) : isSer xs = true ∧ isNum k = true := by
  unfold code1 codeOf at h
  cases h1 : isSer xs <;> cases h2 : isNum k <;> simp [h1, h2] at h ⊢
/-- The result of a function of a series and a number. -/
def serKR (f : Nat → F → PS → PS) (zs : List Int) (k : Int) : List Int × Int := if code1 zs k = 0 then (lst zs.length (f zs.length (fI k) (ser zs)), 0) else ([], code1 zs k)
def scR := serKR fun _ => scS
theorem pow_zero (c : F) : c ^ 0 = 1 := by grind
theorem pow_succ (c : F) (i : Nat) : c ^ (i + 1) = c ^ i * c := by grind
theorem scaleSeries_any (v : Value) (k : Int) (zs : List Int) (w : World) (h : RdI w v zs) :
    Calls Try.prog 35 #[v, .int .i64 k] w fun e w' => ∃ r, e = .returned (.tuple #[r, .int .i64 (scR zs k).2]) ∧ OwnI w.heap.size w' r (scR zs k).1 ∧ Below w.heap.size w w' := by
  obtain ⟨ao, cap, rfl⟩ := h.form
  have hB0 := below_alloc w (.cells #[.slice ao zs.length cap] 22)
  have hB1 := below_alloc (w.alloc (.cells #[.slice ao zs.length cap] 22)) (.cells #[.int .i64 k] 2)
  have hlit := (RdII_lit1 w _ zs 22 h).mono hB1
  have hlit2 := RdI_lit1 (w.alloc (.cells #[.slice ao zs.length cap] 22)) k 2
  rw [show (w.alloc (.cells #[.slice ao zs.length cap] 22)).heap.size = w.heap.size + 1 by simp] at hlit2
  have hB := nx hB0 hB1
  by_cases hc : code1 zs k = 0
  · obtain ⟨hs, hk⟩ := code1_zero hc
    have s1 := isSer_yes hs
    have nk := isNum_yes hk
    obtain ⟨A, hA⟩ : ∃ A, A = ser zs := ⟨_, rfl⟩
    obtain ⟨c, hcc⟩ : ∃ c, c = fI k := ⟨_, rfl⟩
    have HR : Hid (scR zs k = (lst zs.length (scS c A), 0)) := by simp [Hid, scR, serKR, hc, hA, hcc]
    have hkc : k = vI c := by rw [hcc, vI_fI_num hk]
    have HK := hid hkc
    have H : Hid (RdI w (.slice ao zs.length cap) (lst zs.length A)) := by rw [hA]; exact h.ser_ s1.2.2
    have s2 := s1.1
    have s3 := s1.2.1
    have HC := hid hc
    clear hs hk s1 hA hc hcc hkc
    go_enter Try.func35, Try.ntmps35
    go_wp2_with fail
    refine (checkSeries_any _ _ [zs] [k] _ hlit hlit2).mono ?_; rintro e w' ⟨rfl, rfl⟩; rw [serCode1', HC.out]
    go_wp2
    go_loopw [7, 8, 22] (fun r q i wr => ∃ j : Nat, j ≤ zs.length ∧ i = .int .i64 j ∧ q = .int .i64 (vI (c ^ j)) ∧ OwnI w.heap.size wr r (lst j (scS c A)) ∧ Below w.heap.size w wr) (fun _ _ i _ => zs.length - (intOf i).toNat)
    case atStart => exact ⟨0, Nat.zero_le _, rfl, by rw [pow_zero, vI_one], OwnI.litAt (by simp) (by omega), nx hB (below_alloc _ _)⟩
    case round =>
      obtain ⟨j, hj, rfl, rfl, O, Bl⟩ := hrel
      by_cases hlt : j < zs.length
      · obtain ⟨b, off, rfl, hcell⟩ := (H.out.mono Bl).at_ (k := j) (by simp; omega)
        rw [lst_el _ _ _ hlt] at hcell
        have b1 := vI_bd (A j)
        have b2 := vI_bd (c ^ j)
        have m1 := (mul_bd b1.1 b1.2 b2.1 b2.2).1
        have m2 := (mul_bd b1.1 b1.2 b2.1 b2.2).2
        have m3 := (mul_bd b2.1 b2.2 nk.1 nk.2).1
        have m4 := (mul_bd b2.1 b2.2 nk.1 nk.2).2
        have hx : Hid (vI (A j) * vI (c ^ j) % 10007 = vI (scS c A j)) := by simp only [Hid, scS]; rw [vI_mul]
        have hy : Hid (vI (c ^ j) * k % 10007 = vI (c ^ (j + 1))) := by simp only [Hid]; rw [pow_succ, vI_mul, HK.out]
        go_wp2_with (first
          | (at_builtin; refine wpl_app rfl _ _ _ rfl Try.underlying22 info_i64 rfl (O.mono (below_alloc _ _)) ⟨wr.heap.size, 0, none⟩ 1 _ rfl (cell_new1 _ _ _) (by simp; omega) (by have := Bl.size; simp; omega) ?_; intro v' W1 O1 G1 B1)
          | (go_at_call 63; refine (num_any _ _).mono ?_; rintro e w' ⟨rfl, rfl⟩))
        go_roundw
        case rel => exact ⟨j + 1, by omega, by go_num, by rw [← hy.out], O1.snoc hx.out, (Bl.alloc Bl.size _).trans B1⟩
        case measure => simp [intOf]; omega
      · go_wp2
        go_ret2
        rw [HR.out]
        obtain rfl : j = zs.length := by omega
        exact ⟨_, rfl, O, Bl⟩
  · have HR : Hid (scR zs k = ([], code1 zs k)) := by simp [Hid, scR, serKR, hc]
    have hb : (code1 zs k != 0) = true := by simpa using hc
    clear hc
    go_enter Try.func35, Try.ntmps35
    go_wp2_with fail
    refine (checkSeries_any _ _ [zs] [k] _ hlit hlit2).mono ?_; rintro e w' ⟨rfl, rfl⟩; rw [serCode1']
    go_wp2
    go_ret2
    rw [HR.out]
    exact ⟨_, rfl, OwnI.nil _ _, hB⟩
end Go.Proofs.Ytnjaalblgakgaaa
