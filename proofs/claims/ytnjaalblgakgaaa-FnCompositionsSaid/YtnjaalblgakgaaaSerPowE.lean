/-
  The walks of powers of series.
-/
import Derived.Test.YtnjaalblgakgaaaSerLogE
import Derived.Test.YtnjaalblgakgaaaSerScale
namespace Go.Proofs.Ytnjaalblgakgaaa
open Go.RowKit
set_option maxRecDepth 100000
/-- The power of a series. -/
def pwrS (c : F) (A : PS) : PS := PS.exp (PS.smul c (PS.log A))
/-- The result of the power of a series. -/
def powR (zs : List Int) (k : Int) : List Int × Int :=
  if code1 zs k = 0 then (if el zs 0 = 1 then (lst zs.length (pwrS (fI k) (ser zs)), 0) else ([], 5)) else ([], code1 zs k)
theorem log_zero (A : PS) : PS.log A 0 = 0 := by unfold PS.log; rfl
theorem smul_zero_at (c : F) {A : PS} (h : A 0 = 0) : PS.smul c A 0 = 0 := by simp only [PS.smul, h]; grind
theorem powerOfSeries_any (v : Value) (k : Int) (zs : List Int) (w : World) (h : RdI w v zs) :
    Calls Try.prog 18 #[v, .int .i64 k] w fun e w' => ∃ r, e = .returned (.tuple #[r, .int .i64 (powR zs k).2]) ∧ OwnI w.heap.size w' r (powR zs k).1 ∧ Below w.heap.size w w' := by
  obtain ⟨ao, cap, rfl⟩ := h.form
  have hB0 := below_alloc w (.cells #[.slice ao zs.length cap] 22)
  have hB1 := below_alloc (w.alloc (.cells #[.slice ao zs.length cap] 22)) (.cells #[.int .i64 k] 2)
  have hlit := (RdII_lit1 w _ zs 22 h).mono hB1
  have hlit2 := RdI_lit1 (w.alloc (.cells #[.slice ao zs.length cap] 22)) k 2
  rw [show (w.alloc (.cells #[.slice ao zs.length cap] 22)).heap.size = w.heap.size + 1 by simp] at hlit2
  have hB := nx hB0 hB1
  by_cases hc : code1 zs k = 0
  · obtain ⟨hs, hk⟩ := code1_zero hc
    have s1 := isSer_yes hs
    have nk := isNum_yes hk
    obtain ⟨b, off, rfl, hcell⟩ := h.at_ (k := 0) (by omega)
    rw [Nat.add_zero] at hcell
    have n0 : (0 : Int) < (zs.length : Int) := by omega
    have hcell' := (hB.cell (p := ⟨b, off, none⟩) (World.block_lt_of_cell? w _ hcell)).trans hcell
    have hlb := World.block_lt_of_cell? w _ hcell
    by_cases hz : el zs 0 = 1
    · have HR : Hid (powR zs k = (lst zs.length (pwrS (fI k) (ser zs)), 0)) := by simp [Hid, powR, hc, hz]
      have hb : (el zs 0 != 1) = false := by simp [hz]
      have HZ : Hid (ser zs 0 ≠ 0) := by simp only [Hid]; rw [ser_one_at hz]; exact one_ne
      have HA := hid ((h.ser_ s1.2.2).mono hB)
      have HC := hid hc
      clear hs hk hc hz
      go_enter Try.func18, Try.ntmps18
      go_wp2_with fail
      refine (checkSeries_any _ _ [zs] [k] _ hlit hlit2).mono ?_; rintro e w' ⟨rfl, rfl⟩; rw [serCode1', HC.out]
      go_wp2_with fail
      refine (logSeries_any zs.length (ser zs) _ _ HA.out s1.1 s1.2.1 HZ.out).mono ?_; rintro e w1 ⟨r1, rfl, O1, B1⟩
      go_wp2_with fail
      refine (scaled_any zs.length _ _ _ _ O1.rd).mono ?_; rintro e w2 ⟨r2, rfl, O2, B2⟩
      go_wp2_with fail
      refine (expSeries_any zs.length _ _ _ O2.rd s1.1 s1.2.1).mono ?_; rintro e w3 ⟨r3, rfl, O3, B3⟩
      go_wp2
      go_ret2
      rw [HR.out]
      exact ⟨_, rfl, O3.lower (Nat.le_trans hB.size (Nat.le_trans B1.size B2.size)), nx (nx (nx hB B1) B2) B3⟩
    · have HR : Hid (powR zs k = ([], 5)) := by simp [Hid, powR, hc, hz]
      have hb : (el zs 0 != 1) = true := by simpa using hz
      have HC := hid hc
      clear hs hk hc hz
      go_enter Try.func18, Try.ntmps18
      go_wp2_with fail
      refine (checkSeries_any _ _ [zs] [k] _ hlit hlit2).mono ?_; rintro e w' ⟨rfl, rfl⟩; rw [serCode1', HC.out]
      go_wp2
      go_ret2
      rw [HR.out]
      exact ⟨_, rfl, OwnI.nil _ _, hB⟩
  · have HR : Hid (powR zs k = ([], code1 zs k)) := by simp [Hid, powR, hc]
    have hb : (code1 zs k != 0) = true := by simpa using hc
    clear hc
    go_enter Try.func18, Try.ntmps18
    go_wp2_with fail
    refine (checkSeries_any _ _ [zs] [k] _ hlit hlit2).mono ?_; rintro e w' ⟨rfl, rfl⟩; rw [serCode1']
    go_wp2
    go_ret2
    rw [HR.out]
    exact ⟨_, rfl, OwnI.nil _ _, hB⟩
theorem sPowerOfSeries_any (v : Value) (k : Int) (zs : List Int) (w : World) (h : RdI w v zs) :
    Calls Try.prog 17 #[v, .int .i64 k] w fun e w' => ∃ r, e = .returned (.tuple #[r, .int .i64 (powR zs k).2]) ∧ OwnI w.heap.size w' r (powR zs k).1 ∧ Below w.heap.size w w' := by
  obtain ⟨ao, cap, rfl⟩ := h.form
  cases hs : isSer zs with
  | true =>
    have HS := hid hs
    cases hk : isNum k with
    | true =>
      have s1 := isSer_yes hs
      have nk := isNum_yes hk
      have hc : code1 zs k = 0 := by simp [code1, hs, hk, codeOf]
      obtain ⟨b, off, rfl, hcell⟩ := h.at_ (k := 0) (by omega)
      rw [Nat.add_zero] at hcell
      have n0 : (0 : Int) < (zs.length : Int) := by omega
      have HA := hid (h.ser_ s1.2.2)
      have HK := hid hk
      have h0 := hid h
      by_cases hz : el zs 0 = 1
      · obtain ⟨c, hcc⟩ : ∃ c, c = fI k := ⟨_, rfl⟩
        have hkc : k = vI c := by rw [hcc, vI_fI_num hk]
        have HR : Hid (powR zs k = (lst zs.length (pwrS c (ser zs)), 0)) := by simp [Hid, powR, hc, hz, hcc]
        have hb : (el zs 0 != 1) = false := by simp [hz]
        have HZ := hid hz
        have E1 : Hid (lst zs.length (PS.smul c (PS.logS zs.length (ser zs))) = lst zs.length (PS.smul c (PS.log (ser zs)))) := by
          simp only [Hid]
          exact lst_congr fun i hi => by simp only [PS.smul]; rw [PS.logS_eq (ser_one_at hz) (by omega) i hi]
        have E2 : Hid (lst zs.length (PS.expS zs.length (PS.smul c (PS.log (ser zs)))) = lst zs.length (pwrS c (ser zs))) := by
          simp only [Hid]
          exact lst_congr fun i hi => PS.expS_eq (smul_zero_at c (log_zero _)) (by omega) i hi
        have HKC := hid hkc
        clear hs hk hc hz hcc hkc h
        go_enter Try.func17, Try.ntmps17
        go_wp2_with fail
        refine (l02Is_any _ zs _ h0.out).mono ?_; rintro e w' ⟨rfl, rfl⟩; rw [HS.out]
        go_wp2_with fail
        refine (sIsNumber_any _ _).mono ?_; rintro e w' ⟨rfl, rfl⟩; rw [HK.out]
        go_wp2_with fail
        refine (l02Log_any zs.length (ser zs) _ _ HA.out s1.1 s1.2.1).mono ?_; rintro e w1 ⟨r1, rfl, O1, B1⟩
        rw [HKC.out]
        go_wp2_with fail
        refine (l02Times_any zs.length _ c _ _ O1.rd).mono ?_; rintro e w2 ⟨r2, rfl, O2, B2⟩
        rw [E1.out] at O2
        go_wp2_with fail
        refine (l02Exp_any zs.length _ _ _ O2.rd s1.1 s1.2.1).mono ?_; rintro e w3 ⟨r3, rfl, O3, B3⟩
        rw [E2.out] at O3
        go_wp2
        go_ret2
        rw [← HKC.out, HR.out]
        exact ⟨_, rfl, O3.lower (Nat.le_trans B1.size B2.size), nx (nx B1 B2) B3⟩
      · have HR : Hid (powR zs k = ([], 5)) := by simp [Hid, powR, hc, hz]
        have hb : (el zs 0 != 1) = true := by simpa using hz
        clear hs hk hc hz h
        go_enter Try.func17, Try.ntmps17
        go_wp2_with fail
        refine (l02Is_any _ zs _ h0.out).mono ?_; rintro e w' ⟨rfl, rfl⟩; rw [HS.out]
        go_wp2_with fail
        refine (sIsNumber_any _ _).mono ?_; rintro e w' ⟨rfl, rfl⟩; rw [HK.out]
        go_wp2
        go_ret2
        rw [HR.out]
        exact ⟨_, rfl, OwnI.nil _ _, Below.refl _ _⟩
    | false =>
      have HR : Hid (powR zs k = ([], 2)) := by simp [Hid, powR, code1, hs, hk, codeOf]
      have HK := hid hk
      clear hs hk
      go_enter Try.func17, Try.ntmps17
      go_wp2_with fail
      refine (l02Is_any _ zs _ h).mono ?_; rintro e w' ⟨rfl, rfl⟩; rw [HS.out]
      go_wp2_with fail
      refine (sIsNumber_any _ _).mono ?_; rintro e w' ⟨rfl, rfl⟩; rw [HK.out]
      go_wp2
      go_ret2
      rw [HR.out]
      exact ⟨_, rfl, OwnI.nil _ _, Below.refl _ _⟩
  | false =>
    have HR : Hid (powR zs k = ([], 1)) := by simp [Hid, powR, code1, hs]
    have HS := hid hs
    clear hs
    go_enter Try.func17, Try.ntmps17
    go_wp2_with fail
    refine (l02Is_any _ zs _ h).mono ?_; rintro e w' ⟨rfl, rfl⟩; rw [HS.out]
    go_wp2
    go_ret2
    rw [HR.out]
    exact ⟨_, rfl, OwnI.nil _ _, Below.refl _ _⟩
end Go.Proofs.Ytnjaalblgakgaaa
