/-
  The walks of the tests of level lists, of leaves and heights.
-/
import Derived.Test.YthjdmkjncaemgaaField
import Derived.Test.YthjdmkjncaemgaaTreeP
namespace Go.Proofs.Ythjdmkjncaemgaa
open Go.RowKit
set_option maxRecDepth 100000
theorem wrap_in (n : Int) (h : 0 ≤ n) (h' : n ≤ 1048577) : wrap64 n = n := IntWalk.wrap64_in n (by omega)
theorem stepS_all_false {wr : Int → Int} {zs : List Int} {k m : Nat} (h : stepS wr zs (k + 1) = false) (hm : k < m) : stepS wr zs m = false := by
  induction m with
  | zero => omega
  | succ m ih =>
    rw [stepS]
    by_cases hkm : k = m
    · subst hkm; rw [stepS] at h; exact h
    · rw [ih (by omega)]; rfl
/-- What the reference's test comes to. -/
theorem isLev_spec (zs : List Int) (hl : zs.length ≤ 1048576) : isLev zs = (decide (0 < zs.length) && decide (zs.length ≤ 8) && decide (el zs 0 = 0) && stepS wrap64 zs (zs.length - 1)) := by
  unfold isLev
  by_cases h0 : 0 < zs.length
  · by_cases hz : el zs 0 = 0
    · rw [stepS_lev _ wrap_in hz _ (by omega), show zs.length - 1 + 1 = zs.length by omega]; simp [hz]
    · have : levTo zs zs.length = false := by
        cases h : levTo zs zs.length with
        | false => rfl
        | true => exact absurd (levTo_zero h h0) hz
      rw [this]; simp [hz]
  · simp [h0]
theorem l03Is_any (v : Value) (zs : List Int) (w : World) (h : RdI w v zs) :
    Calls Try.prog 30 #[v] w fun e w' => e = .returned (.bool (isLev zs)) ∧ Dr w w' := by
  have H := hid h
  obtain ⟨ao, cap, rfl, hcap, hmax, -⟩ := h
  have HS := hid (isLev_spec zs hmax)
  go_enter Try.func30, Try.ntmps30
  go_wp2
  go_loopw [3] (fun i wr => ∃ k : Nat, (k + 1 ≤ zs.length ∨ k = 0) ∧ i = .int .i64 ((k + 1 : Nat) : Int) ∧ stepS wrap64 zs k = true ∧ Dr w wr) (fun i _ => zs.length - (intOf i).toNat)
  case atStart => exact ⟨0, .inr rfl, rfl, rfl, Dr.refl _⟩
  case round =>
    obtain ⟨k, hk, rfl, hst, hdr⟩ := hrel
    have HT := hid hst
    clear hst
    by_cases hlt : k + 1 < zs.length
    · obtain ⟨b, off, rfl, hcell⟩ := (H.out.dr hdr).at_ (k := k + 1) hlt
      obtain ⟨b', off', e2, hcell2⟩ := (H.out.dr hdr).at_ (k := k) (by omega)
      cases e2
      have s1 : IntKind.i64.wrap ((k : Int) + 1 - 1) = (k : Int) := by rw [show (k : Int) + 1 - 1 = k by omega]; exact IntWalk.i64_in _ (by omega)
      have s2 : (k : Int) + 1 < (zs.length : Int) := by omega
      have s3 : (0 : Int) ≤ (k : Int) + 1 := by omega
      have s4 : ((k : Int) + 1).toNat = k + 1 := by omega
      have s5 : (0 : Int) ≤ (k : Int) := by omega
      have s6 : (k : Int) < (zs.length : Int) := by omega
      have HD := hid hdr
      clear hdr
      cases hr : inR (el zs (k + 1)) 1 (wrap64 (el zs k + 1)) with
      | true =>
        have HR := hid hr
        clear hr
        go_wp2_with fail
        go_quiet ((first | (go_at_call 49; exact quiet_same (l01In_any _ _ _ _))))
        rw [HR.out]
        clear s1 s2 s3 s4 s5 s6
        go_wp2
        go_roundw
        case rel => exact ⟨k + 1, .inl (by omega), by go_num, by rw [stepS, HT.out, HR.out]; rfl, HD.out.drewN _⟩
        case measure => simp [intOf]; omega
      | false =>
        have HR := hid hr
        clear hr
        go_wp2_with fail
        go_quiet ((first | (go_at_call 49; exact quiet_same (l01In_any _ _ _ _))))
        rw [HR.out]
        clear s1 s2 s3 s4 s5 s6
        go_wp2
        go_ret
        have hf : stepS wrap64 zs (zs.length - 1) = false := stepS_all_false (k := k) (by rw [stepS, HR.out]; simp) (by omega)
        exact ⟨ret_bool (by rw [HS.out, hf]; simp), HD.out.drewN _⟩
    · have HD := hid hdr
      by_cases h0 : 0 < zs.length
      · have hkl : Hid (k = zs.length - 1) := by simp only [Hid]; omega
        obtain ⟨b, off, rfl, hcell⟩ := (H.out.dr hdr).at_ (k := 0) h0
        rw [Nat.add_zero] at hcell
        have n0 : (0 : Int) < (zs.length : Int) := by omega
        clear hdr
        by_cases h8 : zs.length ≤ 8
        · have n8 : (zs.length : Int) ≤ 8 := by omega
          go_wp2
          go_ret
          refine ⟨ret_bool ?_, HD.out⟩
          have := HT.out
          rw [hkl.out] at this
          rw [HS.out, this]
          simp [h0, h8]
          rfl
        · have n8 : 8 < (zs.length : Int) := by omega
          go_wp2
          go_ret
          exact ⟨ret_bool (by rw [HS.out]; simp [h8]), HD.out⟩
      · have n0 : (zs.length : Int) ≤ 0 := by omega
        clear hdr
        go_wp2
        go_ret
        exact ⟨ret_bool (by rw [HS.out]; simp [h0]), HD.out⟩
theorem levTo_false {zs : List Int} {k m : Nat} (h : levTo zs k = false) (hm : k ≤ m) : levTo zs m = false := by
  cases h' : levTo zs m with
  | false => rfl
  | true => rw [levTo_le h' hm] at h; cases h
set_option maxHeartbeats 1000000 in
theorem isLevelList_any (v : Value) (zs : List Int) (w : World) (h : RdI w v zs) :
    Calls Try.prog 52 #[v] w fun e w' => e = .returned (.bool (decide (0 < zs.length) && levTo zs zs.length)) ∧ w = w' := by
  have H := hid h
  obtain ⟨ao, cap, rfl, hcap, hmax, -⟩ := h
  go_enter Try.func52, Try.ntmps52
  go_wp2
  go_loop [7] (fun i => ∃ k : Nat, k ≤ zs.length ∧ i = .int .i64 k ∧ levTo zs k = true) (fun i => zs.length - (intOf i).toNat)
  case atStart => exact ⟨0, Nat.zero_le _, rfl, rfl⟩
  case round =>
    obtain ⟨k, hk, rfl, hl⟩ := hrel
    by_cases hlt : k < zs.length
    · obtain ⟨b, off, rfl, hcell⟩ := H.out.at_ hlt
      by_cases h0 : k = 0
      · subst h0
        rw [Nat.add_zero] at hcell
        have HL := hid hl
        clear hl
        by_cases hz : el zs 0 = 0
        · have hb : (el zs 0 != 0) = false := by simp [hz]
          have HZ := hid hz
          clear hz
          go_wp2
          go_round
          case rel => exact ⟨1, by omega, rfl, by rw [levTo, HL.out]; simp [HZ.out]⟩
          case measure => simp [intOf]; omega
        · have hb : (el zs 0 != 0) = true := by simpa using hz
          have HZ := hid hz
          clear hz
          go_wp2
          go_ret
          exact ⟨ret_bool (by simp only [levTo_false (zs := zs) (k := 1) (m := zs.length) (by rw [levTo]; simp [HZ.out]) (by omega)]), rfl⟩
      · obtain ⟨b', off', e2, hcell2⟩ := H.out.at_ (k := k - 1) (by omega)
        cases e2
        have bd := levTo_bd hl (k - 1) (by omega)
        have HL := hid hl
        have k0 : 0 < (k : Int) := by omega
        have kb : ((k : Int) == 0) = false := by simpa using h0
        have H0 := hid h0
        clear hl h0
        cases hr : inR (el zs k) 1 (el zs (k - 1) + 1) with
        | true =>
          have HR := hid hr
          clear hr
          go_wp2_with (go_at_call 62; refine (inRange_any _ _ _ _).mono ?_; rintro e w' ⟨rfl, rfl⟩; rw [HR.out])
          go_round
          case rel => exact ⟨k + 1, by omega, by go_num, by rw [levTo, HL.out, if_neg H0.out, levAt, HR.out]; rfl⟩
          case measure => simp [intOf]; omega
        | false =>
          have HR := hid hr
          clear hr
          go_wp2_with (go_at_call 62; refine (inRange_any _ _ _ _).mono ?_; rintro e w' ⟨rfl, rfl⟩; rw [HR.out])
          go_ret
          exact ⟨ret_bool (by rw [levTo_false (k := k + 1) (by rw [levTo, if_neg H0.out, levAt, HR.out]; simp) (by omega)]; simp), rfl⟩
    · have HL := hid hl
      obtain rfl : k = zs.length := by omega
      clear hl
      go_wp2
      go_ret
      exact ⟨ret_bool (by rw [HL.out]; simp), rfl⟩
theorem isLevels_any (v : Value) (zs : List Int) (w : World) (h : RdI w v zs) :
    Calls Try.prog 33 #[v] w fun e w' => e = .returned (.bool (isLev zs)) ∧ w = w' := by
  have H := hid h
  obtain ⟨ao, cap, rfl, hcap, hmax, -⟩ := h
  by_cases h8 : zs.length ≤ 8
  · go_enter Try.func33, Try.ntmps33
    go_wp2_with (go_at_call 52; refine (isLevelList_any _ zs _ H.out).mono ?_; rintro e w' ⟨rfl, rfl⟩)
    go_ret
    exact ⟨ret_bool (by rw [isLev]; simp [h8]), rfl⟩
  · go_enter Try.func33, Try.ntmps33
    go_wp2
    go_ret
    exact ⟨ret_bool (by rw [isLev]; simp; omega), rfl⟩
def heightR (zs : List Int) : Int × Int := if isLev zs = true then (mxl zs zs.length, 0) else (0, 1)
theorem mxl_bd {zs : List Int} (h : levTo zs zs.length = true) (k : Nat) (hk : k ≤ zs.length) : 0 ≤ mxl zs k ∧ mxl zs k ≤ k := by
  induction k with
  | zero => simp [mxl]
  | succ k ih =>
    have := ih (by omega)
    have b := levTo_bd h k (by omega)
    simp only [mxl]; omega
def leavesR (zs : List Int) : Int × Int := if isLev zs = true then (lvs zs zs.length + 1, 0) else (0, 1)
def lvS (zs : List Int) (k : Nat) : Int := if k < zs.length then lvs zs (k + 1) else lvs zs k + 1
theorem lvS_bd (zs : List Int) (k : Nat) : 0 ≤ lvS zs k ∧ lvS zs k ≤ k + 1 := by
  have := lvs_bd zs (k + 1)
  have := lvs_bd zs k
  unfold lvS; split <;> omega
end Go.Proofs.Ythjdmkjncaemgaa
