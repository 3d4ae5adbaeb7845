/-
  The walks of the tests of level lists, of leaves and heights.
-/
import Derived.Test.YtoiangfookhfdaaField
import Derived.Test.YtoiangfookhfdaaTreeP
namespace Go.Proofs.Ytoiangfookhfdaa
open Go.RowKit
set_option maxRecDepth 100000
theorem wrap_in (n : Int) (h : 0 ≤ n) (h' : n ≤ 1048577) : wrap64 n = n := IntWalk.wrap64_in n (by omega)
theorem stepS_all_false {wr : Int → Int} {zs : List Int} {k m : Nat} (h : stepS wr zs (k + 1) = false) (hm : k < m) : stepS wr zs m = false := by
  induction m with
  | zero => omega
  | succ m ih =>
    rw [stepS]
    by_cases hkm : k = m
    · subst hkm; rw [stepS] at h; exact h
    · rw [ih (by omega)]; rfl
/-- What the reference's test comes to. -/
theorem isLev_spec (zs : List Int) (hl : zs.length ≤ 1048576) : isLev zs = (decide (0 < zs.length) && decide (zs.length ≤ 8) && decide (el zs 0 = 0) && stepS wrap64 zs (zs.length - 1)) := by
  unfold isLev
  by_cases h0 : 0 < zs.length
  · by_cases hz : el zs 0 = 0
    · rw [stepS_lev _ wrap_in hz _ (by omega), show zs.length - 1 + 1 = zs.length by omega]; simp [hz]
    · have : levTo zs zs.length = false := by
        cases h : levTo zs zs.length with
        | false => rfl
        | true => exact absurd (levTo_zero h h0) hz
      rw [this]; simp [hz]
  · simp [h0]
theorem l03Is_any (v : Value) (zs : List Int) (w : World) (h : RdI w v zs) :
    Calls Try.prog 46 #[v] w fun e w' => e = .returned (.bool (isLev zs)) ∧ Dr w w' := by
  have H := hid h
  obtain ⟨ao, cap, rfl, hcap, hmax, -⟩ := h
  have HS := hid (isLev_spec zs hmax)
  go_enter Try.func46, Try.ntmps46
  go_wp2
  go_loopw [3] (fun i wr => ∃ k : Nat, (k + 1 ≤ zs.length ∨ k = 0) ∧ i = .int .i64 ((k + 1 : Nat) : Int) ∧ stepS wrap64 zs k = true ∧ Dr w wr) (fun i _ => zs.length - (intOf i).toNat)
  case atStart => exact ⟨0, .inr rfl, rfl, rfl, Dr.refl _⟩
  case round =>
    obtain ⟨k, hk, rfl, hst, hdr⟩ := hrel
    have HT := hid hst
    clear hst
    by_cases hlt : k + 1 < zs.length
    · obtain ⟨b, off, rfl, hcell⟩ := (H.out.dr hdr).at_ (k := k + 1) hlt
      obtain ⟨b', off', e2, hcell2⟩ := (H.out.dr hdr).at_ (k := k) (by omega)
      cases e2
      have s1 : IntKind.i64.wrap ((k : Int) + 1 - 1) = (k : Int) := by rw [show (k : Int) + 1 - 1 = k by omega]; exact IntWalk.i64_in _ (by omega)
      have s2 : (k : Int) + 1 < (zs.length : Int) := by omega
      have s3 : (0 : Int) ≤ (k : Int) + 1 := by omega
      have s4 : ((k : Int) + 1).toNat = k + 1 := by omega
      have s5 : (0 : Int) ≤ (k : Int) := by omega
      have s6 : (k : Int) < (zs.length : Int) := by omega
      have HD := hid hdr
      clear hdr
      cases hr : inR (el zs (k + 1)) 1 (wrap64 (el zs k + 1)) with
      | true =>
        have HR := hid hr
        clear hr
        go_wp2_with fail
        go_quiet ((first | (go_at_call 51; exact quiet_same (l01In_any _ _ _ _))))
        rw [HR.out]
        clear s1 s2 s3 s4 s5 s6
        go_wp2
        go_roundw
        case rel => exact ⟨k + 1, .inl (by omega), by go_num, by rw [stepS, HT.out, HR.out]; rfl, HD.out.drewN _⟩
        case measure => simp [intOf]; omega
      | false =>
        have HR := hid hr
        clear hr
        go_wp2_with fail
        go_quiet ((first | (go_at_call 51; exact quiet_same (l01In_any _ _ _ _))))
        rw [HR.out]
        clear s1 s2 s3 s4 s5 s6
        go_wp2
        go_ret
        have hf : stepS wrap64 zs (zs.length - 1) = false := stepS_all_false (k := k) (by rw [stepS, HR.out]; simp) (by omega)
        exact ⟨ret_bool (by rw [HS.out, hf]; simp), HD.out.drewN _⟩
    · have HD := hid hdr
      by_cases h0 : 0 < zs.length
      · have hkl : Hid (k = zs.length - 1) := by simp only [Hid]; omega
        obtain ⟨b, off, rfl, hcell⟩ := (H.out.dr hdr).at_ (k := 0) h0
        rw [Nat.add_zero] at hcell
        have n0 : (0 : Int) < (zs.length : Int) := by omega
        clear hdr
        by_cases h8 : zs.length ≤ 8
        · have n8 : (zs.length : Int) ≤ 8 := by omega
          go_wp2
          go_ret
          refine ⟨ret_bool ?_, HD.out⟩
          have := HT.out
          rw [hkl.out] at this
          rw [HS.out, this]
          simp [h0, h8]
          rfl
        · have n8 : 8 < (zs.length : Int) := by omega
          go_wp2
          go_ret
          exact ⟨ret_bool (by rw [HS.out]; simp [h8]), HD.out⟩
      · have n0 : (zs.length : Int) ≤ 0 := by omega
        clear hdr
        go_wp2
        go_ret
        exact ⟨ret_bool (by rw [HS.out]; simp [h0]), HD.out⟩
theorem levTo_false {zs : List Int} {k m : Nat} (h : levTo zs k = false) (hm : k ≤ m) : levTo zs m = false := by
  cases h' : levTo zs m with
  | false => rfl
  | true => rw [levTo_le h' hm] at h; cases h
set_option maxHeartbeats 1000000 in
theorem isLevelList_any (v : Value) (zs : List Int) (w : World) (h : RdI w v zs) :
    Calls Try.prog 47 #[v] w fun e w' => e = .returned (.bool (decide (0 < zs.length) && levTo zs zs.length)) ∧ w = w' := by
  have H := hid h
  obtain ⟨ao, cap, rfl, hcap, hmax, -⟩ := h
  go_enter Try.func47, Try.ntmps47
  go_wp2
  go_loop [7] (fun i => ∃ k : Nat, k ≤ zs.length ∧ i = .int .i64 k ∧ levTo zs k = true) (fun i => zs.length - (intOf i).toNat)
  case atStart => exact ⟨0, Nat.zero_le _, rfl, rfl⟩
  case round =>
    obtain ⟨k, hk, rfl, hl⟩ := hrel
    by_cases hlt : k < zs.length
    · obtain ⟨b, off, rfl, hcell⟩ := H.out.at_ hlt
      by_cases h0 : k = 0
      · subst h0
        rw [Nat.add_zero] at hcell
        have HL := hid hl
        clear hl
        by_cases hz : el zs 0 = 0
        · have hb : (el zs 0 != 0) = false := by simp [hz]
          have HZ := hid hz
          clear hz
          go_wp2
          go_round
          case rel => exact ⟨1, by omega, rfl, by rw [levTo, HL.out]; simp [HZ.out]⟩
          case measure => simp [intOf]; omega
        · have hb : (el zs 0 != 0) = true := by simpa using hz
          have HZ := hid hz
          clear hz
          go_wp2
          go_ret
          exact ⟨ret_bool (by simp only [levTo_false (zs := zs) (k := 1) (m := zs.length) (by rw [levTo]; simp [HZ.out]) (by omega)]), rfl⟩
      · obtain ⟨b', off', e2, hcell2⟩ := H.out.at_ (k := k - 1) (by omega)
        cases e2
        have bd := levTo_bd hl (k - 1) (by omega)
        have HL := hid hl
        have k0 : 0 < (k : Int) := by omega
        have kb : ((k : Int) == 0) = false := by simpa using h0
        have H0 := hid h0
        clear hl h0
        cases hr : inR (el zs k) 1 (el zs (k - 1) + 1) with
        | true =>
          have HR := hid hr
          clear hr
          go_wp2_with (go_at_call 53; refine (inRange_any _ _ _ _).mono ?_; rintro e w' ⟨rfl, rfl⟩; rw [HR.out])
          go_round
          case rel => exact ⟨k + 1, by omega, by go_num, by rw [levTo, HL.out, if_neg H0.out, levAt, HR.out]; rfl⟩
          case measure => simp [intOf]; omega
        | false =>
          have HR := hid hr
          clear hr
          go_wp2_with (go_at_call 53; refine (inRange_any _ _ _ _).mono ?_; rintro e w' ⟨rfl, rfl⟩; rw [HR.out])
          go_ret
          exact ⟨ret_bool (by rw [levTo_false (k := k + 1) (by rw [levTo, if_neg H0.out, levAt, HR.out]; simp) (by omega)]; simp), rfl⟩
    · have HL := hid hl
      obtain rfl : k = zs.length := by omega
      clear hl
      go_wp2
      go_ret
      exact ⟨ret_bool (by rw [HL.out]; simp), rfl⟩
theorem isLevels_any (v : Value) (zs : List Int) (w : World) (h : RdI w v zs) :
    Calls Try.prog 17 #[v] w fun e w' => e = .returned (.bool (isLev zs)) ∧ w = w' := by
  have H := hid h
  obtain ⟨ao, cap, rfl, hcap, hmax, -⟩ := h
  by_cases h8 : zs.length ≤ 8
  · go_enter Try.func17, Try.ntmps17
    go_wp2_with (go_at_call 47; refine (isLevelList_any _ zs _ H.out).mono ?_; rintro e w' ⟨rfl, rfl⟩)
    go_ret
    exact ⟨ret_bool (by rw [isLev]; simp [h8]), rfl⟩
  · go_enter Try.func17, Try.ntmps17
    go_wp2
    go_ret
    exact ⟨ret_bool (by rw [isLev]; simp; omega), rfl⟩
theorem sIsLevels_any (v : Value) (zs : List Int) (w : World) (h : RdI w v zs) :
    Calls Try.prog 15 #[v] w fun e w' => e = .returned (.bool (isLev zs)) ∧ Dr w w' := by
  go_enter Try.func15, Try.ntmps15
  go_wp2_with (go_at_call 46; refine (l03Is_any _ zs _ h).mono ?_; rintro e w' ⟨rfl, n, rfl⟩)
  go_ret
  exact ⟨rfl, n, rfl⟩
def heightR (zs : List Int) : Int × Int := if isLev zs = true then (mxl zs zs.length, 0) else (0, 1)
theorem mxl_bd {zs : List Int} (h : levTo zs zs.length = true) (k : Nat) (hk : k ≤ zs.length) : 0 ≤ mxl zs k ∧ mxl zs k ≤ k := by
  induction k with
  | zero => simp [mxl]
  | succ k ih =>
    have := ih (by omega)
    have b := levTo_bd h k (by omega)
    simp only [mxl]; omega
theorem sHeightOf_any (v : Value) (zs : List Int) (w : World) (h : RdI w v zs) :
    Calls Try.prog 21 #[v] w fun e w' => e = .returned (.tuple #[.int .i64 (heightR zs).1, .int .i64 (heightR zs).2]) ∧ Dr w w' := by
  have H := hid h
  obtain ⟨ao, cap, rfl, hcap, hmax, -⟩ := h
  cases hs : isLev zs with
  | true =>
    have HS := hid hs
    have HL : Hid (levTo zs zs.length = true) := by simp only [Hid]; rw [isLev] at hs; simp at hs; exact hs.2
    clear hs
    go_enter Try.func21, Try.ntmps21
    go_wp2_with fail
    refine (l03Is_any _ zs _ H.out).mono ?_; rintro e w' ⟨rfl, n, rfl⟩; rw [HS.out]
    go_wp2
    go_loop [4, 5] (fun m i => ∃ k : Nat, k ≤ zs.length ∧ i = .int .i64 k ∧ m = .int .i64 (mxl zs k)) (fun _ i => zs.length - (intOf i).toNat)
    case atStart => exact ⟨0, Nat.zero_le _, rfl, rfl⟩
    case round =>
      obtain ⟨k, hk, rfl, rfl⟩ := hrel
      by_cases hlt : k < zs.length
      · obtain ⟨b, off, rfl, hcell⟩ := H.out.at_ hlt
        have hb := mxl_bd (HL.out) k hk
        go_wp2
        go_round
        case rel => exact ⟨k + 1, by omega, by go_num, by simp only [mxl]; congr 1; split <;> omega⟩
        case measure => simp [intOf]; omega
      · go_wp2
        go_ret2
        obtain rfl : k = zs.length := by omega
        exact ⟨by rw [heightR, if_pos HS.out]; rfl, n, rfl⟩
  | false =>
    have HS := hid hs
    clear hs
    go_enter Try.func21, Try.ntmps21
    go_wp2_with fail
    refine (l03Is_any _ zs _ H.out).mono ?_; rintro e w' ⟨rfl, n, rfl⟩; rw [HS.out]
    go_wp2
    go_ret2
    exact ⟨by rw [heightR, HS.out]; rfl, n, rfl⟩
theorem max_any (v : Value) (zs : List Int) (w : World) (h : RdI w v zs) (h0 : 0 < zs.length) (hz : levTo zs zs.length = true) :
    Calls Try.prog 48 #[v] w fun e w' => e = .returned (.int .i64 (mxl zs zs.length)) ∧ w = w' := by
  have H := hid h
  obtain ⟨ao, cap, rfl, hcap, hmax, -⟩ := h
  have n0 : ¬ (zs.length : Int) < 1 := by omega
  obtain ⟨b, off, rfl, hcell⟩ := H.out.at_ h0
  rw [Nat.add_zero] at hcell
  go_enter Try.func48, Try.ntmps48
  go_wp2
  go_loop [3, 4] (fun m i => ∃ k : Nat, 0 < k ∧ k ≤ zs.length ∧ i = .int .i64 k ∧ m = .int .i64 (mxl zs k)) (fun _ i => zs.length - (intOf i).toNat)
  case atStart => exact ⟨1, by omega, h0, rfl, by simp only [mxl, levTo_zero hz h0]; rfl⟩
  case round =>
    obtain ⟨k, hk0, hk, rfl, rfl⟩ := hrel
    by_cases hlt : k < zs.length
    · obtain ⟨b', off', e2, hcell2⟩ := H.out.at_ hlt
      cases e2
      go_wp2
      go_round
      case rel => exact ⟨k + 1, by omega, by omega, by go_num, by simp only [mxl]; congr 1; split <;> omega⟩
      case measure => simp [intOf]; omega
    · go_wp2
      go_ret
      obtain rfl : k = zs.length := by omega
      exact ⟨rfl, rfl⟩
theorem heightOf_any (v : Value) (zs : List Int) (w : World) (h : RdI w v zs) :
    Calls Try.prog 22 #[v] w fun e w' => e = .returned (.tuple #[.int .i64 (heightR zs).1, .int .i64 (heightR zs).2]) ∧ w = w' := by
  cases hs : isLev zs with
  | true =>
    have HS := hid hs
    have HL := hid (isLev_yes hs)
    clear hs
    go_enter Try.func22, Try.ntmps22
    go_wp2_with fail
    refine (isLevels_any _ zs _ h).mono ?_; rintro e w' ⟨rfl, rfl⟩; rw [HS.out]
    go_wp2_with fail
    refine (max_any _ zs _ h HL.out.1 HL.out.2.2).mono ?_; rintro e w' ⟨rfl, rfl⟩
    go_wp2
    go_ret2
    exact ⟨by rw [heightR, if_pos HS.out]; rfl, rfl⟩
  | false =>
    have HS := hid hs
    clear hs
    go_enter Try.func22, Try.ntmps22
    go_wp2_with fail
    refine (isLevels_any _ zs _ h).mono ?_; rintro e w' ⟨rfl, rfl⟩; rw [HS.out]
    go_wp2
    go_ret2
    exact ⟨by rw [heightR, HS.out]; rfl, rfl⟩
def leavesR (zs : List Int) : Int × Int := if isLev zs = true then (lvs zs zs.length + 1, 0) else (0, 1)
theorem leavesOf_any (v : Value) (zs : List Int) (w : World) (h : RdI w v zs) :
    Calls Try.prog 20 #[v] w fun e w' => e = .returned (.tuple #[.int .i64 (leavesR zs).1, .int .i64 (leavesR zs).2]) ∧ Dr w w' := by
  have H := hid h
  obtain ⟨ao, cap, rfl, hcap, hmax, -⟩ := h
  cases hs : isLev zs with
  | true =>
    have HS := hid hs
    have HL := hid (isLev_yes hs)
    clear hs
    go_enter Try.func20, Try.ntmps20
    go_wp2_with fail
    refine (isLevels_any _ zs _ H.out).mono ?_; rintro e w' ⟨rfl, rfl⟩; rw [HS.out]
    go_wp2
    go_loopw [4, 5] (fun m i wr => ∃ k : Nat, 0 < k ∧ k ≤ zs.length ∧ i = .int .i64 k ∧ m = .int .i64 (1 + lvs zs k) ∧ Dr w wr) (fun _ i _ => zs.length - (intOf i).toNat)
    case atStart => exact ⟨1, by omega, HL.out.1, rfl, by simp [lvs], Dr.refl _⟩
    case round =>
      obtain ⟨k, hk0, hk, rfl, rfl, hdr⟩ := hrel
      have hb := lvs_bd zs k
      by_cases hlt : k < zs.length
      · obtain ⟨b, off, rfl, hcell⟩ := (H.out.dr hdr).at_ (k := k) hlt
        obtain ⟨b', off', e2, hcell2⟩ := (H.out.dr hdr).at_ (k := k - 1) (by omega)
        cases e2
        have s1 : IntKind.i64.wrap ((k : Int) - 1) = (k : Int) - 1 := IntWalk.i64_in _ (by omega)
        have s3 : (0 : Int) ≤ (k : Int) - 1 := by omega
        have s4 : ((k : Int) - 1).toNat = k - 1 := by omega
        have s6 : (k : Int) - 1 < (zs.length : Int) := by omega
        have HD := hid hdr
        have H0 := hid hk0
        clear hdr
        by_cases hle : el zs k ≤ el zs (k - 1)
        · have HE := hid hle
          go_wp2_with fail
          go_quiet (fail)
          go_wp2
          go_roundw
          case rel => exact ⟨k + 1, by omega, by omega, by go_num, by simp only [lvs, if_pos (And.intro H0.out HE.out)]; congr 1; omega, HD.out.drewN _⟩
          case measure => simp [intOf]; omega
        · have HE := hid hle
          have hle : el zs (k - 1) < el zs k := by omega
          go_wp2_with fail
          go_quiet (fail)
          go_wp2
          go_roundw
          case rel => exact ⟨k + 1, by omega, by omega, by go_num, by simp only [lvs]; congr 1; omega, HD.out.drewN _⟩
          case measure => simp [intOf]; omega
      · have HD := hid hdr
        clear hdr
        go_wp2
        go_ret2
        obtain rfl : k = zs.length := by omega
        exact ⟨by rw [leavesR, if_pos HS.out, Int.add_comm]; rfl, HD.out⟩
  | false =>
    have HS := hid hs
    clear hs
    go_enter Try.func20, Try.ntmps20
    go_wp2_with fail
    refine (isLevels_any _ zs _ H.out).mono ?_; rintro e w' ⟨rfl, rfl⟩; rw [HS.out]
    go_wp2
    go_ret2
    exact ⟨by rw [leavesR, HS.out]; rfl, Dr.refl _⟩
def lvS (zs : List Int) (k : Nat) : Int := if k < zs.length then lvs zs (k + 1) else lvs zs k + 1
theorem lvS_bd (zs : List Int) (k : Nat) : 0 ≤ lvS zs k ∧ lvS zs k ≤ k + 1 := by
  have := lvs_bd zs (k + 1)
  have := lvs_bd zs k
  unfold lvS; split <;> omega
theorem sLeavesOf_any (v : Value) (zs : List Int) (w : World) (h : RdI w v zs) :
    Calls Try.prog 19 #[v] w fun e w' => e = .returned (.tuple #[.int .i64 (leavesR zs).1, .int .i64 (leavesR zs).2]) ∧ Dr w w' := by
  have H := hid h
  obtain ⟨ao, cap, rfl, hcap, hmax, -⟩ := h
  cases hs : isLev zs with
  | true =>
    have HS := hid hs
    have HL := hid (isLev_yes hs)
    clear hs
    go_enter Try.func19, Try.ntmps19
    go_wp2_with fail
    refine (l03Is_any _ zs _ H.out).mono ?_; rintro e w' ⟨rfl, n, rfl⟩; rw [HS.out]
    go_wp2
    go_loopw [4, 5] (fun m i wr => ∃ k : Nat, k ≤ zs.length ∧ i = .int .i64 k ∧ m = .int .i64 (lvS zs k) ∧ Dr w wr) (fun _ i _ => zs.length - (intOf i).toNat)
    case atStart => exact ⟨0, Nat.zero_le _, rfl, by rw [lvS, if_pos HL.out.1]; rfl, n, rfl⟩
    case round =>
      obtain ⟨k, hk, rfl, rfl, hdr⟩ := hrel
      have hb := lvS_bd zs k
      have HD := hid hdr
      by_cases hlt : k < zs.length
      · by_cases hl1 : k + 1 < zs.length
        · obtain ⟨b, off, rfl, hcell⟩ := (H.out.dr hdr).at_ (k := k) hlt
          obtain ⟨b', off', e2, hcell2⟩ := (H.out.dr hdr).at_ (k := k + 1) hl1
          cases e2
          clear hdr
          have s1 : IntKind.i64.wrap ((k : Int) + 1) = (k : Int) + 1 := IntWalk.i64_in _ (by omega)
          have s2 : (((k : Int) + 1) == (zs.length : Int)) = false := by simp; omega
          have s3 : (0 : Int) ≤ (k : Int) + 1 := by omega
          have s4 : ((k : Int) + 1).toNat = k + 1 := by omega
          have s6 : (k : Int) + 1 < (zs.length : Int) := by omega
          by_cases hle : el zs (k + 1) ≤ el zs k
          · have HE := hid hle
            go_wp2_with fail
            go_quiet (fail)
            go_wp2
            go_roundw
            case rel => exact ⟨k + 1, by omega, by go_num, by simp only [lvS, if_pos hl1, if_pos hlt, lvs, Nat.add_sub_cancel]; rw [if_pos (And.intro (Nat.succ_pos k) HE.out)], HD.out.drewN _⟩
            case measure => simp [intOf]; omega
          · have HE := hid hle
            have hle : el zs k < el zs (k + 1) := by omega
            go_wp2_with fail
            go_quiet (fail)
            go_wp2
            go_roundw
            case rel => exact ⟨k + 1, by omega, by go_num, by simp only [lvS, if_pos hl1, if_pos hlt, lvs, Nat.add_sub_cancel]; congr 1; omega, HD.out.drewN _⟩
            case measure => simp [intOf]; omega
        · have s2 : (((k : Int) + 1) == (zs.length : Int)) = true := by simp; omega
          have s1 : IntKind.i64.wrap ((k : Int) + 1) = (k : Int) + 1 := IntWalk.i64_in _ (by omega)
          clear hdr
          go_wp2_with fail
          go_quiet (fail)
          go_wp2
          go_roundw
          case rel => exact ⟨k + 1, by omega, by go_num, by simp only [lvS, if_neg hl1, if_pos hlt], HD.out.drewN _⟩
          case measure => simp [intOf]; omega
      · clear hdr
        go_wp2
        go_ret2
        obtain rfl : k = zs.length := by omega
        exact ⟨by rw [leavesR, if_pos HS.out, lvS, if_neg hlt]; rfl, HD.out⟩
  | false =>
    have HS := hid hs
    clear hs
    go_enter Try.func19, Try.ntmps19
    go_wp2_with fail
    refine (l03Is_any _ zs _ H.out).mono ?_; rintro e w' ⟨rfl, n, rfl⟩; rw [HS.out]
    go_wp2
    go_ret2
    exact ⟨by rw [leavesR, HS.out]; rfl, n, rfl⟩
end Go.Proofs.Ytoiangfookhfdaa
