/-
  The walks of comparisons of lists.
-/
import Derived.Test.YthjdmkjncaemgaaRows
import Derived.Test.YthjdmkjncaemgaaTreeC
import Derived.Test.YthjdmkjncaemgaaMem
namespace Go.Proofs.Ythjdmkjncaemgaa
open Go.RowKit
set_option maxRecDepth 100000
/-- What cmp.Compare returns of integers. -/
def cmpI (x y : Int) : Int := if x < y then -1 else if y < x then 1 else 0
theorem isNaN_any (x : Int) (w : World) :
    Calls Try.prog 78 #[.int .i64 x] w fun e w' => e = .returned (.bool false) ∧ w = w' := by
  go_enter Try.func78, Try.ntmps78
  go_wp2
  go_ret
  exact ⟨rfl, rfl⟩
theorem cmpCompare_any (x y : Int) (w : World) :
    Calls Try.prog 66 #[.int .i64 x, .int .i64 y] w fun e w' => e = .returned (.int .i64 (cmpI x y)) ∧ w = w' := by
  by_cases h : x < y
  · go_enter Try.func66, Try.ntmps66
    go_wp2_with (go_at_call 78; refine (isNaN_any _ _).mono ?_; rintro e w' ⟨rfl, rfl⟩)
    go_ret
    exact ⟨ret_int (by rw [cmpI, if_pos (by omega)]), rfl⟩
  · by_cases h2 : y < x
    · go_enter Try.func66, Try.ntmps66
      go_wp2_with (go_at_call 78; refine (isNaN_any _ _).mono ?_; rintro e w' ⟨rfl, rfl⟩)
      go_ret
      exact ⟨ret_int (by rw [cmpI, if_neg (by omega), if_pos (by omega)]), rfl⟩
    · go_enter Try.func66, Try.ntmps66
      go_wp2_with (go_at_call 78; refine (isNaN_any _ _).mono ?_; rintro e w' ⟨rfl, rfl⟩)
      go_ret
      exact ⟨ret_int (by rw [cmpI, if_neg (by omega), if_neg (by omega)]), rfl⟩
theorem slicesCompare_any (v u : Value) (xs ys : List Int) (w : World) (h : RdI w v xs) (h' : RdI w u ys) :
    Calls Try.prog 58 #[v, u] w fun e w' => e = .returned (.int .i64 (cmpL xs ys)) ∧ w = w' := by
  have H := hid h
  have H' := hid h'
  obtain ⟨ao, cap, rfl, hcap, hmax, -⟩ := h
  obtain ⟨ao', cap', rfl, hcap', hmax', -⟩ := h'
  go_enter Try.func58, Try.ntmps58
  go_wp2
  go_loop [11] (fun i => ∃ k : Nat, k ≤ xs.length ∧ k ≤ ys.length ∧ i = .int .i64 k ∧ Hid (∀ j, j < k → el xs j = el ys j)) (fun i => xs.length - (intOf i).toNat)
  case atStart => exact ⟨0, Nat.zero_le _, Nat.zero_le _, rfl, fun j hj => by omega⟩
  case round =>
    obtain ⟨k, hk, hk', rfl, HS⟩ := hrel
    by_cases hlt : k < xs.length
    · obtain ⟨b, off, rfl, hcell⟩ := H.out.at_ hlt
      by_cases hlt' : k < ys.length
      · obtain ⟨b', off', rfl, hcell'⟩ := H'.out.at_ hlt'
        by_cases he : el xs k = el ys k
        · have HE : Hid (cmpI (el xs k) (el ys k) = 0) := by simp only [Hid, cmpI]; rw [he]; simp
          have HE2 := hid he
          clear he
          go_wp2_with (go_at_call 66; refine (cmpCompare_any _ _ _).mono ?_; rintro e w' ⟨rfl, rfl⟩; rw [HE.out])
          go_round
          case rel =>
            refine ⟨k + 1, by omega, by omega, by go_num, fun j hj => ?_⟩
            by_cases hjk : j = k
            · rw [hjk]; exact HE2.out
            · exact HS.out j (by omega)
          case measure => simp [intOf]; omega
        · have HC := hid (cmpL_at k HS.out hlt hlt' he)
          by_cases hl : el xs k < el ys k
          · have HE : Hid (cmpI (el xs k) (el ys k) = -1) := by simp only [Hid, cmpI]; rw [if_pos hl]
            have HR : Hid (cmpL xs ys = -1) := by simp only [Hid]; rw [HC.out, if_pos hl]
            clear he hl HC
            go_wp2_with (go_at_call 66; refine (cmpCompare_any _ _ _).mono ?_; rintro e w' ⟨rfl, rfl⟩; rw [HE.out])
            go_ret
            exact ⟨by rw [HR.out]; rfl, rfl⟩
          · have HE : Hid (cmpI (el xs k) (el ys k) = 1) := by simp only [Hid, cmpI]; rw [if_neg hl, if_pos (by omega)]
            have HR : Hid (cmpL xs ys = 1) := by simp only [Hid]; rw [HC.out, if_neg hl]
            clear he hl HC
            go_wp2_with (go_at_call 66; refine (cmpCompare_any _ _ _).mono ?_; rintro e w' ⟨rfl, rfl⟩; rw [HE.out])
            go_ret
            exact ⟨by rw [HR.out]; rfl, rfl⟩
      · have hge : (ys.length : Int) ≤ (k : Int) := by omega
        have HR : Hid (cmpL xs ys = 1) := by
          simp only [Hid]; rw [cmpL_end (fun j h1 h2 => HS.out j (by omega)), if_neg (by omega), if_pos (by omega)]
        go_wp2
        go_ret
        exact ⟨by rw [HR.out]; rfl, rfl⟩
    · obtain rfl : k = xs.length := by omega
      have HC : Hid (cmpL xs ys = _) := cmpL_end (fun j h1 h2 => HS.out j h1)
      by_cases hl : xs.length < ys.length
      · have HR : Hid (cmpL xs ys = -1) := by simp only [Hid]; rw [HC.out, if_pos hl]
        clear HC
        go_wp2
        go_ret
        exact ⟨by rw [HR.out]; rfl, rfl⟩
      · have HR : Hid (cmpL xs ys = 0) := by simp only [Hid]; rw [HC.out, if_neg hl, if_neg (by omega)]
        clear HC
        go_wp2
        go_ret
        exact ⟨by rw [HR.out]; rfl, rfl⟩
theorem canonical1_any (v u : Value) (xs ys : List Int) (w : World) (h : RdI w v xs) (h' : RdI w u ys) :
    Calls Try.prog 57 #[v, u] w fun e w' => e = .returned (.int .i64 (cmpL ys xs)) ∧ w = w' := by
  go_enter Try.func57, Try.ntmps57
  go_wp2_with (go_at_call 58; refine (slicesCompare_any _ _ ys xs _ h' h).mono ?_; rintro e w' ⟨rfl, rfl⟩)
  go_ret
  exact ⟨rfl, rfl⟩
theorem compareTrees_any (v u : Value) (xs ys : List Int) (w : World) (h : RdI w v xs) (h' : RdI w u ys) :
    Calls Try.prog 43 #[v, u] w fun e w' => e = .returned (.int .i64 (cmpT xs ys)) ∧ w = w' := by
  have H := hid h
  have H' := hid h'
  obtain ⟨ao, cap, rfl, hcap, hmax, -⟩ := h
  obtain ⟨ao', cap', rfl, hcap', hmax', -⟩ := h'
  by_cases hl : xs.length = ys.length
  · have HR : Hid (cmpT xs ys = cmpL ys xs) := by simp only [Hid, cmpT]; rw [if_pos hl]
    have hb : (((xs.length : Int)) != ((ys.length : Int))) = false := by simp [hl]
    clear hl
    go_enter Try.func43, Try.ntmps43
    go_wp2_with (go_at_call 58; refine (slicesCompare_any _ _ ys xs _ H'.out H.out).mono ?_; rintro e w' ⟨rfl, rfl⟩)
    go_ret
    exact ⟨by rw [HR.out]; rfl, rfl⟩
  · have HR : Hid (cmpT xs ys = (xs.length : Int) - ys.length) := by simp only [Hid, cmpT]; rw [if_neg hl]
    have hb : (((xs.length : Int)) != ((ys.length : Int))) = true := by simp; omega
    clear hl
    go_enter Try.func43, Try.ntmps43
    go_wp2
    go_ret
    exact ⟨by rw [HR.out]; rfl, rfl⟩
theorem l01Less_any (v u : Value) (xs ys : List Int) (w : World) (h : RdI w v xs) (h' : RdI w u ys) :
    Calls Try.prog 51 #[v, u] w fun e w' => e = .returned (.bool (ltL xs ys)) ∧ Dr w w' := by
  have H := hid h
  have H' := hid h'
  obtain ⟨ao, cap, rfl, hcap, hmax, -⟩ := h
  obtain ⟨ao', cap', rfl, hcap', hmax', -⟩ := h'
  go_enter Try.func51, Try.ntmps51
  go_wp2
  go_loopw [5] (fun i wr => ∃ k : Nat, k ≤ xs.length ∧ k ≤ ys.length ∧ i = .int .i64 k ∧ Hid (∀ j, j < k → el xs j = el ys j) ∧ Dr w wr) (fun i _ => xs.length - (intOf i).toNat)
  case atStart => exact ⟨0, Nat.zero_le _, Nat.zero_le _, rfl, fun j hj => by omega, Dr.refl _⟩
  case round =>
    obtain ⟨k, hk, hk', rfl, HS, hdr⟩ := hrel
    by_cases hlt : k < xs.length
    · by_cases hlt' : k < ys.length
      · obtain ⟨b, off, rfl, hcell⟩ := (H.out.dr hdr).at_ hlt
        obtain ⟨b', off', rfl, hcell'⟩ := (H'.out.dr hdr).at_ hlt'
        have HD := hid hdr
        clear hdr
        by_cases he : el xs k = el ys k
        · have HE := hid he
          have hb2 : (el xs k != el ys k) = false := by simp [he]
          clear he
          go_wp2_with fail
          go_quiet (fail)
          go_wp2
          go_roundw
          case rel =>
            refine ⟨k + 1, by omega, by omega, by go_num, fun j hj => ?_, HD.out.drewN _⟩
            by_cases hjk : j = k
            · rw [hjk]; exact HE.out
            · exact HS.out j (by omega)
          case measure => simp [intOf]; omega
        · have HC := hid (ltL_at k HS.out hlt hlt' he)
          have hb2 : (el xs k != el ys k) = true := by simp [he]
          clear he
          go_wp2_with fail
          go_quiet (fail)
          go_wp2_with fail
          go_quiet (fail)
          go_wp2
          go_ret
          exact ⟨ret_bool (by rw [HC.out]), (HD.out.drewN _).drewN _⟩
      · have HC := hid (ltL_end (xs := xs) (ys := ys) (fun j h1 h2 => HS.out j (by omega)))
        have hge : (ys.length : Int) ≤ (k : Int) := by omega
        go_wp2
        go_ret
        exact ⟨ret_bool (by rw [HC.out]), hdr⟩
    · have HC := hid (ltL_end (xs := xs) (ys := ys) (fun j h1 h2 => HS.out j (by omega)))
      go_wp2
      go_ret
      exact ⟨ret_bool (by rw [HC.out]), hdr⟩
theorem l03Before_any (v u : Value) (xs ys : List Int) (w : World) (h : RdI w v xs) (h' : RdI w u ys) :
    Calls Try.prog 61 #[v, u] w fun e w' => e = .returned (.bool (ltT xs ys)) ∧ Dr w w' := by
  have H := hid h
  have H' := hid h'
  obtain ⟨ao, cap, rfl, hcap, hmax, -⟩ := h
  obtain ⟨ao', cap', rfl, hcap', hmax', -⟩ := h'
  by_cases hl : xs.length = ys.length
  · have HR : Hid (ltT xs ys = ltL ys xs) := by simp only [Hid, ltT]; rw [if_pos hl]
    have hb : (((xs.length : Int)) != ((ys.length : Int))) = false := by simp [hl]
    clear hl
    go_enter Try.func61, Try.ntmps61
    go_wp2_with (go_at_call 51; refine (l01Less_any _ _ ys xs _ H'.out H.out).mono ?_; rintro e w' ⟨rfl, D⟩)
    go_ret
    exact ⟨by rw [HR.out]; rfl, D⟩
  · have HR : Hid (ltT xs ys = decide (xs.length < ys.length)) := by simp only [Hid, ltT]; rw [if_neg hl]
    have hb : (((xs.length : Int)) != ((ys.length : Int))) = true := by simp; omega
    clear hl
    go_enter Try.func61, Try.ntmps61
    go_wp2
    go_ret
    exact ⟨ret_bool (by rw [HR.out]), Dr.refl _⟩
theorem l01Same_any (v u : Value) (xs ys : List Int) (w : World) (h : RdI w v xs) (h' : RdI w u ys) :
    Calls Try.prog 59 #[v, u] w fun e w' => e = .returned (.bool (sameL xs ys)) ∧ Dr w w' := by
  have H := hid h
  have H' := hid h'
  obtain ⟨ao, cap, rfl, hcap, hmax, -⟩ := h
  obtain ⟨ao', cap', rfl, hcap', hmax', -⟩ := h'
  by_cases hl : xs.length = ys.length
  · have hl1 : xs.length ≤ ys.length := by omega
    have HL := hid hl
    have hb : (((xs.length : Int)) != ((ys.length : Int))) = false := by simp [hl]
    clear hl
    go_enter Try.func59, Try.ntmps59
    go_wp2
    go_loopw [5] (fun i wr => ∃ k : Nat, k ≤ xs.length ∧ i = .int .i64 k ∧ Hid (∀ j, j < k → el xs j = el ys j) ∧ Dr w wr) (fun i _ => xs.length - (intOf i).toNat)
    case atStart => exact ⟨0, Nat.zero_le _, rfl, fun j hj => by omega, Dr.refl _⟩
    case round =>
      obtain ⟨k, hk, rfl, HS, hdr⟩ := hrel
      by_cases hlt : k < xs.length
      · have hlt' : k < ys.length := by omega
        obtain ⟨b, off, rfl, hcell⟩ := (H.out.dr hdr).at_ hlt
        obtain ⟨b', off', rfl, hcell'⟩ := (H'.out.dr hdr).at_ hlt'
        have HD := hid hdr
        clear hdr
        by_cases he : el xs k = el ys k
        · have HE := hid he
          have hb2 : (el xs k != el ys k) = false := by simp [he]
          clear he
          go_wp2_with fail
          go_quiet (fail)
          go_wp2
          go_roundw
          case rel =>
            refine ⟨k + 1, by omega, by go_num, fun j hj => ?_, HD.out.drewN _⟩
            by_cases hjk : j = k
            · rw [hjk]; exact HE.out
            · exact HS.out j (by omega)
          case measure => simp [intOf]; omega
        · have HE := hid he
          have hb2 : (el xs k != el ys k) = true := by simp [he]
          clear he
          go_wp2_with fail
          go_quiet (fail)
          go_wp2
          go_ret
          exact ⟨ret_bool (by rw [sameL_at k HE.out]), HD.out.drewN _⟩
      · go_wp2
        go_ret
        exact ⟨ret_bool (by rw [sameL_true HL.out (fun j hj => HS.out j (by omega))]), hdr⟩
  · have hb : (((xs.length : Int)) != ((ys.length : Int))) = true := by simp; omega
    have HL := hid hl
    clear hl
    go_enter Try.func59, Try.ntmps59
    go_wp2
    go_ret
    exact ⟨ret_bool (by rw [sameL_len HL.out]), Dr.refl _⟩
theorem slicesEqual_any (v u : Value) (xs ys : List Int) (w : World) (h : RdI w v xs) (h' : RdI w u ys) :
    Calls Try.prog 60 #[v, u] w fun e w' => e = .returned (.bool (sameL xs ys)) ∧ Dr w w' := by
  have H := hid h
  have H' := hid h'
  obtain ⟨ao, cap, rfl, hcap, hmax, -⟩ := h
  obtain ⟨ao', cap', rfl, hcap', hmax', -⟩ := h'
  by_cases hl : xs.length = ys.length
  · have hl1 : xs.length ≤ ys.length := by omega
    have HL := hid hl
    have hb : (((xs.length : Int)) != ((ys.length : Int))) = false := by simp [hl]
    clear hl
    go_enter Try.func60, Try.ntmps60
    go_wp2
    go_loopw [13] (fun i wr => ∃ k : Nat, k ≤ xs.length ∧ i = .int .i64 k ∧ Hid (∀ j, j < k → el xs j = el ys j) ∧ Dr w wr) (fun i _ => xs.length - (intOf i).toNat)
    case atStart => exact ⟨0, Nat.zero_le _, rfl, fun j hj => by omega, Dr.refl _⟩
    case round =>
      obtain ⟨k, hk, rfl, HS, hdr⟩ := hrel
      by_cases hlt : k < xs.length
      · have hlt' : k < ys.length := by omega
        obtain ⟨b, off, rfl, hcell⟩ := (H.out.dr hdr).at_ hlt
        obtain ⟨b', off', rfl, hcell'⟩ := (H'.out.dr hdr).at_ hlt'
        have HD := hid hdr
        clear hdr
        by_cases he : el xs k = el ys k
        · have HE := hid he
          have hb2 : (el xs k != el ys k) = false := by simp [he]
          clear he
          go_wp2_with fail
          go_quiet (fail)
          go_wp2
          go_roundw
          case rel =>
            refine ⟨k + 1, by omega, by go_num, fun j hj => ?_, HD.out.drewN _⟩
            by_cases hjk : j = k
            · rw [hjk]; exact HE.out
            · exact HS.out j (by omega)
          case measure => simp [intOf]; omega
        · have HE := hid he
          have hb2 : (el xs k != el ys k) = true := by simp [he]
          clear he
          go_wp2_with fail
          go_quiet (fail)
          go_wp2
          go_ret
          exact ⟨ret_bool (by rw [sameL_at k HE.out]), HD.out.drewN _⟩
      · go_wp2
        go_ret
        exact ⟨ret_bool (by rw [sameL_true HL.out (fun j hj => HS.out j (by omega))]), hdr⟩
  · have hb : (((xs.length : Int)) != ((ys.length : Int))) = true := by simp; omega
    have HL := hid hl
    clear hl
    go_enter Try.func60, Try.ntmps60
    go_wp2
    go_ret
    exact ⟨ret_bool (by rw [sameL_len HL.out]), Dr.refl _⟩
end Go.Proofs.Ythjdmkjncaemgaa
