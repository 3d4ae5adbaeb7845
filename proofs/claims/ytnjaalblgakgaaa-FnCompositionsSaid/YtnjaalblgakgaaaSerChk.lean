/-
  The walks of the tests of series.
-/
import Derived.Test.YtnjaalblgakgaaaNums
import Derived.Test.YtnjaalblgakgaaaRows2
namespace Go.Proofs.Ytnjaalblgakgaaa
open Go.RowKit
set_option maxRecDepth 100000
/-- Is a list a series? -/
def isSer (zs : List Int) : Bool := inR (zs.length : Int) 1 16 && zs.all isNum
theorem isSer_yes {zs : List Int} (h : isSer zs = true) : 1 ≤ zs.length ∧ zs.length ≤ 16 ∧ Nums zs := by
  rw [isSer, Bool.and_eq_true, inR_iff] at h
  exact ⟨by omega, by omega, h.2⟩
theorem l02Is_any (v : Value) (zs : List Int) (w : World) (h : RdI w v zs) :
    Calls Try.prog 56 #[v] w fun e w' => e = .returned (.bool (isSer zs)) ∧ w = w' := by
  have H := hid h
  obtain ⟨ao, cap, rfl, hcap, hmax, -⟩ := h
  cases hr : inR (zs.length : Int) 1 16 with
  | true =>
    have HR := hid hr
    clear hr
    go_enter Try.func56, Try.ntmps56
    go_wp2_with (first | (go_at_call 92; refine (l01In_any _ _ _ _).mono ?_; rintro e w' ⟨rfl, rfl⟩; rw [HR.out]) | (go_at_call 93; refine (l01Numbers_any _ zs _ H.out).mono ?_; rintro e w' ⟨rfl, rfl⟩))
    go_ret
    exact ⟨ret_bool (by rw [isSer, HR.out]; rfl), rfl⟩
  | false =>
    have HR := hid hr
    clear hr
    go_enter Try.func56, Try.ntmps56
    go_wp2_with (go_at_call 92; refine (l01In_any _ _ _ _).mono ?_; rintro e w' ⟨rfl, rfl⟩; rw [HR.out])
    go_ret
    exact ⟨ret_bool (by rw [isSer, HR.out]; rfl), rfl⟩
theorem length_any (v : Value) (zs : List Int) (w : World) (h : RdI w v zs) :
    Calls Try.prog 98 #[v] w fun e w' => e = .returned (.int .i64 (zs.length : Int)) ∧ w = w' := by
  obtain ⟨ao, cap, rfl, hcap, hmax, -⟩ := h
  go_enter Try.func98, Try.ntmps98
  go_wp2
  go_ret
  exact ⟨rfl, rfl⟩
theorem isSeries_any (v : Value) (zs : List Int) (w : World) (h : RdI w v zs) :
    Calls Try.prog 61 #[v] w fun e w' => e = .returned (.bool (isSer zs)) ∧ w = w' := by
  have H := hid h
  cases hr : inR (zs.length : Int) 1 16 with
  | true =>
    have HR := hid hr
    clear hr
    go_enter Try.func61, Try.ntmps61
    go_wp2_with (first | (go_at_call 98; refine (length_any _ zs _ H.out).mono ?_; rintro e w' ⟨rfl, rfl⟩) | (go_at_call 88; refine (inRange_any _ _ _ _).mono ?_; rintro e w' ⟨rfl, rfl⟩; rw [HR.out]) | (go_at_call 90; refine (areNumbers_any _ zs _ H.out).mono ?_; rintro e w' ⟨rfl, rfl⟩))
    go_ret
    exact ⟨ret_bool (by rw [isSer, HR.out]; rfl), rfl⟩
  | false =>
    have HR := hid hr
    clear hr
    go_enter Try.func61, Try.ntmps61
    go_wp2_with (first | (go_at_call 98; refine (length_any _ zs _ H.out).mono ?_; rintro e w' ⟨rfl, rfl⟩) | (go_at_call 88; refine (inRange_any _ _ _ _).mono ?_; rintro e w' ⟨rfl, rfl⟩; rw [HR.out]))
    go_ret
    exact ⟨ret_bool (by rw [isSer, HR.out]; rfl), rfl⟩
/-- The code for series of equal lengths and numbers. -/
def serOk (rows : List (List Int)) : Bool := rows.all fun r => isSer r && decide (r.length = (rowAt rows 0).length)
def serCode (rows : List (List Int)) (nums : List Int) : Int := if serOk rows = true then codeOf (nums.all isNum) else 1
theorem all_take_rows (p : List Int → Bool) (rows : List (List Int)) (k : Nat) (h : k < rows.length) : (rows.take (k + 1)).all p = ((rows.take k).all p && p (rowAt rows k)) := by
  rw [List.take_add_one, List.getElem?_eq_getElem h, List.all_append, ← rowAt_at rows k h]; simp
theorem all_rows_false {p : List Int → Bool} {rows : List (List Int)} {k : Nat} (h : k < rows.length) (hp : p (rowAt rows k) = false) : rows.all p = false := by
  rw [List.all_eq_false]; exact ⟨_, List.getElem_mem h, by rw [rowAt_at rows k h, hp]; simp⟩
theorem checkSeries_any (v u : Value) (rows : List (List Int)) (nums : List Int) (w : World) (h : RdII w v rows) (h' : RdI w u nums) :
    Calls Try.prog 68 #[v, u] w fun e w' => e = .returned (.int .i64 (serCode rows nums)) ∧ w = w' := by
  have H := hid h
  have H' := hid h'
  obtain ⟨ao, cap, vs, rfl, hcap, hmax, -⟩ := h
  go_enter Try.func68, Try.ntmps68
  go_wp2
  go_loop [9] (fun i => ∃ k : Nat, k ≤ rows.length ∧ i = .int .i64 k ∧ ((rows.take k).all fun r => isSer r && decide (r.length = (rowAt rows 0).length)) = true) (fun i => rows.length - (intOf i).toNat)
  case atStart => exact ⟨0, Nat.zero_le _, rfl, rfl⟩
  case round =>
    obtain ⟨k, hk, rfl, hall⟩ := hrel
    have HA := hid hall
    clear hall
    by_cases hlt : k < rows.length
    · obtain ⟨b, off, x, rfl, hcell, hx⟩ := H.out.at_ hlt
      obtain ⟨b0, off0, y, e0, hcell0, hy⟩ := H.out.at_ (k := 0) (by omega)
      cases e0
      have HX := hid hx
      obtain ⟨ax, cx, rfl, hcx, hmx, -⟩ := hx
      obtain ⟨ay, cy, rfl, hcy, hmy, -⟩ := hy
      rw [Nat.add_zero] at hcell0
      cases hs : isSer (rowAt rows k) with
      | true =>
        have HS := hid hs
        clear hs
        by_cases hl : (rowAt rows k).length = (rowAt rows 0).length
        · have hb : (((rowAt rows k).length : Int) != ((rowAt rows 0).length : Int)) = false := by simp [hl]
          have HL := hid hl
          clear hl
          go_wp2_with (go_at_call 61; refine (isSeries_any _ (rowAt rows k) _ HX.out).mono ?_; rintro e w' ⟨rfl, rfl⟩; rw [HS.out])
          go_round
          case rel => exact ⟨k + 1, by omega, by go_num, by rw [all_take_rows _ _ _ hlt, HA.out, HS.out, HL.out]; simp⟩
          case measure => simp [intOf]; omega
        · have hb : (((rowAt rows k).length : Int) != ((rowAt rows 0).length : Int)) = true := by simp; omega
          have HL := hid hl
          clear hl
          go_wp2_with (go_at_call 61; refine (isSeries_any _ (rowAt rows k) _ HX.out).mono ?_; rintro e w' ⟨rfl, rfl⟩; rw [HS.out])
          go_ret
          exact ⟨ret_int (by rw [serCode, serOk, all_rows_false hlt (by rw [HS.out, decide_eq_false HL.out]; rfl)]; rfl), rfl⟩
      | false =>
        have HS := hid hs
        clear hs
        go_wp2_with (go_at_call 61; refine (isSeries_any _ (rowAt rows k) _ HX.out).mono ?_; rintro e w' ⟨rfl, rfl⟩; rw [HS.out])
        go_ret
        exact ⟨ret_int (by rw [serCode, serOk, all_rows_false hlt (by rw [HS.out]; rfl)]; rfl), rfl⟩
    · have hok : serOk rows = true := by have := HA.out; rw [List.take_of_length_le (by omega)] at this; exact this
      have HO := hid hok
      clear hok
      cases hn : nums.all isNum with
      | true =>
        have HN := hid hn
        clear hn
        go_wp2_with (go_at_call 90; refine (areNumbers_any _ nums _ H'.out).mono ?_; rintro e w' ⟨rfl, rfl⟩; rw [HN.out])
        go_ret
        exact ⟨ret_int (by rw [serCode, if_pos HO.out, HN.out]; rfl), rfl⟩
      | false =>
        have HN := hid hn
        clear hn
        go_wp2_with (go_at_call 90; refine (areNumbers_any _ nums _ H'.out).mono ?_; rintro e w' ⟨rfl, rfl⟩; rw [HN.out])
        go_ret
        exact ⟨ret_int (by rw [serCode, if_pos HO.out, HN.out]; rfl), rfl⟩
/-- The code of two series. -/
def code2 (xs ys : List Int) : Int := if isSer xs = true ∧ isSer ys = true ∧ xs.length = ys.length then 0 else 1
theorem serCode2 (xs ys : List Int) : serCode [xs, ys] [] = code2 xs ys := by
  unfold serCode serOk code2 codeOf rowAt
  cases h1 : isSer xs <;> cases h2 : isSer ys <;> by_cases h3 : xs.length = ys.length <;> simp [h1, h2, h3, eq_comm]
theorem serCode1 (xs nums : List Int) : serCode [xs] nums = if isSer xs = true then codeOf (nums.all isNum) else 1 := by
  unfold serCode serOk rowAt
  cases h1 : isSer xs <;> simp [h1]
theorem l02Code_any (v u : Value) (xs ys : List Int) (w : World) (h : RdI w v xs) (h' : RdI w u ys) :
    Calls Try.prog 78 #[v, u] w fun e w' => e = .returned (.int .i64 (code2 xs ys)) ∧ w = w' := by
  have H := hid h
  have H' := hid h'
  obtain ⟨ao, cap, rfl, hcap, hmax, -⟩ := h
  obtain ⟨ao', cap', rfl, hcap', hmax', -⟩ := h'
  cases hx : isSer xs with
  | true =>
    have HX := hid hx
    clear hx
    cases hy : isSer ys with
    | true =>
      have HY := hid hy
      clear hy
      by_cases hl : xs.length = ys.length
      · have hb : ((xs.length : Int) != (ys.length : Int)) = false := by simp [hl]
        have HL := hid hl
        clear hl
        go_enter Try.func78, Try.ntmps78
        go_wp2_with fail
        refine (l02Is_any _ xs _ H.out).mono ?_; rintro e w' ⟨rfl, rfl⟩; rw [HX.out]
        go_wp2_with fail
        refine (l02Is_any _ ys _ H'.out).mono ?_; rintro e w' ⟨rfl, rfl⟩; rw [HY.out]
        go_wp2
        go_ret
        exact ⟨ret_int (by rw [code2, if_pos ⟨HX.out, HY.out, HL.out⟩]), rfl⟩
      · have hb : ((xs.length : Int) != (ys.length : Int)) = true := by simp; omega
        have HL := hid hl
        clear hl
        go_enter Try.func78, Try.ntmps78
        go_wp2_with fail
        refine (l02Is_any _ xs _ H.out).mono ?_; rintro e w' ⟨rfl, rfl⟩; rw [HX.out]
        go_wp2_with fail
        refine (l02Is_any _ ys _ H'.out).mono ?_; rintro e w' ⟨rfl, rfl⟩; rw [HY.out]
        go_wp2
        go_ret
        exact ⟨ret_int (by rw [code2, if_neg (fun h => HL.out h.2.2)]), rfl⟩
    | false =>
      have HY := hid hy
      clear hy
      go_enter Try.func78, Try.ntmps78
      go_wp2_with fail
      refine (l02Is_any _ xs _ H.out).mono ?_; rintro e w' ⟨rfl, rfl⟩; rw [HX.out]
      go_wp2_with fail
      refine (l02Is_any _ ys _ H'.out).mono ?_; rintro e w' ⟨rfl, rfl⟩; rw [HY.out]
      go_wp2
      go_ret
      exact ⟨ret_int (by rw [code2, HY.out, if_neg (by simp)]), rfl⟩
  | false =>
    have HX := hid hx
    clear hx
    go_enter Try.func78, Try.ntmps78
    go_wp2_with fail
    refine (l02Is_any _ xs _ H.out).mono ?_; rintro e w' ⟨rfl, rfl⟩; rw [HX.out]
    go_wp2
    go_ret
    exact ⟨ret_int (by rw [code2, HX.out, if_neg (by simp)]), rfl⟩
end Go.Proofs.Ytnjaalblgakgaaa
