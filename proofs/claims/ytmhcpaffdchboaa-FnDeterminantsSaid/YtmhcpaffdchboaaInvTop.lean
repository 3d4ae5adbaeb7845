/-
  The walks of InverseMatrix and SolveLinear.
-/
import Derived.Test.YtmhcpaffdchboaaMatSol
import Derived.Test.YtmhcpaffdchboaaNums
namespace Go.Proofs.Ytmhcpaffdchboaa
open Go.RowKit
set_option maxRecDepth 100000
def invR (a : List (List Int)) : List (List Int) × Int := if isMat a = true then (if a.length = (rowAt a 0).length ∧ det a.length (mtOf a) ≠ 0 then (matL a.length a.length (invMt a.length (mtOf a)), 0) else ([], 5)) else ([], 1)
theorem tot_matL (m n : Nat) (M : Mt) : tot (matL m n M) = m * n := by
  unfold matL tot
  rw [List.map_map]
  induction m with
  | zero => simp
  | succ m ih => rw [List.range_succ, List.map_append, List.sum_append, ih]; simp [Nat.succ_mul]
theorem invR_tot (a : List (List Int)) : tot (invR a).1 ≤ 1048576 := by
  unfold invR
  split
  · rename_i h
    have h8 := (isMat_yes h).2.1
    split
    · simp only [tot_matL]
      exact Nat.le_trans (Nat.mul_le_mul h8 h8) (by decide)
    · simp [tot]
  · simp [tot]
open Classical in
noncomputable def solR (a : List (List Int)) (r : List Int) : List Int × Int :=
  if isMat a = true then (if r.length = a.length ∧ r.all isNum = true then (if okS a.length (rowAt a 0).length (mtOf a) (ser r) then (lst (rowAt a 0).length (solS a.length (rowAt a 0).length (mtOf a) (ser r)), 0) else ([], 5)) else ([], 2)) else ([], 1)
theorem inverseMatrix_any (v : Value) (a : List (List Int)) (w : World) (h : RdII w v a) (_ : tot a ≤ 1048576) :
    Calls Try.prog 19 #[v] w fun e w' => ∃ r, e = .returned (.tuple #[r, .int .i64 (invR a).2]) ∧ OwnII w.heap.size w' r (invR a).1 ∧ Below w.heap.size w w' := by
  have H := hid h
  obtain ⟨ao, cap, vs, rfl, hcap, hmax, -⟩ := h
  cases ha : isMat a with
  | false =>
    have HA := hid ha
    have HR : Hid (invR a = ([], 1)) := by simp [Hid, invR, ha]
    clear ha
    go_enter Try.func19, Try.ntmps19
    go_wp2_with (go_at_call 38; refine (isMatrix_any _ a _ H.out).mono ?_; rintro e w1 ⟨rfl, rfl⟩; rw [HA.out])
    go_ret2
    rw [HR.out]
    exact ⟨_, rfl, ⟨[], Own2.nil _ _⟩, Below.refl _ _⟩
  | true =>
    have HA := hid ha
    have m1 := isMat_yes ha
    have hapos := m1.1
    have ha8 := m1.2.1
    have HM := hid (isMat_matL ha)
    clear ha m1
    obtain ⟨g, off, x, rfl, hcell0, hx⟩ := H.out.at_ hapos
    obtain ⟨aox, capx, rfl⟩ := hx.form
    rw [Nat.add_zero] at hcell0
    clear hx
    by_cases hf : a.length = (rowAt a 0).length
    · have hn : ((a.length : Int) != ((rowAt a 0).length : Int)) = false := by rw [← hf]; simp
      have HN : Hid (RdII w (.slice (some ⟨g, off, none⟩) a.length cap) (matL a.length a.length (mtOf a))) := by
        have := HM.out; rw [← hf] at this; simp only [Hid]; rw [← this]; exact H.out
      have HF := hid hf
      have HC := hid (inverseOf_any a.length (mtOf a) _ _ HN.out hapos (by omega))
      clear hf HM
      by_cases ho : okI a.length (mtOf a)
      · have HR : Hid (invR a = (matL a.length a.length (invMt a.length (mtOf a)), 0)) := by simp only [Hid]; unfold invR; rw [if_pos HA.out, if_pos ⟨HF.out, (okI_det _ _).1 ho⟩]
        have HO := hid ho
        clear ho
        go_enter Try.func19, Try.ntmps19
        go_wp2_with fail
        refine (isMatrix_any _ a _ H.out).mono ?_; rintro e w1 ⟨rfl, rfl⟩; rw [HA.out]
        go_wp2_with fail
        refine HC.out.mono ?_; rintro e w2 ⟨r, b, rfl, hb, hr, B2⟩
        have hbt := hb.2 HO.out
        subst hbt
        have HRR := hid (hr rfl)
        clear hb hr
        go_wp2
        go_ret2
        rw [HR.out]
        exact ⟨_, rfl, HRR.out, B2⟩
      · have HR : Hid (invR a = ([], 5)) := by simp only [Hid]; unfold invR; rw [if_pos HA.out, if_neg (fun h => ho ((okI_det _ _).2 h.2))]
        have HO := hid ho
        clear ho
        go_enter Try.func19, Try.ntmps19
        go_wp2_with fail
        refine (isMatrix_any _ a _ H.out).mono ?_; rintro e w1 ⟨rfl, rfl⟩; rw [HA.out]
        go_wp2_with fail
        refine HC.out.mono ?_; rintro e w2 ⟨r, b, rfl, hb, hr, B2⟩
        have hbt : b = false := by cases b with | false => rfl | true => exact absurd (hb.1 rfl) HO.out
        subst hbt
        clear hb hr
        go_wp2
        go_ret2
        rw [HR.out]
        exact ⟨_, rfl, ⟨[], Own2.nil _ _⟩, B2⟩
    · have HR : Hid (invR a = ([], 5)) := by simp only [Hid]; unfold invR; rw [if_pos HA.out, if_neg (fun h => hf h.1)]
      have hn : ((a.length : Int) != ((rowAt a 0).length : Int)) = true := by simp; omega
      clear hf HM
      go_enter Try.func19, Try.ntmps19
      go_wp2_with fail
      refine (isMatrix_any _ a _ H.out).mono ?_; rintro e w1 ⟨rfl, rfl⟩; rw [HA.out]
      go_wp2
      go_ret2
      rw [HR.out]
      exact ⟨_, rfl, ⟨[], Own2.nil _ _⟩, Below.refl _ _⟩
theorem solveLinear_any (v u : Value) (a : List (List Int)) (z : List Int) (w : World) (h : RdII w v a) (h' : RdI w u z) (_ : tot a ≤ 1048576) :
    Calls Try.prog 22 #[v, u] w fun e w' => ∃ r, e = .returned (.tuple #[r, .int .i64 (solR a z).2]) ∧ OwnI w.heap.size w' r (solR a z).1 ∧ Below w.heap.size w w' := by
  have H := hid h
  have H' := hid h'
  obtain ⟨ao, cap, vs, rfl, hcap, hmax, -⟩ := h
  obtain ⟨ao', cap', rfl, hcap', hmax', -⟩ := h'
  cases ha : isMat a with
  | false =>
    have HA := hid ha
    have HR : Hid (solR a z = ([], 1)) := by simp [Hid, solR, ha]
    clear ha
    go_enter Try.func22, Try.ntmps22
    go_wp2_with (go_at_call 38; refine (isMatrix_any _ a _ H.out).mono ?_; rintro e w1 ⟨rfl, rfl⟩; rw [HA.out])
    go_ret2
    rw [HR.out]
    exact ⟨_, rfl, OwnI.nil _ _, Below.refl _ _⟩
  | true =>
    have HA := hid ha
    have m1 := isMat_yes ha
    have hapos := m1.1
    have ha8 := m1.2.1
    have hr1 := m1.2.2.1
    have hr8 := m1.2.2.2.1
    have HM := hid (isMat_matL ha)
    clear ha m1
    by_cases hl : z.length = a.length
    rotate_left
    · have HR : Hid (solR a z = ([], 2)) := by simp only [Hid]; unfold solR; rw [if_pos HA.out, if_neg (fun h => hl h.1)]
      have hb : ((z.length : Int) != (a.length : Int)) = true := by simp; omega
      clear hl
      go_enter Try.func22, Try.ntmps22
      go_wp2_with fail
      refine (isMatrix_any _ a _ H.out).mono ?_; rintro e w1 ⟨rfl, rfl⟩; rw [HA.out]
      go_wp2
      go_ret2
      rw [HR.out]
      exact ⟨_, rfl, OwnI.nil _ _, Below.refl _ _⟩
    have hb : ((z.length : Int) != (a.length : Int)) = false := by rw [hl]; simp
    have HL := hid hl
    clear hl
    cases hz : z.all isNum with
    | false =>
      have HZ := hid hz
      have HR : Hid (solR a z = ([], 2)) := by simp only [Hid]; unfold solR; rw [if_pos HA.out, if_neg (fun h => by rw [hz] at h; cases h.2)]
      clear hz
      go_enter Try.func22, Try.ntmps22
      go_wp2_with fail
      refine (isMatrix_any _ a _ H.out).mono ?_; rintro e w1 ⟨rfl, rfl⟩; rw [HA.out]
      go_wp2_with fail
      refine (areNumbers_any _ z _ H'.out).mono ?_; rintro e w2 ⟨rfl, rfl⟩; rw [HZ.out]
      go_wp2
      go_ret2
      rw [HR.out]
      exact ⟨_, rfl, OwnI.nil _ _, Below.refl _ _⟩
    | true =>
      have HZ := hid hz
      have HN : Hid (RdII w (.slice ao a.length cap) (matL a.length (rowAt a 0).length (mtOf a))) := by simp only [Hid]; rw [← HM.out]; exact H.out
      have HN' : Hid (RdI w (.slice ao' z.length cap') (lst a.length (ser z))) := by
        simp only [Hid]; rw [← HL.out, lst_ser hz]; exact H'.out
      have HC := hid (solve_any a.length (rowAt a 0).length (mtOf a) (ser z) _ _ _ HN.out HN'.out hapos (by omega) hr1 (by omega))
      clear hz HM
      by_cases ho : okS a.length (rowAt a 0).length (mtOf a) (ser z)
      · have HR : Hid (solR a z = (lst (rowAt a 0).length (solS a.length (rowAt a 0).length (mtOf a) (ser z)), 0)) := by simp only [Hid]; unfold solR; rw [if_pos HA.out, if_pos ⟨HL.out, HZ.out⟩, if_pos ho]
        have HO := hid ho
        clear ho
        go_enter Try.func22, Try.ntmps22
        go_wp2_with fail
        refine (isMatrix_any _ a _ H.out).mono ?_; rintro e w1 ⟨rfl, rfl⟩; rw [HA.out]
        go_wp2_with fail
        refine (areNumbers_any _ z _ H'.out).mono ?_; rintro e w2 ⟨rfl, rfl⟩; rw [HZ.out]
        go_wp2_with fail
        refine HC.out.mono ?_; rintro e w2 ⟨r, b, rfl, hb, hr, B2⟩
        have hbt := hb.2 HO.out
        subst hbt
        have HRR := hid (hr rfl)
        clear hb hr
        go_wp2
        go_ret2
        rw [HR.out]
        exact ⟨_, rfl, HRR.out, B2⟩
      · have HR : Hid (solR a z = ([], 5)) := by simp only [Hid]; unfold solR; rw [if_pos HA.out, if_pos ⟨HL.out, HZ.out⟩, if_neg ho]
        have HO := hid ho
        clear ho
        go_enter Try.func22, Try.ntmps22
        go_wp2_with fail
        refine (isMatrix_any _ a _ H.out).mono ?_; rintro e w1 ⟨rfl, rfl⟩; rw [HA.out]
        go_wp2_with fail
        refine (areNumbers_any _ z _ H'.out).mono ?_; rintro e w2 ⟨rfl, rfl⟩; rw [HZ.out]
        go_wp2_with fail
        refine HC.out.mono ?_; rintro e w2 ⟨r, b, rfl, hb, hr, B2⟩
        have hbt : b = false := by cases b with | false => rfl | true => exact absurd (hb.1 rfl) HO.out
        subst hbt
        clear hb hr
        go_wp2
        go_ret2
        rw [HR.out]
        exact ⟨_, rfl, OwnI.nil _ _, B2⟩
end Go.Proofs.Ytmhcpaffdchboaa
