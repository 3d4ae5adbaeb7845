/-
  The walks of logarithms of series.
-/
import Derived.Test.YtnjaalblgakgaaaSerDiv
import Derived.Test.YtnjaalblgakgaaaOwn
namespace Go.Proofs.Ytnjaalblgakgaaa
open Go.RowKit
set_option maxRecDepth 100000
theorem logI_eq (n : Nat) (A : PS) (h0 : A 0 ≠ 0) : lst n (intTo n (PS.div (derTo n A) A)) = lst n (PS.log A) := by
  apply lst_congr
  intro i hi
  simp only [intTo]
  rw [if_pos hi]
  unfold PS.log
  apply PS.int_congr
  intro j hj
  apply PS.div_congr _ (fun _ _ => rfl) h0
  intro k hk
  simp only [derTo]; rw [if_pos (by omega)]
theorem logSeries_any (n : Nat) (A : PS) (v : Value) (w : World) (h : RdI w v (lst n A)) (hn : 1 ≤ n) (hsm : n ≤ 16) (h0 : A 0 ≠ 0) :
    Calls Try.prog 71 #[v] w fun e w' => ∃ r, e = .returned r ∧ OwnI w.heap.size w' r (lst n (PS.log A)) ∧ Below w.heap.size w w' := by
  have H0 := hid h0
  clear h0
  go_enter Try.func71, Try.ntmps71
  go_wp2_with fail
  refine (derived_any n A _ _ h hsm).mono ?_; rintro e w1 ⟨r1, rfl, O1, B1⟩
  go_wp2_with fail
  refine (divideSeries_any n (derTo n A) A _ _ _ O1.rd (h.mono B1) hn hsm).mono ?_; rintro e w2 ⟨r2, rfl, O2, B2⟩
  go_wp2_with fail
  refine (integrated_any n (PS.div (derTo n A) A) _ _ O2.rd hsm).mono ?_; rintro e w3 ⟨r3, rfl, O3, B3⟩
  go_wp2
  go_ret
  rw [logI_eq n A H0.out] at O3
  exact ⟨_, rfl, O3.lower (nx B1 B2).size, nx B1 (nx B2 B3)⟩
theorem two_c {w w' : World} {r : Value} {zs : List Int} {n : Nat} (O1 : OwnI w.drew.heap.size w' r zs) (B1 : Below w.drew.heap.size w.drew w') (hn : n ≤ 1048576) :
    OwnI w.heap.size (w'.alloc (.cells (madeCells #[Value.int .i64 0] n) 2)) r zs ∧ OwnI w.heap.size (w'.alloc (.cells (madeCells #[Value.int .i64 0] n) 2)) (.slice (some ⟨w'.heap.size, 0, none⟩) n n) (lst n (fun _ => 0)) ∧
      Below w.heap.size w (w'.alloc (.cells (madeCells #[Value.int .i64 0] n) 2)) := by
  have B2 : Below w.heap.size w w' := ⟨B1.os, B1.tape, B1.output, B1.size, B1.block⟩
  exact ⟨O1.mono (below_alloc _ _), OwnI.made _ n hn _ _ rfl B2.size, nx B2 (below_alloc _ _)⟩
theorem two_d {w w' : World} {r : Value} {zs : List Int} {n : Nat} (O1 : OwnI (w.alloc (.cells (madeCells #[Value.int .i64 0] n) 2)).drew.heap.size w' r zs)
    (B1 : Below (w.alloc (.cells (madeCells #[Value.int .i64 0] n) 2)).drew.heap.size (w.alloc (.cells (madeCells #[Value.int .i64 0] n) 2)).drew w') (hn : n ≤ 1048576) :
    OwnI w.heap.size w' r zs ∧ OwnI w.heap.size w' (.slice (some ⟨w.heap.size, 0, none⟩) n n) (lst n (fun _ => 0)) ∧ Below w.heap.size w w' := by
  have B0 : Below w.heap.size w (w.alloc (.cells (madeCells #[Value.int .i64 0] n) 2)).drew := (below_alloc _ _).drew
  exact ⟨O1.lower B0.size, ((OwnI.made w n hn _ _ rfl (Nat.le_refl _)).mono (below_drew _)).mono B1, nx B0 B1⟩
theorem fI_minus : fI 10006 = -1 := vI_inj (by rw [vI_fI, vI_neg, vI_one]; rfl)
theorem vI_minus : vI (-1) = 10006 := by rw [vI_neg, vI_one]; rfl
set_option maxHeartbeats 1000000 in
theorem l02Log_any (n : Nat) (A : PS) (v : Value) (w : World) (h : RdI w v (lst n A)) (hn : 1 ≤ n) (hsm : n ≤ 16) :
    Calls Try.prog 67 #[v] w fun e w' => ∃ r, e = .returned r ∧ OwnI w.heap.size w' r (lst n (PS.logS n A)) ∧ Below w.heap.size w w' := by
  obtain ⟨ao, cap, rfl, hcap, hmax⟩ := h.formS
  have H := hid h
  clear h
  have hmk := fun W => run_make_row' (P := Try.prog) 22 2 (.int .i64 0) 8 Try.underlying22 info_i64 rfl .i64 .i64 n (by omega) (by omega) W
  have hm1 := hid vI_minus
  go_enter Try.func67, Try.ntmps67
  go_wp2_with fail
  refine (l02Unit_any n 0 _ hn hmax (by omega) (by omega)).mono ?_; rintro e w1 ⟨r1, rfl, O1, B1⟩
  rw [unit_cst] at O1
  go_wp2_with fail
  rw [← hm1.out]
  refine (l02Times_any n A (-1) _ _ (H.out.mono B1)).mono ?_; rintro e w2 ⟨r2, rfl, O2, B2⟩
  go_wp2_with fail
  refine (l02Add_any n (PS.cst 1) (PS.smul (-1) A) _ _ _ (O1.mono B2).rd O2.rd).mono ?_; rintro e w3 ⟨r3, rfl, O3, B3⟩
  have e3 : PS.add (PS.cst 1) (PS.smul (-1) A) = PS.sub (PS.cst 1) A := by
    funext i; simp only [PS.add, PS.sub, PS.smul]; grind
  rw [e3] at O3
  have T3 := nx B1 (nx B2 B3)
  clear e3 O1 O2
  obtain ⟨R, hR⟩ : ∃ R, R = PS.sub (PS.cst 1) A := ⟨_, rfl⟩
  rw [← hR] at O3
  have HR := hid hR
  clear hR B1 B2 B3
  go_upto_region 2 with fail
  go_cut [4, 5] (fun p s wx => OwnI w3.heap.size wx p (lst n R) ∧ OwnI w3.heap.size wx s (lst n (fun _ => 0)) ∧ Below w3.heap.size w3 wx)
  case first =>
    go_region_with (first | (go_at_call 99; refine (l01Own_any _ (lst n R) _ ?_ (by simp; omega)).mono ?_; exact (O3.rd.mono (by first | exact below_drew _ | exact (below_alloc _ _).drew)); rintro e w' ⟨r, rfl, O1, B1⟩))
    all_goals (go_wp2_with fail; go_meet)
    · exact two_c O1 B1 hmax
    · exact two_d O1 B1 hmax
  case rest =>
    obtain ⟨O1, O2, B1⟩ := hcut
    have O3' := O3.mono B1
    have T4 := nx T3 B1
    have T4' := T4.size
    have O1' := O1.lower T3.size
    have O2' := O2.lower T3.size
    clear O1 O2 O3 B1 T3
    go_wp2
    go_loopw [4, 5, 6] (fun p s i wr => ∃ k : Nat, k + 1 ≤ n ∧ i = .int .i64 ((k + 1 : Nat) : Int) ∧ OwnI w.heap.size wr p (lst n (PS.pw R (k + 1))) ∧ OwnI w.heap.size wr s (lst n (fun i => PS.sm (fun m => (0 - fi (PS.nF (m + 1))) * PS.pw R (m + 1) i) k)) ∧ RdI wr r3 (lst n R) ∧ Below w.heap.size w wr) (fun _ _ i _ => n - (intOf i).toNat)
    case atStart => exact ⟨0, by omega, rfl, by
      have e : PS.pw R (0 + 1) = R := by funext i; simp only [PS.pw]; rw [PS.mul_one_left]
      rw [e]; exact O1', O2', O3'.rd, T4⟩
    case round =>
      obtain ⟨k, hk, rfl, Op, Os, Rr, Bl⟩ := hrel
      by_cases hlt : k + 1 < n
      · have b1 := invM_bd ((k + 1 : Nat) : Int)
        have e1 : Hid (invM ((k + 1 : Nat) : Int) = vI (fi (PS.nF (k + 1)))) := by simp only [Hid]; rw [vI_fi, vI_nF _ (by omega)]
        have f1 := vI_bd (fi (PS.nF (k + 1)))
        have e2 : Hid ((0 - vI (fi (PS.nF (k + 1)))) % 10007 = vI (0 - fi (PS.nF (k + 1)))) := by simp only [Hid]; rw [vI_sub, vI_zero]
        go_wp2_with fail
        refine (l01Inv_any _ _ (by omega) (by omega)).mono ?_
        rintro e w3' ⟨rfl, rfl⟩
        rw [show invM ((k : Int) + 1) = vI (fi (PS.nF (k + 1))) from by have := e1.out; simpa using this]
        go_wp2_with fail
        refine (l01Sub_any _ _ _ (by omega) (by omega) (by omega) (by omega)).mono ?_
        rintro e w3' ⟨rfl, rfl⟩
        rw [e2.out]
        go_wp2_with fail
        refine (l02Times_any n (PS.pw R (k + 1)) (0 - fi (PS.nF (k + 1))) _ _ Op.rd).mono ?_
        rintro e w5 ⟨t2, rfl, Ot2, B2⟩
        go_wp2_with fail
        refine (l02Add_any n (fun i => PS.sm (fun m => (0 - fi (PS.nF (m + 1))) * PS.pw R (m + 1) i) k) (PS.smul (0 - fi (PS.nF (k + 1))) (PS.pw R (k + 1))) _ _ _ (Os.mono B2).rd Ot2.rd).mono ?_
        rintro e w6 ⟨s2, rfl, Os2, B3⟩
        have B23 := nx B2 B3
        go_wp2_with fail
        refine (l02Mul_any n (PS.pw R (k + 1)) R _ _ _ (Op.mono B23).rd (Rr.mono B23)).mono ?_
        rintro e w7 ⟨p2, rfl, Op2, B4⟩
        go_wp2
        go_roundw
        case rel => exact ⟨k + 1, by omega, by go_num, Op2.lower (nx Bl B23).size, (Os2.mono B4).lower (nx Bl B2).size, (Rr.mono B23).mono B4, nx Bl (nx B23 B4)⟩
        case measure => simp [intOf]; omega
      · go_wp2
        go_ret
        obtain rfl : n = k + 1 := by omega
        have e : (fun i => PS.sm (fun m => (0 - fi (PS.nF (m + 1))) * PS.pw R (m + 1) i) k) = PS.logS (k + 1) A := by rw [HR.out]; rfl
        rw [e] at Os
        exact ⟨_, rfl, Os, Bl⟩
end Go.Proofs.Ytnjaalblgakgaaa
