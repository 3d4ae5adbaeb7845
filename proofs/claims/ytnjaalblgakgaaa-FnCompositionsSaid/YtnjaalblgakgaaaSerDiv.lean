/-
  The walks of quotients of series.
-/
import Derived.Test.YtnjaalblgakgaaaSerExpE
namespace Go.Proofs.Ytnjaalblgakgaaa
open Go.RowKit
set_option maxRecDepth 100000
set_option maxHeartbeats 1000000 in
theorem l02Inverse_any (n : Nat) (B : PS) (v : Value) (w : World) (h : RdI w v (lst n B)) (hn : 1 ≤ n) (hsm : n ≤ 16) :
    Calls Try.prog 80 #[v] w fun e w' => ∃ r, e = .returned r ∧ OwnI w.heap.size w' r (lst n (PS.invS n B)) ∧ Below w.heap.size w w' := by
  obtain ⟨ao, cap, rfl, hcap, hmax⟩ := h.formS
  obtain ⟨b, off, rfl, hcell⟩ := h.at_ (k := 0) (by simp; omega)
  rw [Nat.add_zero, lst_el _ _ _ hn] at hcell
  have H := hid h
  clear h
  have b0 := vI_bd (B 0)
  have i0 := invM_bd (vI (B 0))
  have n0 : (0 : Int) < (n : Int) := by omega
  have hmk := fun W => run_make_row' (P := Try.prog) 22 2 (.int .i64 0) 8 Try.underlying22 info_i64 rfl .i64 .i64 n (by omega) (by omega) W
  have hf : Hid (invM (vI (B 0)) = vI (fi (B 0))) := by simp only [Hid]; rw [vI_fi]
  have hg : Hid ((0 - vI (fi (B 0))) % 10007 = vI (0 - fi (B 0))) := by simp only [Hid]; rw [vI_sub, vI_zero]
  go_enter Try.func80, Try.ntmps80
  go_wp2_with fail
  refine (l01Inv_any _ _ (by omega) (by omega)).mono ?_; rintro e w' ⟨rfl, rfl⟩; rw [hf.out]
  have f1 := vI_bd (fi (B 0))
  go_wp2_with fail
  refine (l02Unit_any n 0 _ hn hmax (by omega) (by omega)).mono ?_; rintro e w1 ⟨r1, rfl, O1, B1⟩
  rw [unit_cst] at O1
  go_wp2_with fail
  refine (l01Sub_any _ _ _ (by omega) (by omega) (by omega) (by omega)).mono ?_; rintro e w1' ⟨rfl, rfl⟩; rw [hg.out]
  go_wp2_with fail
  refine (l02Times_any n B (0 - fi (B 0)) _ _ (H.out.mono B1)).mono ?_; rintro e w2 ⟨r2, rfl, O2, B2⟩
  go_wp2_with fail
  refine (l02Add_any n (PS.cst 1) (PS.smul (0 - fi (B 0)) B) _ _ _ (O1.mono B2).rd O2.rd).mono ?_; rintro e w3 ⟨r3, rfl, O3, B3⟩
  have e3 : PS.add (PS.cst 1) (PS.smul (0 - fi (B 0)) B) = PS.sub (PS.cst 1) (PS.smul (fi (B 0)) B) := by
    funext i; simp only [PS.add, PS.sub, PS.smul]; grind
  rw [e3] at O3
  have T3 := nx B1 (nx B2 B3)
  clear e3 O1 O2 hcell b0 i0
  obtain ⟨R, hR⟩ : ∃ R, R = PS.sub (PS.cst 1) (PS.smul (fi (B 0)) B) := ⟨_, rfl⟩
  rw [← hR] at O3
  have HR := hid hR
  clear hR B1 B2 B3
  go_upto_region 3 with fail
  go_cut [5, 6] (fun p s wx => OwnI w3.heap.size wx p (lst n (PS.cst 1)) ∧ OwnI w3.heap.size wx s (lst n (fun _ => 0)) ∧ Below w3.heap.size w3 wx)
  case first =>
    go_region_with (first | (go_at_call 96; refine (l02Unit_any n 0 _ (by omega) (by omega) (by omega) (by omega)).mono ?_; rintro e w' ⟨r, rfl, O1, B1⟩))
    all_goals (go_wp2_with fail; go_meet)
    all_goals rw [unit_cst] at O1
    · exact two_a O1 B1 hmax
    · exact two_b O1 B1 hmax
  case rest =>
    obtain ⟨O1, O2, B1⟩ := hcut
    have O3' := O3.mono B1
    have T4 := nx T3 B1
    have T4' := T4.size
    have O1' := O1.lower T3.size
    have O2' := O2.lower T3.size
    clear O1 O2 O3 B1 T3
    go_wp2
    go_loopw [5, 6, 7] (fun p s i wr => ∃ k : Nat, k ≤ n ∧ i = .int .i64 k ∧ OwnI w.heap.size wr p (lst n (PS.pw R k)) ∧ OwnI w.heap.size wr s (lst n (fun i => PS.sm (fun m => PS.pw R m i) k)) ∧ RdI wr r3 (lst n R) ∧ Below w.heap.size w wr) (fun _ _ i _ => n - (intOf i).toNat)
    case atStart => exact ⟨0, Nat.zero_le _, rfl, O1', O2', O3'.rd, T4⟩
    case round =>
      obtain ⟨k, hk, rfl, Op, Os, Rr, Bl⟩ := hrel
      by_cases hlt : k < n
      · go_wp2_with fail
        refine (l02Add_any n (fun i => PS.sm (fun m => PS.pw R m i) k) (PS.pw R k) _ _ _ Os.rd Op.rd).mono ?_
        rintro e w5 ⟨s2, rfl, Os2, B2⟩
        go_wp2_with fail
        refine (l02Mul_any n (PS.pw R k) R _ _ _ (Op.mono B2).rd (Rr.mono B2)).mono ?_
        rintro e w6 ⟨p2, rfl, Op2, B3⟩
        go_wp2
        go_roundw
        case rel => exact ⟨k + 1, by omega, by go_num, Op2.lower (nx Bl B2).size, (Os2.mono B3).lower Bl.size, (Rr.mono B2).mono B3, nx Bl (nx B2 B3)⟩
        case measure => simp [intOf]; omega
      · go_wp2_with fail
        refine (l02Times_any n (fun i => PS.sm (fun m => PS.pw R m i) k) (fi (B 0)) _ _ Os.rd).mono ?_
        rintro e w5 ⟨s2, rfl, Os2, B2⟩
        go_wp2
        go_ret
        obtain rfl : k = n := by omega
        refine ⟨_, rfl, ?_, nx Bl B2⟩
        have e : PS.smul (fi (B 0)) (fun i => PS.sm (fun m => PS.pw R m i) k) = PS.invS k B := by rw [HR.out]; rfl
        rw [e] at Os2
        exact Os2.lower Bl.size
/-- The program's rest for a coefficient of the quotient, as an integer. -/
def dsI (T B : PS) (n j : Nat) : Int := sumTo (fun i => vI (T i) * vI (B (n - i))) j
theorem dsI_bd (T B : PS) (n j : Nat) (hj : j ≤ 16) : 0 ≤ dsI T B n j ∧ dsI T B n j ≤ 1601920576 := by
  have h := sumTo_bd (fun i => vI (T i) * vI (B (n - i))) j 100120036 (fun i _ => mul_bd (vI_bd _).1 (vI_bd _).2 (vI_bd _).1 (vI_bd _).2)
  unfold dsI
  omega
theorem dsI_mod (T B : PS) (n j : Nat) : dsI T B n j % 10007 = vI (PS.sm (fun i => T i * B (n - i)) j) := by
  unfold dsI
  induction j with
  | zero => simp only [sumTo, PS.sm, vI_zero]; rfl
  | succ j ih => simp only [sumTo, PS.sm]; rw [vI_add, ← ih, vI_mul]; simp
theorem divT_sm (A B : PS) (n : Nat) : PS.mul (PS.divT A B n) B n = PS.sm (fun i => PS.divT A B n i * B (n - i)) n := by
  rw [PS.mul_sm]
  simp only [PS.sm]
  rw [PS.divT_high _ _ _ _ (Nat.le_refl n)]; grind
set_option maxHeartbeats 1000000 in
theorem divideSeries_any (n : Nat) (A B : PS) (v u : Value) (w : World) (h : RdI w v (lst n A)) (h' : RdI w u (lst n B)) (hn : 1 ≤ n) (hsm : n ≤ 16) :
    Calls Try.prog 77 #[v, u] w fun e w' => ∃ r, e = .returned r ∧ OwnI w.heap.size w' r (lst n (PS.div A B)) ∧ Below w.heap.size w w' := by
  obtain ⟨ao, cap, rfl, hcap, hmax⟩ := h.formS
  obtain ⟨ao', cap', rfl, hcap', hmax'⟩ := h'.formS
  obtain ⟨b, off, rfl, hcell⟩ := h'.at_ (k := 0) (by simp; omega)
  have hbl := h'.lt (by simp; omega)
  rw [Nat.add_zero, lst_el _ _ _ hn] at hcell
  have H := hid h
  have H' := hid h'
  clear h h'
  have b0 := vI_bd (B 0)
  have i0 := invM_bd (vI (B 0))
  have n0 : (0 : Int) < (n : Int) := by omega
  have hmk := fun W => run_make_row' (P := Try.prog) 22 2 (.int .i64 0) 8 Try.underlying22 info_i64 rfl .i64 .i64 n (by omega) (by omega) W
  have hf : Hid (invM (vI (B 0)) = vI (fi (B 0))) := by simp only [Hid]; rw [vI_fi]
  have hcell2 : ∀ o, (w.alloc o).cell? ⟨b, off, none⟩ = some (.int .i64 (vI (B 0))) := fun o => by rw [World.cell?_alloc_past _ _ _ hbl]; exact hcell
  go_enter Try.func77, Try.ntmps77
  go_upto_region 1 with fail
  go_cut [5, 6] (fun p s wx => p = .slice (some ⟨w.heap.size, 0, none⟩) n n ∧ OwnI w.heap.size wx p (lst n (fun _ => 0)) ∧ s = .int .i64 (invM (vI (B 0))) ∧ Below w.heap.size w wx)
  case first =>
    go_region_with (first | (go_at_call 62; refine (inv_any _ _ (by omega) (by omega)).mono ?_; rintro e w' ⟨rfl, rfl⟩))
    all_goals (go_wp2_with fail; go_meet)
    all_goals exact ⟨rfl, (OwnI.made w n hmax _ _ rfl (Nat.le_refl _)).mono (below_drew _), rfl, (below_alloc _ _).drew⟩
  case rest =>
    obtain ⟨rfl, O1, rfl, B1⟩ := hcut
    rw [show (fun _ => 0 : PS) = PS.divT A B 0 from rfl] at O1
    clear hcell2 hcell
    go_wp2
    go_loopw [19] (fun i wr => ∃ k : Nat, k ≤ n ∧ i = .int .i64 k ∧ OwnI w.heap.size wr (.slice (some ⟨w.heap.size, 0, none⟩) n n) (lst n (PS.divT A B k)) ∧ Below w.heap.size w wr) (fun i _ => n - (intOf i).toNat)
    case atStart => exact ⟨0, Nat.zero_le _, rfl, O1, B1⟩
    case round =>
      obtain ⟨k, hk, rfl, O, Bl⟩ := hrel
      by_cases hlt : k < n
      · obtain ⟨b2, off2, rfl, hcellA⟩ := (H.out.mono Bl).at_ (k := k) (by simp; omega)
        rw [lst_el _ _ _ hlt] at hcellA
        have a1 := vI_bd (A k)
        obtain ⟨wo, rfl⟩ : ∃ wo : World, wo = wr := ⟨_, rfl⟩
        obtain ⟨T, hT⟩ : ∃ T, T = PS.divT A B k := ⟨_, rfl⟩
        rw [← hT] at O
        have HT := hid hT
        have HO := hid O
        have HB := hid Bl
        clear O Bl hT O1 B1
        go_wp2
        go_loopw [8, 27] (fun s q wr => ∃ j : Nat, j ≤ k ∧ q = .int .i64 j ∧ s = .int .i64 (vI (A k) - dsI T B k j) ∧ Dr wo wr) (fun _ q _ => k - (intOf q).toNat)
        case atStart => exact ⟨0, Nat.zero_le _, rfl, by simp [dsI, sumTo], Dr.refl _⟩
        case round =>
          obtain ⟨j, hj, rfl, rfl, hdr⟩ := hrel
          have e0 := dsI_bd T B k j (by omega)
          by_cases hlj : j < k
          · have hc2 := (HO.out.mono (hdr.below _)).cellS j (by omega)
            obtain ⟨b3, off3, e3, hcell3⟩ := ((H'.out.mono HB.out).dr hdr).at_ (k := k - j) (by simp; omega)
            rw [lst_el _ _ _ (by omega)] at hcell3
            cases e3
            have c1 := vI_bd (T j)
            have c2 := vI_bd (B (k - j))
            have m1 := (mul_bd c1.1 c1.2 c2.1 c2.2).1
            have m2 := (mul_bd c1.1 c1.2 c2.1 c2.2).2
            have hx : Hid (vI (A k) - dsI T B k j - vI (T j) * vI (B (k - j)) = vI (A k) - dsI T B k (j + 1)) := by
              simp only [Hid, dsI, sumTo]; omega
            have t1 : IntKind.i64.wrap (vI (T j) * vI (B (k - j))) = vI (T j) * vI (B (k - j)) := IntWalk.i64_in _ (by omega)
            have t2 : IntKind.i64.wrap (vI (A k) - dsI T B k j - vI (T j) * vI (B (k - j))) = vI (A k) - dsI T B k j - vI (T j) * vI (B (k - j)) := IntWalk.i64_in _ (by omega)
            have s1 : IntKind.i64.wrap ((k : Int) - (j : Int)) = (k : Int) - (j : Int) := IntWalk.i64_in _ (by omega)
            have s2 : 0 ≤ (k : Int) - (j : Int) := by omega
            have s3 : ((k : Int) - (j : Int)).toNat = k - j := by omega
            have s4 : (k : Int) - (j : Int) < (n : Int) := by omega
            have s5 : (j : Int) < (n : Int) := by omega
            have s6 : (0 : Int) ≤ (j : Int) := by omega
            have s7 : (j : Int) ≤ (k : Int) := by omega
            have HD := hid hdr
            clear hdr
            go_wp2_with fail
            go_quiet (fail)
            clear s1 s2 s3 s4 s6 s7 t1 t2
            go_wp2
            go_roundw
            case rel => exact ⟨j + 1, by omega, by go_num, by rw [← hx.out], HD.out.drewN _⟩
            case measure => simp [intOf]; omega
          · have O := HO.out.mono (hdr.below _)
            have Bl := nx HB.out (hdr.below _)
            obtain rfl : j = k := by omega
            have x2 := md_bd (vI (A j) - dsI T B j j)
            have m1 := (mul_bd x2.1 x2.2 i0.1 i0.2).1
            have m2 := (mul_bd x2.1 x2.2 i0.1 i0.2).2
            have hx : (vI (A j) - dsI T B j j) % 10007 * invM (vI (B 0)) % 10007 = vI ((A j - PS.mul T B j) * fi (B 0)) := by
              rw [vI_mul, vI_fi, vI_sub, HT.out, divT_sm, ← dsI_mod]; simp
            obtain ⟨O2, G2⟩ := O.put j ((A j - PS.mul T B j) * fi (B 0))
            rw [← hx] at O2 G2
            have e : (fun i => if i = j then (A j - PS.mul T B j) * fi (B 0) else T i) = PS.divT A B (j + 1) := by rw [HT.out]; rfl
            rw [e] at O2
            have hgl := O.glt.2
            have hfk := O.free j
            have hck := O.cellS j hlt
            obtain ⟨x, hx'⟩ : ∃ x, x = Value.int .i64 (vI (T j)) := ⟨_, rfl⟩
            rw [← hx'] at hck
            have HG := hid G2
            have HO2 := hid O2
            clear hx hx' e O O2 G2 hdr
            go_wp2_with (first | (go_at_call 63; refine (num_any _ _).mono ?_; rintro e w' ⟨rfl, rfl⟩))
            go_roundw
            case rel => exact ⟨j + 1, by omega, by go_num, HO2.out, Bl.grown HG.out (by omega) (by simp)⟩
            case measure => simp [intOf]; omega
      · go_wp2
        go_ret
        obtain rfl : k = n := by omega
        have e : lst k (PS.divT A B k) = lst k (PS.div A B) := lst_congr (fun i hi => PS.divT_low A B k i hi)
        rw [e] at O
        exact ⟨_, rfl, O, Bl⟩
end Go.Proofs.Ytnjaalblgakgaaa
