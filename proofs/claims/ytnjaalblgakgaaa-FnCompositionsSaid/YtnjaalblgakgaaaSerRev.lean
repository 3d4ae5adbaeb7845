/-
  The walks of the reverses of series.
-/
import Derived.Test.YtnjaalblgakgaaaSerComp
import Derived.Test.YtnjaalblgakgaaaExp
namespace Go.Proofs.Ytnjaalblgakgaaa
open Go.RowKit
set_option maxRecDepth 100000
theorem neg_mul_vI (c d : F) : (-(vI c) * vI d) % 10007 = vI ((0 - c) * d) := by
  rw [vI_mul, vI_sub, vI_zero, Int.mul_emod ((0 - vI c) % 10007), Int.emod_emod, ← Int.mul_emod]
  congr 1
  rw [Int.zero_sub]
/-- The result of the reverse of a series. -/
def revR (zs : List Int) : List Int × Int :=
  if isSer zs = true then (if decide (el zs 0 = 0) && decide (2 ≤ zs.length) && !decide (el zs 1 = 0) then (lst zs.length (PS.rev (ser zs)), 0) else ([], 5)) else ([], 1)
theorem revT_all (a : PS) (n : Nat) : lst n (PS.revT a (n - 1)) = lst n (PS.rev a) := lst_congr fun i hi => PS.revT_low a (n - 1) i (by omega)
theorem revT_put (a : PS) (k : Nat) (hk : 1 ≤ k) : (fun i => if i = k + 1 then (0 - PS.comp a (PS.revT a k) (k + 1)) * fi (a 1) else PS.revT a k i) = PS.revT a (k + 1) := by
  funext i; simp only [PS.revT]; rw [if_neg (show ¬ k = 0 by omega)]
theorem revT_one (a : PS) : (fun i => if i = 1 then fi (a 1) else (fun _ => (0 : F)) i) = PS.revT a 1 := by
  funext i; simp only [PS.revT]; simp
set_option maxHeartbeats 1000000 in
theorem reverseSeries_any (v : Value) (zs : List Int) (w : World) (h : RdI w v zs) :
    Calls Try.prog 13 #[v] w fun e w' => ∃ r, e = .returned (.tuple #[r, .int .i64 (revR zs).2]) ∧ OwnI w.heap.size w' r (revR zs).1 ∧ Below w.heap.size w w' := by
  have h0 := hid h
  obtain ⟨ao, cap, rfl, hcap, hmax, -⟩ := h
  cases hs : isSer zs with
  | true =>
    have HS := hid hs
    have s1 := isSer_yes hs
    clear hs
    obtain ⟨b, off, rfl, hcell⟩ := h0.out.at_ (k := 0) (by omega)
    rw [Nat.add_zero] at hcell
    have n0 : (0 : Int) < (zs.length : Int) := by omega
    by_cases hz : el zs 0 = 0
    · have hb : (el zs 0 != 0) = false := by simp [hz]
      by_cases h2 : 2 ≤ zs.length
      · obtain ⟨b', off', e2, hcell1⟩ := h0.out.at_ (k := 1) (by omega)
        cases e2
        have n2 : ¬ (zs.length : Int) < 2 := by omega
        have n1 : (1 : Int) < (zs.length : Int) := by omega
        by_cases hz1 : el zs 1 = 0
        · have hb1 : (el zs 1 == 0) = true := by simp [hz1]
          have HR : Hid (revR zs = ([], 5)) := by simp [Hid, revR, HS.out, hz1]
          clear hz hz1
          go_enter Try.func13, Try.ntmps13
          go_wp2_with fail
          refine (isSeries_any _ zs _ h0.out).mono ?_; rintro e w' ⟨rfl, rfl⟩; rw [HS.out]
          go_wp2
          go_ret2
          rw [HR.out]
          exact ⟨_, rfl, OwnI.nil _ _, Below.refl _ _⟩
        · have hb1 : (el zs 1 == 0) = false := by simp [hz1]
          have HR : Hid (revR zs = (lst zs.length (PS.rev (ser zs)), 0)) := by simp [Hid, revR, HS.out, hz1, hz, h2]
          have HZ : Hid (¬ el zs 1 = 0) := hz1
          clear hz hz1
          go_enter Try.func13, Try.ntmps13
          go_wp2_with fail
          refine (isSeries_any _ zs _ h0.out).mono ?_; rintro e w' ⟨rfl, rfl⟩; rw [HS.out]
          have hmk := fun W => run_make_row' (P := Try.prog) 22 2 (.int .i64 0) 8 Try.underlying22 info_i64 rfl .i64 .i64 zs.length (by omega) (by omega) W
          have hq := s1.2.2.at 1
          have hlb := h0.out.lt (by omega)
          have E1 : Hid (invM (el zs 1) = vI (fi (ser zs 1))) := by simp only [Hid]; rw [vI_fi, ser, vI_fI_num (by rw [isNum_iff]; exact hq)]
          have HA := hid (h0.out.ser_ s1.2.2)
          go_upto_region 5 with fail
          go_cut [4, 5] (fun o f wx => OwnI w.heap.size wx o (lst zs.length (fun _ => 0)) ∧ f = .int .i64 (vI (fi (ser zs 1))) ∧ Below w.heap.size w wx)
          case first =>
            go_region_with (first | (go_at_call 62; refine (inv_any _ _ (by omega) (by omega)).mono ?_; rintro e w' ⟨rfl, rfl⟩))
            all_goals (go_wp2_with fail; go_meet)
            all_goals exact ⟨(OwnI.made w zs.length hmax w.heap.size w.heap.size rfl (Nat.le_refl _)).mono (below_drew _), by rw [E1.out], (below_alloc _ _).drew⟩
          case rest =>
            obtain ⟨O1, rfl, B1⟩ := hcut
            obtain ⟨ao3, cap3, rfl⟩ := O1.form
            obtain ⟨g, rfl⟩ := O1.addr (by simp; omega)
            rw [lst_length] at O1 ⊢
            have f1 := O1.free 1
            have k1 := O1.cellS 1 (by omega)
            have hg := O1.glt
            obtain ⟨O2, G2⟩ := O1.put 1 (fi (ser zs 1))
            rw [revT_one] at O2
            have B2 := B1.setCell (p := ⟨g, 1, none⟩) hg.1 (.int .i64 (vI (fi (ser zs 1))))
            have q1 := vI_bd (fi (ser zs 1))
            clear G2
            go_wp2
            go_loopw [6] (fun i wr => ∃ k : Nat, 1 ≤ k ∧ k + 1 ≤ zs.length ∧ i = .int .i64 ((k + 1 : Nat) : Int) ∧ OwnI w.heap.size wr (.slice (some ⟨g, 0, none⟩) zs.length cap3) (lst zs.length (PS.revT (ser zs) k)) ∧ Below w.heap.size w wr) (fun i _ => zs.length - (intOf i).toNat)
            case atStart => exact ⟨1, by omega, by omega, rfl, O2, B2⟩
            case round =>
              obtain ⟨k, hk1, hk, rfl, O, Bl⟩ := hrel
              by_cases hlt : k + 1 < zs.length
              · go_wp2_with fail
                refine (composeSeries_any zs.length (ser zs) (PS.revT (ser zs) k) (PS.revT_low _ _ _ (Nat.zero_le _)) _ _ _ (HA.out.mono Bl) O.rd (by omega)).mono ?_
                rintro e w2 ⟨r, rfl, O3, B3⟩
                obtain ⟨ao4, cap4, rfl⟩ := O3.form
                obtain ⟨g4, rfl⟩ := O3.addr (by simp; omega)
                rw [lst_length] at O3 ⊢
                have k4 := O3.cellS (k + 1) (by omega)
                have q4 := vI_bd (PS.comp (ser zs) (PS.revT (ser zs) k) (k + 1))
                have m := mul_bd q4.1 q4.2 q1.1 q1.2
                have O5 := O.mono B3
                have f5 := O5.free (k + 1)
                have k5 := O5.cellS (k + 1) (by omega)
                have hg5 := O5.glt
                obtain ⟨O6, G6⟩ := O5.put (k + 1) ((0 - PS.comp (ser zs) (PS.revT (ser zs) k) (k + 1)) * fi (ser zs 1))
                rw [revT_put _ _ hk1] at O6
                have B6 := (nx Bl B3).setCell (p := ⟨g, k + 1, none⟩) hg5.1 (.int .i64 (vI ((0 - PS.comp (ser zs) (PS.revT (ser zs) k) (k + 1)) * fi (ser zs 1))))
                have m1 : -9223372036854775808 ≤ -vI (PS.comp (ser zs) (PS.revT (ser zs) k) (k + 1)) * vI (fi (ser zs 1)) := by rw [Int.neg_mul]; omega
                have m2 : -vI (PS.comp (ser zs) (PS.revT (ser zs) k) (k + 1)) * vI (fi (ser zs 1)) ≤ 9223372036854775807 := by rw [Int.neg_mul]; omega
                go_wp2_with (go_at_call 63; refine (num_any _ _).mono ?_; rintro e w' ⟨rfl, rfl⟩; rw [neg_mul_vI])
                go_roundw
                case rel => exact ⟨k + 1, by omega, by omega, by go_num, O6, B6⟩
                case measure => simp [intOf]; omega
              · go_wp2
                go_ret2
                rw [HR.out]
                obtain rfl : k = zs.length - 1 := by omega
                rw [revT_all] at O
                exact ⟨_, rfl, O, Bl⟩
      · have n2 : (zs.length : Int) < 2 := by omega
        have HR : Hid (revR zs = ([], 5)) := by simp [Hid, revR, HS.out, h2]
        clear hz
        go_enter Try.func13, Try.ntmps13
        go_wp2_with fail
        refine (isSeries_any _ zs _ h0.out).mono ?_; rintro e w' ⟨rfl, rfl⟩; rw [HS.out]
        go_wp2
        go_ret2
        rw [HR.out]
        exact ⟨_, rfl, OwnI.nil _ _, Below.refl _ _⟩
    · have hb : (el zs 0 != 0) = true := by simpa using hz
      have HR : Hid (revR zs = ([], 5)) := by simp [Hid, revR, HS.out, hz]
      clear hz
      go_enter Try.func13, Try.ntmps13
      go_wp2_with fail
      refine (isSeries_any _ zs _ h0.out).mono ?_; rintro e w' ⟨rfl, rfl⟩; rw [HS.out]
      go_wp2
      go_ret2
      rw [HR.out]
      exact ⟨_, rfl, OwnI.nil _ _, Below.refl _ _⟩
  | false =>
    have HS := hid hs
    have HR : Hid (revR zs = ([], 1)) := by simp [Hid, revR, hs]
    clear hs
    go_enter Try.func13, Try.ntmps13
    go_wp2_with fail
    refine (isSeries_any _ zs _ h0.out).mono ?_; rintro e w' ⟨rfl, rfl⟩; rw [HS.out]
    go_wp2
    go_ret2
    rw [HR.out]
    exact ⟨_, rfl, OwnI.nil _ _, Below.refl _ _⟩
set_option maxHeartbeats 1000000 in
theorem sReverseSeries_any (v : Value) (zs : List Int) (w : World) (h : RdI w v zs) :
    Calls Try.prog 11 #[v] w fun e w' => ∃ r, e = .returned (.tuple #[r, .int .i64 (revR zs).2]) ∧ OwnI w.heap.size w' r (revR zs).1 ∧ Below w.heap.size w w' := by
  have h0 := hid h
  obtain ⟨ao, cap, rfl, hcap, hmax, -⟩ := h
  cases hs : isSer zs with
  | true =>
    have HS := hid hs
    have s1 := isSer_yes hs
    clear hs
    obtain ⟨b, off, rfl, hcell⟩ := h0.out.at_ (k := 0) (by omega)
    rw [Nat.add_zero] at hcell
    have n0 : (0 : Int) < (zs.length : Int) := by omega
    by_cases hz : el zs 0 = 0
    · have hb : (el zs 0 != 0) = false := by simp [hz]
      by_cases h2 : 2 ≤ zs.length
      · obtain ⟨b', off', e2, hcell1⟩ := h0.out.at_ (k := 1) (by omega)
        cases e2
        have n2 : ¬ (zs.length : Int) < 2 := by omega
        have n1 : (1 : Int) < (zs.length : Int) := by omega
        by_cases hz1 : el zs 1 = 0
        · have hb1 : (el zs 1 == 0) = true := by simp [hz1]
          have HR : Hid (revR zs = ([], 5)) := by simp [Hid, revR, HS.out, hz1]
          clear hz hz1
          go_enter Try.func11, Try.ntmps11
          go_wp2_with fail
          refine (l02Is_any _ zs _ h0.out).mono ?_; rintro e w' ⟨rfl, rfl⟩; rw [HS.out]
          go_wp2
          go_ret2
          rw [HR.out]
          exact ⟨_, rfl, OwnI.nil _ _, Below.refl _ _⟩
        · have hb1 : (el zs 1 == 0) = false := by simp [hz1]
          have HR : Hid (revR zs = (lst zs.length (PS.rev (ser zs)), 0)) := by simp [Hid, revR, HS.out, hz1, hz, h2]
          have HZ : Hid (¬ el zs 1 = 0) := hz1
          clear hz hz1
          go_enter Try.func11, Try.ntmps11
          go_wp2_with fail
          refine (l02Is_any _ zs _ h0.out).mono ?_; rintro e w' ⟨rfl, rfl⟩; rw [HS.out]
          have hmk := fun W => run_make_row' (P := Try.prog) 22 2 (.int .i64 0) 8 Try.underlying22 info_i64 rfl .i64 .i64 zs.length (by omega) (by omega) W
          have hq := s1.2.2.at 1
          have hlb := h0.out.lt (by omega)
          have E1 : Hid (invM (el zs 1) = vI (fi (ser zs 1))) := by simp only [Hid]; rw [vI_fi, ser, vI_fI_num (by rw [isNum_iff]; exact hq)]
          have HA := hid (h0.out.ser_ s1.2.2)
          have hcell2 : ∀ o, (w.alloc o).cell? ⟨b, off + 1, none⟩ = some (.int .i64 (el zs 1)) := fun o => by rw [World.cell?_alloc_past _ _ _ hlb]; exact hcell1
          have O1 := OwnI.made w zs.length hmax w.heap.size w.heap.size rfl (Nat.le_refl _)
          have B1 := below_alloc w (.cells (madeCells #[Value.int .i64 0] zs.length) 2)
          have hc3 := hcell2 (.cells (madeCells #[Value.int .i64 0] zs.length) 2)
          have hgl := O1.glt
          go_upto_region 6 with fail
          obtain ⟨W1, hW1⟩ : ∃ W1, W1 = w.alloc (.cells (madeCells #[Value.int .i64 0] zs.length) 2) := ⟨_, rfl⟩
          rw [← hW1] at O1 B1 hc3 hgl ⊢
          clear hW1 hcell2 hcell hcell1 hmk
          have f1 := O1.free 1
          have k1 := O1.cellS 1 (by omega)
          obtain ⟨O2, G2⟩ := O1.put 1 (fi (ser zs 1))
          rw [revT_one] at O2
          have B2 := B1.setCell (p := ⟨w.heap.size, 1, none⟩) (Nat.le_refl _) (.int .i64 (vI (fi (ser zs 1))))
          have q1 := vI_bd (fi (ser zs 1))
          clear G2
          go_wp2_with (go_at_call 57; refine (l01Inv_any _ _ (by omega) (by omega)).mono ?_; rintro e w' ⟨rfl, rfl⟩; rw [E1.out])
          go_loopw [5] (fun i wr => ∃ k : Nat, 1 ≤ k ∧ k + 1 ≤ zs.length ∧ i = .int .i64 ((k + 1 : Nat) : Int) ∧ OwnI w.heap.size wr (.slice (some ⟨w.heap.size, 0, none⟩) zs.length zs.length) (lst zs.length (PS.revT (ser zs) k)) ∧ Below w.heap.size w wr) (fun i _ => zs.length - (intOf i).toNat)
          case atStart => exact ⟨1, by omega, by omega, rfl, O2, B2⟩
          case round =>
            obtain ⟨k, hk1, hk, rfl, O, Bl⟩ := hrel
            by_cases hlt : k + 1 < zs.length
            · have q4 := vI_bd (PS.comp (ser zs) (PS.revT (ser zs) k) (k + 1))
              have q5 := vI_bd (0 - PS.comp (ser zs) (PS.revT (ser zs) k) (k + 1))
              have e1 : PS.revT (ser zs) k 1 = fi (ser zs 1) := by rw [PS.revT_low _ _ _ hk1]; rfl
              have kb := O.cellS 1 (by omega)
              rw [e1] at kb
              have hx : Hid ((0 - vI (PS.comp (ser zs) (PS.revT (ser zs) k) (k + 1))) % 10007 = vI (0 - PS.comp (ser zs) (PS.revT (ser zs) k) (k + 1))) := by simp only [Hid]; rw [vI_sub, vI_zero]
              have hy : Hid (vI (0 - PS.comp (ser zs) (PS.revT (ser zs) k) (k + 1)) * vI (fi (ser zs 1)) % 10007 = vI ((0 - PS.comp (ser zs) (PS.revT (ser zs) k) (k + 1)) * fi (ser zs 1))) := by simp only [Hid]; rw [vI_mul]
              go_wp2_with fail
              go_region_with (first
                | (go_at_call 60; refine (l02Compose_any zs.length (ser zs) (PS.revT (ser zs) k) (PS.revT_low _ _ _ (Nat.zero_le _)) _ _ _ (HA.out.mono Bl.drew) (O.mono (below_drew _)).rd (by omega)).mono ?_
                   rintro e w2 ⟨r, rfl, O3, B3⟩
                   obtain ⟨ao4, cap4, rfl⟩ := O3.form
                   obtain ⟨g4, rfl⟩ := O3.addr (by simp; omega)
                   rw [lst_length] at O3 ⊢
                   have k4 := O3.cellS (k + 1) (by omega)
                   have O5 := (O.mono (below_drew _)).mono B3
                   have f5 := O5.free (k + 1)
                   have k5 := O5.cellS (k + 1) (by omega)
                   have k6 := O5.cellS 1 (by omega)
                   rw [e1] at k6
                   have hg5 := O5.glt)
                | (go_at_call 59; refine (l01Sub_any _ _ _ (by omega) (by omega) q4.1 q4.2).mono ?_; rintro e w' ⟨rfl, rfl⟩; rw [hx.out])
                | (go_at_call 58; refine (l01Mul_any _ _ _ q5.1 q5.2 q1.1 q1.2).mono ?_; rintro e w' ⟨rfl, rfl⟩; rw [hy.out]))
              all_goals
                obtain ⟨O6, -⟩ := O5.put (k + 1) ((0 - PS.comp (ser zs) (PS.revT (ser zs) k) (k + 1)) * fi (ser zs 1))
                rw [revT_put _ _ hk1] at O6
                have B6 := (nx Bl.drew B3).setCell (p := ⟨w.heap.size, k + 1, none⟩) hg5.1 (.int .i64 (vI ((0 - PS.comp (ser zs) (PS.revT (ser zs) k) (k + 1)) * fi (ser zs 1))))
                clear k4 k5 k6 f5
                go_wp2
                go_roundw
                case rel => exact ⟨k + 1, by omega, by omega, by go_num, O6, B6⟩
                case measure => simp [intOf]; omega
            · go_wp2
              go_ret2
              rw [HR.out]
              obtain rfl : k = zs.length - 1 := by omega
              rw [revT_all] at O
              exact ⟨_, rfl, O, Bl⟩
      · have n2 : (zs.length : Int) < 2 := by omega
        have HR : Hid (revR zs = ([], 5)) := by simp [Hid, revR, HS.out, h2]
        clear hz
        go_enter Try.func11, Try.ntmps11
        go_wp2_with fail
        refine (l02Is_any _ zs _ h0.out).mono ?_; rintro e w' ⟨rfl, rfl⟩; rw [HS.out]
        go_wp2
        go_ret2
        rw [HR.out]
        exact ⟨_, rfl, OwnI.nil _ _, Below.refl _ _⟩
    · have hb : (el zs 0 != 0) = true := by simpa using hz
      by_cases h2 : 2 ≤ zs.length
      · have n2 : ¬ (zs.length : Int) < 2 := by omega
        have HR : Hid (revR zs = ([], 5)) := by simp [Hid, revR, HS.out, hz]
        clear hz
        go_enter Try.func11, Try.ntmps11
        go_wp2_with fail
        refine (l02Is_any _ zs _ h0.out).mono ?_; rintro e w' ⟨rfl, rfl⟩; rw [HS.out]
        go_wp2
        go_ret2
        rw [HR.out]
        exact ⟨_, rfl, OwnI.nil _ _, Below.refl _ _⟩
      · have n2 : (zs.length : Int) < 2 := by omega
        have HR : Hid (revR zs = ([], 5)) := by simp [Hid, revR, HS.out, hz]
        clear hz
        go_enter Try.func11, Try.ntmps11
        go_wp2_with fail
        refine (l02Is_any _ zs _ h0.out).mono ?_; rintro e w' ⟨rfl, rfl⟩; rw [HS.out]
        go_wp2
        go_ret2
        rw [HR.out]
        exact ⟨_, rfl, OwnI.nil _ _, Below.refl _ _⟩
  | false =>
    have HS := hid hs
    have HR : Hid (revR zs = ([], 1)) := by simp [Hid, revR, hs]
    clear hs
    go_enter Try.func11, Try.ntmps11
    go_wp2_with fail
    refine (l02Is_any _ zs _ h0.out).mono ?_; rintro e w' ⟨rfl, rfl⟩; rw [HS.out]
    go_wp2
    go_ret2
    rw [HR.out]
    exact ⟨_, rfl, OwnI.nil _ _, Below.refl _ _⟩
end Go.Proofs.Ytnjaalblgakgaaa
