/-
  The walks of the reference's sums of powers: exponentials.
-/
import Derived.Test.YtnjaalblgakgaaaSerMul
import Derived.Deep.OwnRows
import Derived.Deep.RegionWith
import Derived.Deep.DeepCutAuto
namespace Go.Proofs.Ytnjaalblgakgaaa
open Go.RowKit
set_option maxRecDepth 100000
theorem OwnI.made (w : World) (n : Nat) (hn : n ≤ 1048576) (base m : Nat) (hm : w.heap.size = m) (hb : base ≤ m) :
    OwnI base (w.alloc (.cells (madeCells #[Value.int .i64 0] n) 2)) (.slice (some ⟨m, 0, none⟩) n n) (lst n (fun _ => 0)) := by
  subst hm
  exact OwnI.zeros (World.ownsRow_lit w _ n hb (by simp [maxLen]; omega) (by rw [size_madeCells, Nat.mul_one])) hn
theorem RdI.formS {w : World} {v : Value} {n : Nat} {f : PS} (h : RdI w v (lst n f)) : ∃ ao cap, v = .slice ao n cap ∧ n ≤ cap ∧ n ≤ 1048576 := by
  obtain ⟨ao, cap, e, h1, h2, _⟩ := h
  rw [lst_length] at e h1 h2
  exact ⟨ao, cap, e, h1, h2⟩
theorem two_a {w w' : World} {r : Value} {f : PS} {n : Nat} (O1 : OwnI w.drew.heap.size w' r (lst n f)) (B1 : Below w.drew.heap.size w.drew w') (hn : n ≤ 1048576) :
    OwnI w.heap.size (w'.alloc (.cells (madeCells #[Value.int .i64 0] n) 2)) r (lst n f) ∧ OwnI w.heap.size (w'.alloc (.cells (madeCells #[Value.int .i64 0] n) 2)) (.slice (some ⟨w'.heap.size, 0, none⟩) n n) (lst n (fun _ => 0)) ∧
      Below w.heap.size w (w'.alloc (.cells (madeCells #[Value.int .i64 0] n) 2)) := by
  have B2 : Below w.heap.size w w' := ⟨B1.os, B1.tape, B1.output, B1.size, B1.block⟩
  exact ⟨O1.mono (below_alloc _ _), OwnI.made _ n hn _ _ rfl B2.size, nx B2 (below_alloc _ _)⟩
theorem two_b {w w' : World} {r : Value} {f : PS} {n : Nat} (O1 : OwnI (w.alloc (.cells (madeCells #[Value.int .i64 0] n) 2)).drew.heap.size w' r (lst n f))
    (B1 : Below (w.alloc (.cells (madeCells #[Value.int .i64 0] n) 2)).drew.heap.size (w.alloc (.cells (madeCells #[Value.int .i64 0] n) 2)).drew w') (hn : n ≤ 1048576) :
    OwnI w.heap.size w' r (lst n f) ∧ OwnI w.heap.size w' (.slice (some ⟨w.heap.size, 0, none⟩) n n) (lst n (fun _ => 0)) ∧ Below w.heap.size w w' := by
  have B0 : Below w.heap.size w (w.alloc (.cells (madeCells #[Value.int .i64 0] n) 2)).drew := (below_alloc _ _).drew
  exact ⟨O1.lower B0.size, ((OwnI.made w n hn _ _ rfl (Nat.le_refl _)).mono (below_drew _)).mono B1, nx B0 B1⟩
theorem l02Unit_any (n : Nat) (q : Int) (w : World) (hn : 1 ≤ n) (hn' : n ≤ 1048576) (hq : 0 ≤ q) (hq' : q ≤ 1048576) :
    Calls Try.prog 96 #[.int .i64 (n : Int), .int .i64 q] w fun e w' => ∃ r, e = .returned r ∧ OwnI w.heap.size w' r (lst n (fun i => if (i : Int) = q then 1 else 0)) ∧ Below w.heap.size w w' := by
  obtain ⟨i0, hi, hz0, hz1, hz2⟩ := info_parts info_i64
  go_enter Try.func96, Try.ntmps96
  go_wp2_with (at_make; refine wpList_make_full _ rfl _ _ _ rfl w.heap.size 2 i0 _ 1 Try.underlying22 hi hz0 hz1 _ _ _ _ n rfl rfl rfl rfl ?c1 ?c2 ?c3 ?_)
  case c1 => rw [hz2]; omega
  case c2 => unfold maxLen; omega
  case c3 => exact Nat.le_refl _
  intro w1 hown hgrow
  have hg := hgrow.size
  have O1 := OwnI.zeros hown hn'
  have B1 : Below w.heap.size w w1 := (Below.refl _ _).grown hgrow (Nat.le_refl _) (by simp)
  clear hown hgrow hz2 hz1 hz0 hi
  obtain ⟨k, rfl⟩ := Int.eq_ofNat_of_zero_le hq
  by_cases hlt : k < n
  · obtain ⟨O2, G2⟩ := O1.put k 1
    rw [vI_one] at O2 G2
    have hgl := O1.glt.2
    have hfk := O1.free k
    have hck := O1.cellS k hlt
    rw [vI_zero] at hck
    have e : lst n (fun i => if i = k then 1 else 0) = lst n (fun i => if (i : Int) = (k : Int) then 1 else 0) := by
      apply lst_congr; intro i _
      by_cases h : i = k
      · subst h; simp
      · rw [if_neg h, if_neg (by omega)]
    rw [e] at O2
    have HE := hid O2
    have HG := hid G2
    clear O2 G2 e O1
    go_wp2
    go_ret
    exact ⟨_, rfl, HE.out, B1.grown HG.out (by omega) (by simp)⟩
  · have e : lst n (fun _ => (0 : F)) = lst n (fun i => if (i : Int) = (k : Int) then 1 else 0) := by
      apply lst_congr; intro i hi
      rw [if_neg (by omega)]
    rw [e] at O1
    have HO := hid O1
    clear e O1
    go_wp2
    go_ret
    exact ⟨_, rfl, HO.out, B1⟩
theorem unit_cst (n : Nat) : lst n (fun i => if (i : Int) = 0 then (1 : F) else 0) = lst n (PS.cst 1) := by
  apply lst_congr; intro i _
  simp only [PS.cst]
  by_cases h : i = 0
  · rw [if_pos h, if_pos (by omega)]
  · rw [if_neg h, if_neg (by omega)]
set_option maxHeartbeats 1000000 in
theorem l02Exp_any (n : Nat) (B : PS) (v : Value) (w : World) (h : RdI w v (lst n B)) (hn : 1 ≤ n) (hsm : n ≤ 16) :
    Calls Try.prog 65 #[v] w fun e w' => ∃ r, e = .returned r ∧ OwnI w.heap.size w' r (lst n (PS.expS n B)) ∧ Below w.heap.size w w' := by
  obtain ⟨ao, cap, rfl, hcap, hmax⟩ := h.formS
  have H := hid h
  clear h
  have hmk := fun W => run_make_row' (P := Try.prog) 22 2 (.int .i64 0) 8 Try.underlying22 info_i64 rfl .i64 .i64 n (by omega) (by omega) W
  go_enter Try.func65, Try.ntmps65
  go_upto_region 1 with fail
  go_cut [3, 4] (fun p s wx => OwnI w.heap.size wx p (lst n (PS.cst 1)) ∧ OwnI w.heap.size wx s (lst n (fun _ => 0)) ∧ Below w.heap.size w wx)
  case first =>
    go_region_with (first | (go_at_call 96; refine (l02Unit_any n 0 _ (by omega) (by omega) (by omega) (by omega)).mono ?_; rintro e w' ⟨r, rfl, O1, B1⟩))
    all_goals (go_wp2_with fail; go_meet)
    all_goals rw [unit_cst] at O1
    · exact two_a O1 B1 hmax
    · exact two_b O1 B1 hmax
  case rest =>
    obtain ⟨O1, O2, B1⟩ := hcut
    go_wp2
    go_loopw [3, 4, 5] (fun p s i wr => ∃ k : Nat, k ≤ n ∧ i = .int .i64 ((k + 1 : Nat) : Int) ∧ OwnI w.heap.size wr p (lst n (PS.fpw B k)) ∧ OwnI w.heap.size wr s (lst n (PS.expS k B)) ∧ Below w.heap.size w wr) (fun _ _ i _ => n + 1 - (intOf i).toNat)
    case atStart => exact ⟨0, Nat.zero_le _, rfl, O1, O2, B1⟩
    case round =>
      obtain ⟨k, hk, rfl, Op, Os, Bl⟩ := hrel
      by_cases hlt : k < n
      · have b1 := invM_bd ((k + 1 : Nat) : Int)
        have e1 : Hid (invM ((k + 1 : Nat) : Int) = vI (fi (PS.nF (k + 1)))) := by simp only [Hid]; rw [vI_fi, vI_nF _ (by omega)]
        have H2 := H.out.mono Bl
        go_wp2_with fail
        refine (l02Add_any n (PS.expS k B) (PS.fpw B k) _ _ _ Os.rd Op.rd).mono ?_
        rintro e w2 ⟨s2, rfl, Os2, B2⟩
        go_wp2_with fail
        refine (l02Mul_any n (PS.fpw B k) B _ _ _ (Op.mono B2).rd (H2.mono B2)).mono ?_
        rintro e w3 ⟨p2, rfl, Op2, B3⟩
        go_wp2_with fail
        refine (l01Inv_any _ _ (by omega) (by omega)).mono ?_
        rintro e w3' ⟨rfl, rfl⟩
        rw [show invM ((k : Int) + 1) = vI (fi (PS.nF (k + 1))) from by have := e1.out; simpa using this]
        go_wp2_with fail
        refine (l02Times_any n (PS.mul (PS.fpw B k) B) (fi (PS.nF (k + 1))) _ _ Op2.rd).mono ?_
        rintro e w4 ⟨p3, rfl, Op3, B4⟩
        go_wp2
        go_roundw
        case rel => exact ⟨k + 1, by omega, by go_num, (Op3.lower (nx Bl (nx B2 B3)).size), ((Os2.mono B3).mono B4).lower Bl.size, nx Bl (nx B2 (nx B3 B4))⟩
        case measure => simp [intOf]; omega
      · go_wp2
        go_ret
        obtain rfl : k = n := by omega
        exact ⟨_, rfl, Os, Bl⟩
end Go.Proofs.Ytnjaalblgakgaaa
