/-
  The walks of the branches of trees, and of their symmetry.
-/
import Derived.Test.YtoiangfookhfdaaTreeG
namespace Go.Proofs.Ytoiangfookhfdaa
open Go.RowKit
set_option maxRecDepth 100000
theorem sortT_length (zss : List (List Int)) : (sortT zss).length = zss.length := (sortR_perm ltT zss).length_eq
theorem bran_facts {zs : List Int} {n : Nat} (hL : IsL zs) (hn : zs.length ≤ n) :
    IsL (canonF n zs) ∧ (canonF n zs).length = zs.length ∧ (sortT (parts (canonF n zs))).length < zs.length ∧ (∀ z ∈ parts (canonF n zs), 0 < z.length) ∧ ∀ z ∈ sortT (parts (canonF n zs)), IsL z ∧ z.length < zs.length := by
  have h1 := canonF_IsL n zs hL
  have h2 := h1.2 hn
  have h3 := parts_len h1.1
  have h4 := parts_IsL h1.1
  refine ⟨h1.1, h2, by rw [sortT_length]; omega, fun z hz => (h4 z hz).1.1, fun z hz => ?_⟩
  have := h4 z ((sortR_perm ltT _).mem_iff.1 hz)
  exact ⟨this.1, by omega⟩
theorem l03Branches_any (n : Nat) (hn12 : n ≤ 12) (v : Value) (zs : List Int) (w : World) (h : RdI w v zs) (hL : IsL zs) (hn : zs.length ≤ n) :
    Calls Try.prog 63 #[v] w fun e w' => ∃ r, e = .returned r ∧ OwnII w.heap.size w' r (sortT (parts (canonF n zs))) ∧ Below w.heap.size w w' := by
  have HC := hid (bran_facts hL hn)
  have HL := hid hL
  have hpl2 : (parts (canonF n zs)).length ≤ 12 := by have := HC.out.2.2.1; rw [sortT_length] at this; omega
  clear hL
  go_enter Try.func63, Try.ntmps63
  go_wp2_with fail
  refine (l03Canon_any n hn12 _ zs _ h HL.out hn).mono ?_; rintro e w1 ⟨r1, rfl, O1, B1⟩
  go_wp2_with fail
  refine (l03Parts_any _ (canonF n zs) _ O1.rd HC.out.1).mono ?_; rintro e w2 ⟨r2, rfl, ⟨us2, O2⟩, B2⟩
  go_wp2_with fail
  refine (l03Sort_any _ _ _ O2.rd HC.out.2.2.2.1 hpl2).mono ?_; rintro e w3 ⟨r3, rfl, ⟨us3, O3⟩, B3⟩
  go_wp2
  go_ret
  exact ⟨_, rfl, ⟨us3, O3.lower (Nat.le_trans B1.size B2.size)⟩, nx (nx B1 B2) B3⟩
theorem sBranchesOf_any (v : Value) (zs : List Int) (w : World) (h : RdI w v zs) :
    Calls Try.prog 40 #[v] w fun e w' => ∃ r, e = .returned (.tuple #[r, .int .i64 (branR zs).2]) ∧ OwnII w.heap.size w' r (branR zs).1 ∧ Below w.heap.size w w' := by
  obtain ⟨ao, cap, rfl⟩ := h.form
  cases hs : isLev zs with
  | true =>
    have HS := hid hs
    have HR : Hid (branR zs = (sortT (parts (canonF 8 zs)), 0)) := by simp only [Hid, branR]; rw [if_pos hs]; rfl
    have HL := hid (isLev_IsL hs)
    have h0 := hid h
    clear hs h
    go_enter Try.func40, Try.ntmps40
    go_wp2_with fail
    refine (l03Is_any _ zs _ h0.out).mono ?_; rintro e w0 ⟨rfl, D⟩; rw [HS.out]
    have B0 := D.below w.heap.size
    go_wp2_with fail
    refine (l03Branches_any 8 (by omega) _ zs _ (h0.out.mono B0) HL.out.1 HL.out.2).mono ?_; rintro e w1 ⟨r1, rfl, ⟨us1, O1⟩, B1⟩
    go_wp2
    go_ret2
    rw [HR.out]
    exact ⟨_, rfl, ⟨us1, O1.lower B0.size⟩, nx B0 B1⟩
  | false =>
    have HS := hid hs
    have HR : Hid (branR zs = ([], 1)) := by simp [Hid, branR, hs]
    clear hs
    go_enter Try.func40, Try.ntmps40
    go_wp2_with fail
    refine (l03Is_any _ zs _ h).mono ?_; rintro e w' ⟨rfl, D⟩; rw [HS.out]
    go_wp2
    go_ret2
    rw [HR.out]
    exact ⟨_, rfl, ⟨[], Own2.nil _ _⟩, D.below _⟩
theorem branR_tot (zs : List Int) : tot (branR zs).1 ≤ 1048576 := by
  unfold branR
  split
  · rename_i h
    have h1 := canon_IsL h
    have h2 := tot_parts h1.1
    have h3 := (isLev_IsL h).2
    show tot (sortT (parts (canon zs))) ≤ _
    rw [sortT, tot_perm (sortR_perm ltT _)]; omega
  · simp [tot]
/-! Symmetry. -/
theorem wrap64_mod (n : Int) : wrap64 n % 18446744073709551616 = n % 18446744073709551616 := by unfold wrap64; omega
theorem wrap64_congr {a b : Int} (h : a % 18446744073709551616 = b % 18446744073709551616) : wrap64 a = wrap64 b := by unfold wrap64; omega
theorem wrap64_assoc (a s f : Int) : wrap64 (wrap64 (a * s) * f) = wrap64 (a * wrap64 (s * f)) := by
  apply wrap64_congr
  rw [Int.mul_emod, wrap64_mod, ← Int.mul_emod, Int.mul_emod a, wrap64_mod, ← Int.mul_emod, Int.mul_assoc]
/-- The product so far, and how often the last branch has come. -/
def symTo (f : List Int → Int) (bs : List (List Int)) : Nat → Int × Int
  | 0 => (1, 0)
  | k + 1 =>
    let s : Int := if 0 < k ∧ sameL (rowAt bs (k - 1)) (rowAt bs k) = false then 1 else (symTo f bs k).2 + 1
    (wrap64 ((symTo f bs k).1 * wrap64 (s * f (rowAt bs k))), s)
theorem symTo_bd (f : List Int → Int) (bs : List (List Int)) (k : Nat) : 0 ≤ (symTo f bs k).2 ∧ (symTo f bs k).2 ≤ k := by
  induction k with
  | zero => simp [symTo]
  | succ k ih => simp only [symTo]; split <;> omega
def symF : Nat → List Int → Int
  | 0, _ => 0
  | n + 1, t => (symTo (symF n) (sortT (parts (canonF (n + 1) t))) (sortT (parts (canonF (n + 1) t))).length).1
def symR (zs : List Int) : Int × Int := if isLev zs = true then (symF 8 zs, 0) else (0, 1)
theorem symmetry_any (n : Nat) (hn12 : n ≤ 12) : ∀ (v : Value) (zs : List Int) (w : World), RdI w v zs → IsL zs → zs.length ≤ n →
    Calls Try.prog 67 #[v] w fun e w' => e = .returned (.int .i64 (symF n zs)) ∧ Below w.heap.size w w' := by
  induction n with
  | zero => intro v zs w h hL hn; have := hL.1; omega
  | succ n ih =>
    intro v zs w h hL hn
    have H := hid h
    obtain ⟨ao, cap, rfl⟩ := h.form
    have HC := hid (bran_facts hL hn)
    have HL := hid hL
    have IH := hid (ih (by omega))
    have hpl2 : (parts (canonF (n + 1) zs)).length ≤ 12 := by have := HC.out.2.2.1; rw [sortT_length] at this; omega
    obtain ⟨bs, hbs⟩ : ∃ bs, bs = sortT (parts (canonF (n + 1) zs)) := ⟨_, rfl⟩
    have HF : Hid (symF (n + 1) zs = (symTo (symF n) bs bs.length).1) := by simp only [Hid]; rw [hbs]; rfl
    have HB : Hid (∀ z ∈ bs, IsL z ∧ z.length < zs.length) := by simp only [Hid]; rw [hbs]; exact HC.out.2.2.2.2
    have hbl : bs.length ≤ 12 := by rw [hbs, sortT_length]; exact hpl2
    have HBS := hid hbs
    clear hL ih h hbs
    go_enter Try.func67, Try.ntmps67
    go_wp2_with fail
    refine (canonical_any (n + 1) hn12 _ zs _ H.out HL.out hn).mono ?_; rintro e w1 ⟨r1, rfl, O1, B1⟩
    go_wp2_with fail
    refine (branchesOf_any _ (canonF (n + 1) zs) _ O1.rd HC.out.1).mono ?_; rintro e w2 ⟨r2, rfl, ⟨us2, O2⟩, B2⟩
    go_wp2_with fail
    refine (forestOf_any _ _ _ O2.rd HC.out.2.2.2.1 hpl2).mono ?_; rintro e w3 ⟨r3, rfl, ⟨us3, O3⟩, B3⟩
    rw [← HBS.out] at O3
    obtain ⟨ao3, cap3, rfl⟩ := O3.form
    have R := hid O3.rd
    have BB := nx (nx B1 B2) B3
    clear O3 O2 O1 B1 B2 B3
    go_wp2
    go_loopw [3, 5, 14] (fun q s i wr => ∃ k : Nat, k ≤ bs.length ∧ i = .int .i64 k ∧ q = .int .i64 (symTo (symF n) bs k).1 ∧ s = .int .i64 (symTo (symF n) bs k).2 ∧ Below w3.heap.size w3 wr) (fun _ _ i _ => bs.length - (intOf i).toNat)
    case atStart => exact ⟨0, Nat.zero_le _, rfl, rfl, rfl, Below.refl _ _⟩
    case round =>
      obtain ⟨k, hk, rfl, rfl, rfl, Bl⟩ := hrel
      have sb := symTo_bd (symF n) bs k
      have sb1 := sb.1
      have sb2 := sb.2
      clear sb
      by_cases hlt : k < bs.length
      · obtain ⟨b, off, u, rfl, hcell, hu⟩ := (R.out.mono Bl).at_ hlt
        have HU := hid hu
        obtain ⟨aou, capu, rfl⟩ := hu.form
        have hp := HB.out _ (rowAt_mem bs k hlt)
        obtain ⟨z, hz⟩ : ∃ z, z = rowAt bs k := ⟨_, rfl⟩
        rw [← hz] at HU hcell hp
        have HZ := hid hz
        have HPP := hid hp
        have hzl : z.length ≤ n := by omega
        clear hu hz hp
        by_cases hk0 : 0 < k
        · have hk1 : k - 1 < bs.length := by omega
          obtain ⟨_, _, u', e1, hcell', hu'⟩ := (R.out.mono Bl).at_ hk1
          cases e1
          have HU' := hid hu'
          obtain ⟨aou', capu', rfl⟩ := hu'.form
          have ek : Hid (((k : Int) - 1).toNat = k - 1) := by simp only [Hid]; omega
          clear hu'
          cases hsm : sameL (rowAt bs (k - 1)) z with
          | true =>
            have HSM := hid hsm
            have HN : Hid (symTo (symF n) bs (k + 1) = (wrap64 ((symTo (symF n) bs k).1 * wrap64 (((symTo (symF n) bs k).2 + 1) * symF n z)), (symTo (symF n) bs k).2 + 1)) := by
              simp only [Hid, symTo]; rw [← HZ.out, hsm, if_neg (by simp)]
            clear hsm
            go_wp2_with (first
              | (go_at_call 58; refine (slicesEqual_any _ _ (rowAt bs (k - 1)) z _ HU'.out HU.out).mono ?_; rintro e wx ⟨rfl, D⟩; rw [HSM.out]; have BD := D.below wr.heap.size)
              | (go_at_call 67; refine (IH.out _ z _ (HU.out.mono BD) HPP.out.1 hzl).mono ?_; rintro e wy ⟨rfl, By⟩))
            go_roundw
            case rel => exact ⟨k + 1, by omega, by go_num, by rw [HN.out], by rw [HN.out], nx (nx Bl BD) By⟩
            case measure => simp [intOf]; omega
          | false =>
            have HSM := hid hsm
            have HN : Hid (symTo (symF n) bs (k + 1) = (wrap64 ((symTo (symF n) bs k).1 * wrap64 (1 * symF n z)), 1)) := by
              simp only [Hid, symTo]; rw [← HZ.out, hsm, if_pos ⟨hk0, rfl⟩]
            clear hsm
            go_wp2_with (first
              | (go_at_call 58; refine (slicesEqual_any _ _ (rowAt bs (k - 1)) z _ HU'.out HU.out).mono ?_; rintro e wx ⟨rfl, D⟩; rw [HSM.out]; have BD := D.below wr.heap.size)
              | (go_at_call 67; refine (IH.out _ z _ (HU.out.mono BD) HPP.out.1 hzl).mono ?_; rintro e wy ⟨rfl, By⟩))
            go_roundw
            case rel => exact ⟨k + 1, by omega, by go_num, by rw [HN.out]; simp, by rw [HN.out], nx (nx Bl BD) By⟩
            case measure => simp [intOf]; omega
        · have hk00 : k = 0 := by omega
          have HN : Hid (symTo (symF n) bs (k + 1) = (wrap64 ((symTo (symF n) bs k).1 * wrap64 (((symTo (symF n) bs k).2 + 1) * symF n z)), (symTo (symF n) bs k).2 + 1)) := by
            simp only [Hid, symTo]; rw [← HZ.out, if_neg (by omega)]
          clear hk00
          go_wp2_with (go_at_call 67; refine (IH.out _ z _ HU.out HPP.out.1 hzl).mono ?_; rintro e wy ⟨rfl, By⟩)
          go_roundw
          case rel => exact ⟨k + 1, by omega, by go_num, by rw [HN.out], by rw [HN.out], nx Bl By⟩
          case measure => simp [intOf]; omega
      · go_wp2
        go_ret
        obtain rfl : k = bs.length := by omega
        exact ⟨by rw [HF.out]; rfl, nx BB Bl⟩
theorem l03Symmetry_any (n : Nat) (hn12 : n ≤ 12) : ∀ (v : Value) (zs : List Int) (w : World), RdI w v zs → IsL zs → zs.length ≤ n →
    Calls Try.prog 66 #[v] w fun e w' => e = .returned (.int .i64 (symF n zs)) ∧ Below w.heap.size w w' := by
  induction n with
  | zero => intro v zs w h hL hn; have := hL.1; omega
  | succ n ih =>
    intro v zs w h hL hn
    have H := hid h
    obtain ⟨ao, cap, rfl⟩ := h.form
    have HC := hid (bran_facts hL hn)
    have HL := hid hL
    have IH := hid (ih (by omega))
    have hpl2 : (parts (canonF (n + 1) zs)).length ≤ 12 := by have := HC.out.2.2.1; rw [sortT_length] at this; omega
    obtain ⟨bs, hbs⟩ : ∃ bs, bs = sortT (parts (canonF (n + 1) zs)) := ⟨_, rfl⟩
    have HF : Hid (symF (n + 1) zs = (symTo (symF n) bs bs.length).1) := by simp only [Hid]; rw [hbs]; rfl
    have HB : Hid (∀ z ∈ bs, IsL z ∧ z.length < zs.length) := by simp only [Hid]; rw [hbs]; exact HC.out.2.2.2.2
    have hbl : bs.length ≤ 12 := by rw [hbs, sortT_length]; exact hpl2
    have HBS := hid hbs
    clear hL ih h hbs
    go_enter Try.func66, Try.ntmps66
    go_wp2_with fail
    refine (l03Branches_any (n + 1) hn12 _ zs _ H.out HL.out hn).mono ?_; rintro e w3 ⟨r3, rfl, ⟨us3, O3⟩, BB⟩
    rw [← HBS.out] at O3
    obtain ⟨ao3, cap3, rfl⟩ := O3.form
    have R := hid O3.rd
    clear O3
    go_wp2
    go_loopw [4, 5, 6] (fun q s i wr => ∃ k : Nat, k ≤ bs.length ∧ i = .int .i64 k ∧ q = .int .i64 (symTo (symF n) bs k).1 ∧ s = .int .i64 (symTo (symF n) bs k).2 ∧ Below w3.heap.size w3 wr) (fun _ _ i _ => bs.length - (intOf i).toNat)
    case atStart => exact ⟨0, Nat.zero_le _, rfl, rfl, rfl, Below.refl _ _⟩
    case round =>
      obtain ⟨k, hk, rfl, rfl, rfl, Bl⟩ := hrel
      have sb := symTo_bd (symF n) bs k
      have sb1 := sb.1
      have sb2 := sb.2
      clear sb
      by_cases hlt : k < bs.length
      · obtain ⟨b, off, u, rfl, hcell, hu⟩ := (R.out.mono Bl).at_ hlt
        have HU := hid hu
        obtain ⟨aou, capu, rfl⟩ := hu.form
        have hp := HB.out _ (rowAt_mem bs k hlt)
        obtain ⟨z, hz⟩ : ∃ z, z = rowAt bs k := ⟨_, rfl⟩
        rw [← hz] at HU hcell hp
        have HZ := hid hz
        have HPP := hid hp
        have hzl : z.length ≤ n := by omega
        clear hu hz hp
        by_cases hk0 : 0 < k
        · have hk1 : k - 1 < bs.length := by omega
          have hk2 : ((k : Int) == 0) = false := by simp; omega
          obtain ⟨_, _, u', e1, hcell', hu'⟩ := (R.out.mono Bl).at_ hk1
          cases e1
          have HU' := hid hu'
          obtain ⟨aou', capu', rfl⟩ := hu'.form
          clear hu'
          cases hsm : sameL (rowAt bs (k - 1)) z with
          | true =>
            have HSM : Hid (sameL z (rowAt bs (k - 1)) = true) := by simp only [Hid, sameL, decide_eq_true_iff] at hsm ⊢; exact hsm.symm
            have HN : Hid (symTo (symF n) bs (k + 1) = (wrap64 (wrap64 ((symTo (symF n) bs k).1 * ((symTo (symF n) bs k).2 + 1)) * symF n z), (symTo (symF n) bs k).2 + 1)) := by
              simp only [Hid, symTo]; rw [← HZ.out, hsm, if_neg (by simp), wrap64_assoc]
            clear hsm
            go_wp2_with fail
            have i1 : IntKind.i64.wrap ((k : Int) - 1) = (k : Int) - 1 := IntWalk.i64_in _ (by omega)
            have i2 : (0 : Int) ≤ (k : Int) - 1 := by omega
            have i3 : (1 : Int) ≤ (k : Int) := by omega
            have i4 : (k : Int) - 1 < (bs.length : Int) := by omega
            have i5 : ((k : Int) - 1).toNat = k - 1 := by omega
            go_quiet ((go_at_call 56; exact quiet_dr ((l01Same_any _ _ z (rowAt bs (k - 1)) _ (HU.out.mono (below_drewN (Below.refl _ _) _)) (HU'.out.mono (below_drewN (Below.refl _ _) _))).mono fun _ _ ⟨h, d⟩ => ⟨h.trans (congrArg (fun b => Ending.returned (.bool b)) HSM.out), d⟩)))
            clear i1 i2 i3 i4 i5
            go_wp2_with (go_at_call 66; refine (IH.out _ z _ (HU.out.mono (below_drewN (Below.refl _ _) _)) HPP.out.1 hzl).mono ?_; rintro e wy ⟨rfl, By⟩)
            go_roundw
            case rel => exact ⟨k + 1, by omega, by go_num, by rw [HN.out], by rw [HN.out], nx (below_drewN Bl _) By⟩
            case measure => simp [intOf]; omega
          | false =>
            have HSM : Hid (sameL z (rowAt bs (k - 1)) = false) := by simp only [Hid, sameL, decide_eq_false_iff_not] at hsm ⊢; exact fun e => hsm e.symm
            have HN : Hid (symTo (symF n) bs (k + 1) = (wrap64 (wrap64 ((symTo (symF n) bs k).1 * 1) * symF n z), 1)) := by
              simp only [Hid, symTo]; rw [← HZ.out, hsm, if_pos ⟨hk0, rfl⟩, wrap64_assoc]
            clear hsm
            go_wp2_with fail
            have i1 : IntKind.i64.wrap ((k : Int) - 1) = (k : Int) - 1 := IntWalk.i64_in _ (by omega)
            have i2 : (0 : Int) ≤ (k : Int) - 1 := by omega
            have i3 : (1 : Int) ≤ (k : Int) := by omega
            have i4 : (k : Int) - 1 < (bs.length : Int) := by omega
            have i5 : ((k : Int) - 1).toNat = k - 1 := by omega
            go_quiet ((go_at_call 56; exact quiet_dr ((l01Same_any _ _ z (rowAt bs (k - 1)) _ (HU.out.mono (below_drewN (Below.refl _ _) _)) (HU'.out.mono (below_drewN (Below.refl _ _) _))).mono fun _ _ ⟨h, d⟩ => ⟨h.trans (congrArg (fun b => Ending.returned (.bool b)) HSM.out), d⟩)))
            clear i1 i2 i3 i4 i5
            go_wp2_with (go_at_call 66; refine (IH.out _ z _ (HU.out.mono (below_drewN (Below.refl _ _) _)) HPP.out.1 hzl).mono ?_; rintro e wy ⟨rfl, By⟩)
            go_roundw
            case rel => exact ⟨k + 1, by omega, by go_num, by rw [HN.out]; simp, by rw [HN.out], nx (below_drewN Bl _) By⟩
            case measure => simp [intOf]; omega
        · have hk00 : (k : Int) = 0 := by omega
          have hk2 : ((k : Int) == 0) = true := by simp; omega
          have hk01 : k = 0 := by omega
          have HN : Hid (symTo (symF n) bs (k + 1) = (wrap64 (wrap64 ((symTo (symF n) bs k).1 * 1) * symF n z), 1)) := by
            have : (symTo (symF n) bs k).2 = 0 := by rw [hk01]; rfl
            simp only [Hid, symTo]; rw [← HZ.out, if_neg (by omega), this, wrap64_assoc]; rfl
          clear hk00 hk01
          go_wp2_with fail
          go_quiet (fail)
          go_wp2_with (go_at_call 66; refine (IH.out _ z _ (HU.out.mono (below_drewN (Below.refl _ _) _)) HPP.out.1 hzl).mono ?_; rintro e wy ⟨rfl, By⟩)
          go_roundw
          case rel => exact ⟨k + 1, by omega, by go_num, by rw [HN.out]; simp, by rw [HN.out], nx (below_drewN Bl _) By⟩
          case measure => simp [intOf]; omega
      · go_wp2
        go_ret
        obtain rfl : k = bs.length := by omega
        exact ⟨by rw [HF.out]; rfl, nx BB Bl⟩
theorem symmetryOf_any (v : Value) (zs : List Int) (w : World) (h : RdI w v zs) :
    Calls Try.prog 43 #[v] w fun e w' => e = .returned (.tuple #[.int .i64 (symR zs).1, .int .i64 (symR zs).2]) ∧ Below w.heap.size w w' := by
  have H := hid h
  obtain ⟨ao, cap, rfl⟩ := h.form
  cases hs : isLev zs with
  | true =>
    have HS := hid hs
    have HL := hid (isLev_IsL hs)
    clear hs
    go_enter Try.func43, Try.ntmps43
    go_wp2_with fail
    refine (isLevels_any _ zs _ H.out).mono ?_; rintro e w' ⟨rfl, rfl⟩; rw [HS.out]
    go_wp2_with fail
    refine (symmetry_any 8 (by omega) _ zs _ H.out HL.out.1 HL.out.2).mono ?_; rintro e w1 ⟨rfl, B1⟩
    go_wp2
    go_ret2
    exact ⟨by rw [symR, if_pos HS.out]; rfl, B1⟩
  | false =>
    have HS := hid hs
    clear hs
    go_enter Try.func43, Try.ntmps43
    go_wp2_with fail
    refine (isLevels_any _ zs _ H.out).mono ?_; rintro e w' ⟨rfl, rfl⟩; rw [HS.out]
    go_wp2
    go_ret2
    exact ⟨by rw [symR, HS.out]; rfl, Below.refl _ _⟩
theorem sSymmetryOf_any (v : Value) (zs : List Int) (w : World) (h : RdI w v zs) :
    Calls Try.prog 42 #[v] w fun e w' => e = .returned (.tuple #[.int .i64 (symR zs).1, .int .i64 (symR zs).2]) ∧ Below w.heap.size w w' := by
  have H := hid h
  obtain ⟨ao, cap, rfl⟩ := h.form
  cases hs : isLev zs with
  | true =>
    have HS := hid hs
    have HL := hid (isLev_IsL hs)
    clear hs
    go_enter Try.func42, Try.ntmps42
    go_wp2_with fail
    refine (l03Is_any _ zs _ H.out).mono ?_; rintro e w0 ⟨rfl, D0⟩; rw [HS.out]
    have B0 := D0.below w.heap.size
    have H2 := hid (H.out.mono B0)
    go_wp2_with fail
    refine (l03Symmetry_any 8 (by omega) _ zs _ H2.out HL.out.1 HL.out.2).mono ?_; rintro e w1 ⟨rfl, B1⟩
    go_wp2
    go_ret2
    exact ⟨by rw [symR, if_pos HS.out]; rfl, nx B0 B1⟩
  | false =>
    have HS := hid hs
    clear hs
    go_enter Try.func42, Try.ntmps42
    go_wp2_with fail
    refine (l03Is_any _ zs _ H.out).mono ?_; rintro e w' ⟨rfl, D0⟩; rw [HS.out]
    go_wp2
    go_ret2
    exact ⟨by rw [symR, HS.out]; rfl, D0.below _⟩
end Go.Proofs.Ytoiangfookhfdaa
