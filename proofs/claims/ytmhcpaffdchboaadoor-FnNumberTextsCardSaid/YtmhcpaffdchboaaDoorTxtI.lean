/-
  The walks of the text of a number, both sides: NumberText.
-/
import Derived.Test.YtmhcpaffdchboaaDoorTxtW
import Derived.Lib.SmallJoins
import Derived.Lib.AppendIntMem
namespace Go.Proofs.YtmhcpaffdchboaaDoor
open Go.RowKit
set_option maxRecDepth 100000
set_option linter.unusedVariables false
/-- The table of the powers of ten, by the row's own name of it. -/
def tabName : String := Rows.fnExactNumberTextRow.named.headD ""
def Tab (w : World) : Prop := Lib.TabIs Tryd.prog w tabName .u64 Lib.pow10Tab
theorem tab_glob : ∃ g, Tryd.prog.globalNamed tabName = some g := Option.isSome_iff_exists.1 (show (Tryd.prog.globalNamed tabName).isSome = true by kernel_rfl)
theorem var_below {P : Program} {W W' : World} {g : Nat} {n : String} {cs : Array Value} (hg : P.globalNamed n = some g) (h : W.var? P n = some cs) (hb : Below W.heap.size W W') : W'.var? P n = some cs := by
  unfold World.var? at h ⊢
  rw [hg] at h ⊢
  simp only [Option.bind_some] at h ⊢
  have hlt : g < W.heap.size := by
    rcases Nat.lt_or_ge g W.heap.size with h' | h'
    · exact h'
    · rw [Array.getElem?_eq_none h'] at h; cases h
  rw [hb.block g hlt]
  exact h
theorem Tab.mono {w w' : World} (h : Tab w) (b : Below w.heap.size w w') : Tab w' := by
  obtain ⟨g, hg⟩ := tab_glob
  exact var_below hg h b
theorem formatInt_any (n : Int) (w : World) (h0 : -1000000000 ≤ n) (h1 : n ≤ 1000000000) (ht : Tab w) :
    Calls Tryd.prog 38 #[.int .i64 n, .int .i64 10] w fun e w' => e = .returned (.string ⟨(Lib.itoa n).toArray⟩) ∧ Below w.heap.size w w' :=
  (Any.strconv_FormatInt_10 shelf_laysM173 n (by omega) (by omega) w ht).mono fun e w' ⟨he, k, os, hw⟩ => ⟨he, by subst hw; exact Lib.below_grow _ w (Nat.le_refl _) k os⟩
theorem fstr (p q : Int) : (⟨(Lib.itoa p).toArray⟩ : ByteArray) ++ ⟨#[47]⟩ ++ ⟨(Lib.itoa q).toArray⟩ = ⟨(Lib.itoa p ++ 47 :: Lib.itoa q).toArray⟩ := by
  rw [show (⟨#[47]⟩ : ByteArray) = ⟨[47].toArray⟩ from rfl, str_add, str_add]; simp
theorem numberText_any (a : Int) (w : World) (ha : 0 ≤ a) (ha' : a ≤ 10006) (ht : Tab w) :
    Calls Tryd.prog 19 #[.int .i64 a] w fun e w' => e = .returned (.string ⟨(numT a).toArray⟩) ∧ Below w.heap.size w w' := by
  go_enter Tryd.func19, Tryd.ntmps19
  go_wp2
  go_loopw [3] (fun x wr => ∃ (q : Nat), x = .int .i64 q ∧ 1 ≤ q ∧ q ≤ 71 ∧ txtFrom a q (71 - q) = numT a ∧ Below w.heap.size w wr) (fun x _ => 71 - (intOf x).toNat)
  case atStart => exact ⟨1, rfl, by omega, by omega, rfl, Below.refl _ _⟩
  case round =>
    obtain ⟨q, rfl, h0, h1, hI, Bl⟩ := hrel
    by_cases hlt : q ≤ 70
    · have m1 := Int.mul_nonneg ha (show 0 ≤ (q : Int) by omega)
      have m2 : a * q ≤ 10006 * 70 := Int.mul_le_mul ha' (by omega) (by omega) (by omega)
      go_wp2_with fail
      refine (num_any _ _).mono ?_
      rintro e w' ⟨rfl, rfl⟩
      go_wp2_with fail
      · obtain ⟨p, hpd⟩ : ∃ p : Int, p = a * q % 10007 - 10007 := ⟨_, rfl⟩
        rw [← hpd]
        have hc : cen (a * q % 10007) = p := by rw [hpd]; unfold cen; split <;> omega
        have bd := cen_bd (a * q)
        rw [hc] at bd
        obtain ⟨b0, b1⟩ := bd
        have HC := hid hc
        have HI := hid hI
        clear hpd hc hI m1 m2
        by_cases h2 : -70 ≤ p ∧ p ≤ 70
        · obtain ⟨p0, p1⟩ := h2
          have hR : inR p (-70) 70 = true := by simp [inR]; omega
          refine (inRange_any p (-70) 70 _).mono ?_
          rintro e w' ⟨rfl, rfl⟩
          rw [hR]
          go_wp2_with fail
          refine (divisor_any p q _ (by omega) (by omega) (by omega) (by omega)).mono ?_
          rintro e w3 ⟨rfl, D3⟩
          have B3 := nx Bl (D3.below _)
          by_cases hg : Int.gcd p q = 1
          · have hok : okq a q = true := (okq_iff a q).2 ⟨by rw [HC.out]; exact ⟨p0, p1⟩, by rw [HC.out]; exact hg⟩
            have HT : Hid (numT a = fracT p q) := by simp only [Hid]; rw [← HI.out, show 71 - q = (70 - q) + 1 by omega, txtFrom_hit a q _ hok, HC.out]
            rw [hg]
            clear hok hg
            by_cases hq1 : q = 1
            · subst hq1
              go_wp2_with fail
              refine (formatInt_any p _ (by omega) (by omega) (ht.mono B3)).mono ?_
              rintro e w4 ⟨rfl, B4⟩
              go_wp2
              go_ret
              exact ⟨by rw [HT.out]; rfl, nx B3 B4⟩
            · have hb : ((q : Int) == 1) = false := by simp; omega
              obtain ⟨S1, hS1⟩ : ∃ S1 : ByteArray, S1 = ⟨(Lib.itoa p).toArray⟩ := ⟨_, rfl⟩
              obtain ⟨S2, hS2⟩ : ∃ S2 : ByteArray, S2 = ⟨(Lib.itoa q).toArray⟩ := ⟨_, rfl⟩
              have hz1 : S1.size ≤ 21 := by rw [hS1, bsz]; exact Lib.itoa_length_le _ (by omega) (by omega)
              have hz2 : S2.size ≤ 21 := by rw [hS2, bsz]; exact Lib.itoa_length_le _ (by omega) (by omega)
              have hz3 : (S1 ++ (⟨#[47]⟩ : ByteArray)).size ≤ 22 := by rw [ByteArray.size_append]; simp only [show (⟨#[47]⟩ : ByteArray).size = 1 from rfl]; omega
              have HQ : Hid (¬ ((q : Int) = 1)) := by simp only [Hid]; omega
              go_wp2_with fail
              refine (formatInt_any p _ (by omega) (by omega) (ht.mono B3)).mono ?_
              rintro e w4 ⟨rfl, B4⟩
              have B5 := nx B3 B4
              rw [← hS1]
              have HS1 := hid hS1
              have HS2 := hid hS2
              clear hS1 hS2
              go_wp2_with fail
              refine (formatInt_any q _ (by omega) (by omega) (ht.mono B5)).mono ?_
              rintro e w6 ⟨rfl, B6⟩
              rw [← HS2.out]
              go_wp2
              go_ret
              exact ⟨by rw [HT.out, fracT, if_neg HQ.out, ← fstr, ← HS1.out, ← HS2.out]; rfl, nx B5 B6⟩
          · have hno : okq a q = false := by
              cases h : okq a q with
              | false => rfl
              | true => have := ((okq_iff a q).1 h).2; rw [HC.out] at this; exact absurd this hg
            have HT : Hid (txtFrom a (q + 1) (70 - q) = numT a) := by simp only [Hid]; rw [← HI.out, show 71 - q = (70 - q) + 1 by omega, txtFrom_miss a q _ hno]
            obtain ⟨g, hgd⟩ : ∃ g : Nat, g = Int.gcd p q := ⟨_, rfl⟩
            have hb : ((g : Int) != 1) = true := by simp; omega
            rw [← hgd]
            clear hgd hg hno
            go_wp2
            go_roundw
            case rel => exact ⟨q + 1, by go_num, by omega, by omega, by rw [show 71 - (q + 1) = 70 - q by omega]; exact_mod_cast HT.out, B3⟩
            case measure => simp [intOf]; omega
        · have hno : okq a q = false := by
            cases h : okq a q with
            | false => rfl
            | true => have := ((okq_iff a q).1 h).1; rw [HC.out] at this; exact absurd this h2
          have HT : Hid (txtFrom a (q + 1) (70 - q) = numT a) := by simp only [Hid]; rw [← HI.out, show 71 - q = (70 - q) + 1 by omega, txtFrom_miss a q _ hno]
          have hR : inR p (-70) 70 = false := by simp [inR]; omega
          refine (inRange_any p (-70) 70 _).mono ?_
          rintro e w' ⟨rfl, rfl⟩
          rw [hR]
          clear h2 hno
          go_wp2
          go_roundw
          case rel => exact ⟨q + 1, by go_num, by omega, by omega, by rw [show 71 - (q + 1) = 70 - q by omega]; exact_mod_cast HT.out, Bl⟩
          case measure => simp [intOf]; omega
      · obtain ⟨p, hpd⟩ : ∃ p : Int, p = a * q % 10007 := ⟨_, rfl⟩
        rw [← hpd]
        have hc : cen (a * q % 10007) = p := by rw [hpd]; unfold cen; split <;> omega
        have bd := cen_bd (a * q)
        rw [hc] at bd
        obtain ⟨b0, b1⟩ := bd
        have HC := hid hc
        have HI := hid hI
        clear hpd hc hI m1 m2
        by_cases h2 : -70 ≤ p ∧ p ≤ 70
        · obtain ⟨p0, p1⟩ := h2
          have hR : inR p (-70) 70 = true := by simp [inR]; omega
          refine (inRange_any p (-70) 70 _).mono ?_
          rintro e w' ⟨rfl, rfl⟩
          rw [hR]
          go_wp2_with fail
          refine (divisor_any p q _ (by omega) (by omega) (by omega) (by omega)).mono ?_
          rintro e w3 ⟨rfl, D3⟩
          have B3 := nx Bl (D3.below _)
          by_cases hg : Int.gcd p q = 1
          · have hok : okq a q = true := (okq_iff a q).2 ⟨by rw [HC.out]; exact ⟨p0, p1⟩, by rw [HC.out]; exact hg⟩
            have HT : Hid (numT a = fracT p q) := by simp only [Hid]; rw [← HI.out, show 71 - q = (70 - q) + 1 by omega, txtFrom_hit a q _ hok, HC.out]
            rw [hg]
            clear hok hg
            by_cases hq1 : q = 1
            · subst hq1
              go_wp2_with fail
              refine (formatInt_any p _ (by omega) (by omega) (ht.mono B3)).mono ?_
              rintro e w4 ⟨rfl, B4⟩
              go_wp2
              go_ret
              exact ⟨by rw [HT.out]; rfl, nx B3 B4⟩
            · have hb : ((q : Int) == 1) = false := by simp; omega
              obtain ⟨S1, hS1⟩ : ∃ S1 : ByteArray, S1 = ⟨(Lib.itoa p).toArray⟩ := ⟨_, rfl⟩
              obtain ⟨S2, hS2⟩ : ∃ S2 : ByteArray, S2 = ⟨(Lib.itoa q).toArray⟩ := ⟨_, rfl⟩
              have hz1 : S1.size ≤ 21 := by rw [hS1, bsz]; exact Lib.itoa_length_le _ (by omega) (by omega)
              have hz2 : S2.size ≤ 21 := by rw [hS2, bsz]; exact Lib.itoa_length_le _ (by omega) (by omega)
              have hz3 : (S1 ++ (⟨#[47]⟩ : ByteArray)).size ≤ 22 := by rw [ByteArray.size_append]; simp only [show (⟨#[47]⟩ : ByteArray).size = 1 from rfl]; omega
              have HQ : Hid (¬ ((q : Int) = 1)) := by simp only [Hid]; omega
              go_wp2_with fail
              refine (formatInt_any p _ (by omega) (by omega) (ht.mono B3)).mono ?_
              rintro e w4 ⟨rfl, B4⟩
              have B5 := nx B3 B4
              rw [← hS1]
              have HS1 := hid hS1
              have HS2 := hid hS2
              clear hS1 hS2
              go_wp2_with fail
              refine (formatInt_any q _ (by omega) (by omega) (ht.mono B5)).mono ?_
              rintro e w6 ⟨rfl, B6⟩
              rw [← HS2.out]
              go_wp2
              go_ret
              exact ⟨by rw [HT.out, fracT, if_neg HQ.out, ← fstr, ← HS1.out, ← HS2.out]; rfl, nx B5 B6⟩
          · have hno : okq a q = false := by
              cases h : okq a q with
              | false => rfl
              | true => have := ((okq_iff a q).1 h).2; rw [HC.out] at this; exact absurd this hg
            have HT : Hid (txtFrom a (q + 1) (70 - q) = numT a) := by simp only [Hid]; rw [← HI.out, show 71 - q = (70 - q) + 1 by omega, txtFrom_miss a q _ hno]
            obtain ⟨g, hgd⟩ : ∃ g : Nat, g = Int.gcd p q := ⟨_, rfl⟩
            have hb : ((g : Int) != 1) = true := by simp; omega
            rw [← hgd]
            clear hgd hg hno
            go_wp2
            go_roundw
            case rel => exact ⟨q + 1, by go_num, by omega, by omega, by rw [show 71 - (q + 1) = 70 - q by omega]; exact_mod_cast HT.out, B3⟩
            case measure => simp [intOf]; omega
        · have hno : okq a q = false := by
            cases h : okq a q with
            | false => rfl
            | true => have := ((okq_iff a q).1 h).1; rw [HC.out] at this; exact absurd this h2
          have HT : Hid (txtFrom a (q + 1) (70 - q) = numT a) := by simp only [Hid]; rw [← HI.out, show 71 - q = (70 - q) + 1 by omega, txtFrom_miss a q _ hno]
          have hR : inR p (-70) 70 = false := by simp [inR]; omega
          refine (inRange_any p (-70) 70 _).mono ?_
          rintro e w' ⟨rfl, rfl⟩
          rw [hR]
          clear h2 hno
          go_wp2
          go_roundw
          case rel => exact ⟨q + 1, by go_num, by omega, by omega, by rw [show 71 - (q + 1) = 70 - q by omega]; exact_mod_cast HT.out, Bl⟩
          case measure => simp [intOf]; omega
    · obtain rfl : q = 71 := by omega
      go_wp2_with fail
      refine (formatInt_any a _ (by omega) (by omega) (ht.mono Bl)).mono ?_
      rintro e w2 ⟨rfl, B2⟩
      go_wp2
      go_ret
      exact ⟨by rw [← hI]; rfl, nx Bl B2⟩
end Go.Proofs.YtmhcpaffdchboaaDoor
