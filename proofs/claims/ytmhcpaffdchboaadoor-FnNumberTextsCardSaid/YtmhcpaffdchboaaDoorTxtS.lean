/-
  The walks of the text of a number, the reference's search; NumberText on both sides.
-/
import Derived.Test.YtmhcpaffdchboaaDoorTxtI
import Derived.Lib.LaidTab
namespace Go.Proofs.YtmhcpaffdchboaaDoor
open Go.RowKit
set_option maxRecDepth 100000
set_option linter.unusedVariables false
theorem l01DecI_any (n : Int) (w : World) (h0 : 0 ≤ n) (h1 : n ≤ 1000000000) :
    Calls Tryd.prog 36 #[.int .i64 n] w fun e w' => e = .returned (.string ⟨(Lib.decDigits n.toNat).toArray⟩) ∧ Below w.heap.size w w' := by
  have := l01Dec_any n.toNat w (by omega)
  rwa [Int.toNat_of_nonneg h0] at this
theorem l01Text_any (a : Int) (w : World) (ha : 0 ≤ a) (ha' : a ≤ 10006) :
    Calls Tryd.prog 17 #[.int .i64 a] w fun e w' => e = .returned (.string ⟨(numT a).toArray⟩) ∧ Below w.heap.size w w' := by
  go_enter Tryd.func17, Tryd.ntmps17
  go_wp2
  go_loopw [3] (fun x wr => ∃ (q : Nat), x = .int .i64 q ∧ 1 ≤ q ∧ q ≤ 71 ∧ txtFrom a q (71 - q) = numT a ∧ Below w.heap.size w wr) (fun x _ => 71 - (intOf x).toNat)
  case atStart => exact ⟨1, rfl, by omega, by omega, rfl, Below.refl _ _⟩
  case round =>
    obtain ⟨q, rfl, h0, h1, hI, Bl'⟩ := hrel
    by_cases hlt : q ≤ 70
    · have HI := hid hI
      clear hI
      go_wp2_with fail
      go_loopw [4] (fun y ws => ∃ (p : Int), y = .int .i64 p ∧ -70 ≤ p ∧ p ≤ 71 ∧ (okq a q = true → p ≤ cen (a * q % 10007)) ∧ Below w.heap.size w ws) (fun y _ => (71 - intOf y).toNat)
      case atStart => exact ⟨-70, rfl, by omega, by omega, fun h => ((okq_iff a q).1 h).1.1, Bl'⟩
      case round =>
        obtain ⟨p, rfl, p0, p1, hJ, Bl⟩ := hrel
        clear Bl'
        by_cases hpt : p ≤ 70
        · have m1 := Int.mul_nonneg ha (show 0 ≤ (q : Int) by omega)
          have m2 : a * q ≤ 10006 * 70 := Int.mul_le_mul ha' (by omega) (by omega) (by omega)
          by_cases hz : (p - a * q) % 10007 = 0
          · have hc := cen_uniq (a * q) p hz p0 hpt
            have HC := hid hc
            clear hJ hc
            go_wp2_with fail
            refine (l01Mod_any _ _).mono ?_
            rintro e w' ⟨rfl, rfl⟩
            rw [hz]
            clear m1 m2 hz
            go_wp2_with fail
            refine (l01Common_any p q _ p0 hpt (by omega) (by omega)).mono ?_
            rintro e w' ⟨⟨b, rfl, hb⟩, rfl⟩
            by_cases hb1 : b ≤ 1
            · have hok : okq a q = true := (okq_iff a q).2 ⟨by rw [HC.out]; exact ⟨p0, hpt⟩, by rw [HC.out]; exact hb.1 hb1⟩
              have HT : Hid (numT a = fracT p q) := by simp only [Hid]; rw [← HI.out, show 71 - q = (70 - q) + 1 by omega, txtFrom_hit a q _ hok, HC.out]
              clear hok hb
              by_cases hneg : p < 0
              · obtain ⟨S0, hS0⟩ : ∃ S0 : ByteArray, S0 = ⟨(Lib.decDigits (-p).toNat).toArray⟩ := ⟨_, rfl⟩
                by_cases hq1 : q = 1
                · subst hq1
                  have hz0 : S0.size ≤ 21 := by rw [hS0, bsz]; exact dec_len _ (by omega)
                  have hz4 : ((⟨#[45]⟩ : ByteArray) ++ S0).size ≤ 22 := by rw [ByteArray.size_append]; simp only [show (⟨#[45]⟩ : ByteArray).size = 1 from rfl]; omega
                  obtain ⟨S1, hS1⟩ : ∃ S1 : ByteArray, S1 = (⟨#[45]⟩ : ByteArray) ++ S0 := ⟨_, rfl⟩
                  have hI : S1 = ⟨(Lib.itoa p).toArray⟩ := by rw [hS1, hS0, itoa_neg p hneg, show (⟨#[45]⟩ : ByteArray) = ⟨[45].toArray⟩ from rfl, str_add]; simp
                  rw [← hS1] at hz4
                  have HI2 := hid hI
                  have HS0 := hid hS0
                  have HS1 := hid hS1
                  clear hI hS0 hS1
                  go_wp2_with fail
                  refine (l01DecI_any (-p) _ (by omega) (by omega)).mono ?_
                  rintro e w4 ⟨rfl, B4⟩
                  have B5 := nx Bl B4
                  rw [← HS0.out]
                  go_wp2
                  go_ret
                  exact ⟨by rw [HT.out, fracT, if_pos (by rfl), ← HI2.out, HS1.out]; rfl, B5⟩
                · have hq2 : 1 < q := by omega
                  have hz0 : S0.size ≤ 21 := by rw [hS0, bsz]; exact dec_len _ (by omega)
                  have hz4 : ((⟨#[45]⟩ : ByteArray) ++ S0).size ≤ 22 := by rw [ByteArray.size_append]; simp only [show (⟨#[45]⟩ : ByteArray).size = 1 from rfl]; omega
                  obtain ⟨S1, hS1⟩ : ∃ S1 : ByteArray, S1 = (⟨#[45]⟩ : ByteArray) ++ S0 := ⟨_, rfl⟩
                  have hI : S1 = ⟨(Lib.itoa p).toArray⟩ := by rw [hS1, hS0, itoa_neg p hneg, show (⟨#[45]⟩ : ByteArray) = ⟨[45].toArray⟩ from rfl, str_add]; simp
                  rw [← hS1] at hz4
                  have HI2 := hid hI
                  have HS0 := hid hS0
                  have HS1 := hid hS1
                  clear hI hS0 hS1
                  obtain ⟨S2, hS2⟩ : ∃ S2 : ByteArray, S2 = ⟨(Lib.decDigits (q : Int).toNat).toArray⟩ := ⟨_, rfl⟩
                  have hz2 : S2.size ≤ 21 := by rw [hS2, bsz]; exact dec_len _ (by omega)
                  have hI3 : S2 = ⟨(Lib.itoa q).toArray⟩ := by rw [hS2, itoa_nn q (by omega)]
                  have hz3 : (S1 ++ (⟨#[47]⟩ : ByteArray)).size ≤ 23 := by rw [ByteArray.size_append]; simp only [show (⟨#[47]⟩ : ByteArray).size = 1 from rfl]; omega
                  have HS2 := hid hS2
                  have HI3 := hid hI3
                  have HQ : Hid (¬ ((q : Int) = 1)) := by simp only [Hid]; omega
                  clear hS2 hI3
                  go_wp2_with fail
                  refine (l01DecI_any (-p) _ (by omega) (by omega)).mono ?_
                  rintro e w4 ⟨rfl, B4⟩
                  have B5 := nx Bl B4
                  rw [← HS0.out]
                  go_wp2_with fail
                  rw [← HS1.out]
                  refine (l01DecI_any q _ (by omega) (by omega)).mono ?_
                  rintro e w6 ⟨rfl, B6⟩
                  rw [← HS2.out]
                  go_wp2
                  go_ret
                  exact ⟨by rw [HT.out, fracT, if_neg HQ.out, ← fstr, ← HI2.out, ← HI3.out]; rfl, nx B5 B6⟩
              · replace hneg : 0 ≤ p := by omega
                obtain ⟨S0, hS0⟩ : ∃ S0 : ByteArray, S0 = ⟨(Lib.decDigits p.toNat).toArray⟩ := ⟨_, rfl⟩
                by_cases hq1 : q = 1
                · subst hq1
                  have hz0 : S0.size ≤ 21 := by rw [hS0, bsz]; exact dec_len _ (by omega)
                  have hI : S0 = ⟨(Lib.itoa p).toArray⟩ := by rw [hS0, itoa_nn p hneg]
                  have HI2 := hid hI
                  have HS0 := hid hS0
                  clear hI hS0
                  go_wp2_with fail
                  refine (l01DecI_any p _ (by omega) (by omega)).mono ?_
                  rintro e w4 ⟨rfl, B4⟩
                  have B5 := nx Bl B4
                  rw [← HS0.out]
                  go_wp2
                  go_ret
                  exact ⟨by rw [HT.out, fracT, if_pos (by rfl), ← HI2.out]; rfl, B5⟩
                · have hq2 : 1 < q := by omega
                  have hz0 : S0.size ≤ 21 := by rw [hS0, bsz]; exact dec_len _ (by omega)
                  have hI : S0 = ⟨(Lib.itoa p).toArray⟩ := by rw [hS0, itoa_nn p hneg]
                  have HI2 := hid hI
                  have HS0 := hid hS0
                  clear hI hS0
                  obtain ⟨S2, hS2⟩ : ∃ S2 : ByteArray, S2 = ⟨(Lib.decDigits (q : Int).toNat).toArray⟩ := ⟨_, rfl⟩
                  have hz2 : S2.size ≤ 21 := by rw [hS2, bsz]; exact dec_len _ (by omega)
                  have hI3 : S2 = ⟨(Lib.itoa q).toArray⟩ := by rw [hS2, itoa_nn q (by omega)]
                  have hz3 : (S0 ++ (⟨#[47]⟩ : ByteArray)).size ≤ 23 := by rw [ByteArray.size_append]; simp only [show (⟨#[47]⟩ : ByteArray).size = 1 from rfl]; omega
                  have HS2 := hid hS2
                  have HI3 := hid hI3
                  have HQ : Hid (¬ ((q : Int) = 1)) := by simp only [Hid]; omega
                  clear hS2 hI3
                  go_wp2_with fail
                  refine (l01DecI_any p _ (by omega) (by omega)).mono ?_
                  rintro e w4 ⟨rfl, B4⟩
                  have B5 := nx Bl B4
                  rw [← HS0.out]
                  go_wp2_with fail
                  refine (l01DecI_any q _ (by omega) (by omega)).mono ?_
                  rintro e w6 ⟨rfl, B6⟩
                  rw [← HS2.out]
                  go_wp2
                  go_ret
                  exact ⟨by rw [HT.out, fracT, if_neg HQ.out, ← fstr, ← HI2.out, ← HI3.out]; rfl, nx B5 B6⟩
            · have hno : Hid (okq a q = false) := by
                simp only [Hid]
                cases h : okq a q with
                | false => rfl
                | true => have := ((okq_iff a q).1 h).2; rw [HC.out] at this; exact absurd (hb.2 this) hb1
              clear hb
              go_wp2
              go_roundw
              case rel =>
                rw [show decide ((q : Int) ≤ 70) = true by simp; omega]
                repeat apply Exists.intro
                refine And.intro ?_ rfl
                exact ⟨p + 1, by go_num, by omega, by omega, fun h => (by rw [hno.out] at h; cases h), Bl⟩
              case measure => simp [intOf]; omega
          · have hJ2 : Hid (okq a q = true → p + 1 ≤ cen (a * q % 10007)) := fun h => by
              have h3 := hJ h
              have h4 := cen_hits (a * q)
              rcases Int.lt_or_eq_of_le h3 with h5 | h5
              · omega
              · rw [← h5] at h4; exact absurd h4 hz
            obtain ⟨m, hm⟩ : ∃ m, m = (p - a * q) % 10007 := ⟨_, rfl⟩
            have hb : (m != 0) = true := by rw [hm]; simpa using hz
            clear hJ hz
            go_wp2_with fail
            refine (l01Mod_any _ _).mono ?_
            rintro e w' ⟨rfl, rfl⟩
            rw [← hm]
            clear hm m1 m2
            go_wp2
            go_roundw
            case rel =>
              rw [show decide ((q : Int) ≤ 70) = true by simp; omega]
              repeat apply Exists.intro
              refine And.intro ?_ rfl
              exact ⟨p + 1, by go_num, by omega, by omega, hJ2.out, Bl⟩
            case measure => simp [intOf]; omega
        · have hno : okq a q = false := by
            cases h : okq a q with
            | false => rfl
            | true => have := hJ h; have := ((okq_iff a q).1 h).1; omega
          have HT : Hid (txtFrom a (q + 1) (70 - q) = numT a) := by simp only [Hid]; rw [← HI.out, show 71 - q = (70 - q) + 1 by omega, txtFrom_miss a q _ hno]
          clear hJ hno
          go_wp2
          go_roundw
          case rel => exact ⟨q + 1, by go_num, by omega, by omega, by rw [show 71 - (q + 1) = 70 - q by omega]; exact_mod_cast HT.out, Bl⟩
          case measure => simp [intOf]; omega
    · obtain rfl : q = 71 := by omega
      go_wp2_with fail
      refine (l01DecI_any a _ (by omega) (by omega)).mono ?_
      rintro e w2 ⟨rfl, B2⟩
      go_wp2
      go_ret
      exact ⟨by rw [← hI, ← itoa_nn a ha]; rfl, nx Bl' B2⟩
def ntR (a : Int) : ByteArray × Int := if isNum a = true then (⟨(numT a).toArray⟩, 0) else (⟨#[]⟩, 2)
theorem isNum_bd {a : Int} (h : isNum a = true) : 0 ≤ a ∧ a ≤ 10006 := by unfold isNum at h; simp at h; omega
theorem numberTextE_any (a : Int) (w : World) (ht : Tab w) :
    Calls Tryd.prog 7 #[.int .i64 a] w fun e w' => e = .returned (.tuple #[.string (ntR a).1, .int .i64 (ntR a).2]) ∧ Below w.heap.size w w' := by
  by_cases h : isNum a = true
  · have hb := isNum_bd h
    go_enter Tryd.func7, Tryd.ntmps7
    go_wp2_with fail
    refine (isNumber_any a _).mono ?_
    rintro e w' ⟨rfl, rfl⟩
    rw [h]
    go_wp2_with fail
    refine (numberText_any a _ hb.1 hb.2 ht).mono ?_
    rintro e w2 ⟨rfl, B2⟩
    go_wp2
    go_ret2
    exact ⟨by rw [ntR, if_pos h]; rfl, B2⟩
  · have h' : isNum a = false := by simpa using h
    go_enter Tryd.func7, Tryd.ntmps7
    go_wp2_with fail
    refine (isNumber_any a _).mono ?_
    rintro e w' ⟨rfl, rfl⟩
    rw [h']
    go_wp2
    go_ret2
    exact ⟨by rw [ntR, if_neg h]; rfl, Below.refl _ _⟩
theorem sNumberText_any (a : Int) (w : World) :
    Calls Tryd.prog 6 #[.int .i64 a] w fun e w' => e = .returned (.tuple #[.string (ntR a).1, .int .i64 (ntR a).2]) ∧ Below w.heap.size w w' := by
  by_cases h : isNum a = true
  · have hb := isNum_bd h
    go_enter Tryd.func6, Tryd.ntmps6
    go_wp2_with fail
    refine (sIsNumber_any a _).mono ?_
    rintro e w' ⟨rfl, rfl⟩
    rw [h]
    go_wp2_with fail
    refine (l01Text_any a _ hb.1 hb.2).mono ?_
    rintro e w2 ⟨rfl, B2⟩
    go_wp2
    go_ret2
    exact ⟨by rw [ntR, if_pos h]; rfl, B2⟩
  · have h' : isNum a = false := by simpa using h
    go_enter Tryd.func6, Tryd.ntmps6
    go_wp2_with fail
    refine (sIsNumber_any a _).mono ?_
    rintro e w' ⟨rfl, rfl⟩
    rw [h']
    go_wp2
    go_ret2
    exact ⟨by rw [ntR, if_neg h]; rfl, Below.refl _ _⟩
/-- The variable that reads as the table. -/
theorem tab_of_trod {H : Type} {enc : TypeId × Value → H} {w : World} {sp : Nat → Bool} {held : Bool} {base fuel : Nat} {g : Nat} {t : TypeId} {cs : Array Value} {p : List MemPlace}
    (hg : Tryd.prog.globalNamed tabName = some g) (ht : (Tryd.prog.globals[g]?).map (·.type) = some t) (hv : w.var? Tryd.prog tabName = some cs)
    (hd : DataW.trod enc Tryd.prog w base sp held fuel t cs.toList = some (Lib.tabData .u64 Lib.pow10Tab, p)) : Tab w := by
  have e : ((Tryd.prog.globalNamed tabName).bind fun g => (Tryd.prog.globals[g]?).map (·.type)) = some 79 := by kernel_rfl
  rw [hg] at e
  obtain rfl : t = 79 := Option.some.inj (ht.symm.trans e)
  unfold Tab Lib.TabIs
  have := Lib.cells_of_tab Tryd.underlying79 Tryd.underlying56 (by kernel_rfl) (by kernel_rfl) hd
  rw [hv, ← this]
end Go.Proofs.YtmhcpaffdchboaaDoor
