/-
  The walk of ParseNumber, and what it computes.
-/
import Derived.Test.YtmhcpaffdchboaaDoorDecW
import Derived.Test.YtmhcpaffdchboaaDoorNumFns
import Derived.Lib.IndexMore
namespace Go.Proofs.YtmhcpaffdchboaaDoor
open Go.RowKit
set_option maxRecDepth 100000
set_option linter.unusedVariables false
def bA (l : List UInt8) : ByteArray := ⟨l.toArray⟩
theorem bL_bA (l : List UInt8) : bL (bA l) = l := by simp [bL, bA]
theorem bA_size (l : List UInt8) : (bA l).size = l.length := by rw [← bL_len, bL_bA]
def finR (neg : Bool) (p q : Int) : Int × Int := if p < 0 ∨ q < 1 ∨ (neg = true ∧ p = 0) then (0, 6) else numberOfR (if neg = true then -p else p) q
def cutS (l : List UInt8) : List UInt8 × List UInt8 × Bool := Lib.cut (Lib.trimPrefix l [45]) [47]
def parseR (l : List UInt8) : Int × Int := finR (Lib.hasPrefix l [45]) (valB (bA (cutS l).1)) (if (cutS l).2.2 = true then valB (bA (cutS l).2.1) else 1)
theorem cutPrefix_any (a : ByteArray) (w : World) :
    Calls Tryd.prog 23 #[.string a, .string ⟨#[45]⟩] w fun e w' => e = .returned (.tuple #[.string (bA (Lib.trimPrefix (bL a) [45])), .bool (Lib.hasPrefix (bL a) [45])]) ∧ w = w' :=
  (Any.strings_CutPrefix shelf_lays103 a ⟨#[45]⟩ w).mono fun e w' ⟨h, e'⟩ => ⟨h, e'.symm⟩
theorem cut_any (l : List UInt8) (w : World) (hl : l.length ≤ 1048576) (hm : ∃ m, w.cell? ⟨0, 0, none⟩ = some (.int .i64 m)) :
    Calls Tryd.prog 24 #[.string (bA l), .string ⟨#[47]⟩] w fun e w' => e = .returned (.tuple #[.string (bA (Lib.cut l [47]).1), .string (bA (Lib.cut l [47]).2.1), .bool (Lib.cut l [47]).2.2]) ∧ Dr w w' := by
  obtain ⟨m, hm⟩ := hm
  have := Any.strings_Cut { shelf_laysM145 with } (bA l) ⟨#[47]⟩ m w (by rw [bA_size]; omega) hm
  rw [show (bA l).data.toList = l from bL_bA l] at this
  exact this
theorem trim_len (l : List UInt8) : (Lib.trimPrefix l [45]).length ≤ l.length := by unfold Lib.trimPrefix; split <;> simp
theorem cut_len1 (l : List UInt8) : (Lib.cut l [47]).1.length ≤ l.length := by unfold Lib.cut; split <;> simp; omega
theorem cut_len2 (l : List UInt8) : (Lib.cut l [47]).2.1.length ≤ l.length := by unfold Lib.cut; split <;> simp
theorem finR_bad (neg : Bool) (p q : Int) (h : p < 0 ∨ q < 1 ∨ (neg = true ∧ p = 0)) : finR neg p q = (0, 6) := by rw [finR, if_pos h]
theorem finR_good (neg : Bool) (p q : Int) (h1 : 0 ≤ p) (h2 : 1 ≤ q) (h3 : ¬ (neg = true ∧ p = 0)) : finR neg p q = numberOfR (if neg = true then -p else p) q := by
  rw [finR, if_neg]; rintro (h | h | h)
  · omega
  · omega
  · exact h3 h
theorem parseNumber_any (a : ByteArray) (w : World) (ha : a.size ≤ 1048576) (L : Lds w) :
    Calls Tryd.prog 9 #[.string a] w fun e w' => e = .returned (.tuple #[.int .i64 (parseR (bL a)).1, .int .i64 (parseR (bL a)).2]) ∧ Below w.heap.size w w' := by
  have hl := bL_len a
  have hT := trim_len (bL a)
  obtain ⟨T, hTd⟩ : ∃ T, T = Lib.trimPrefix (bL a) [45] := ⟨_, rfl⟩
  rw [← hTd] at hT
  have hA1 := cut_len1 T
  have hB1 := cut_len2 T
  have HP : Hid (parseR (bL a) = finR (Lib.hasPrefix (bL a) [45]) (valB (bA (Lib.cut T [47]).1)) (if (Lib.cut T [47]).2.2 = true then valB (bA (Lib.cut T [47]).2.1) else 1)) := by
    simp only [Hid]; rw [parseR, cutS, hTd]
  obtain ⟨A, hAd⟩ : ∃ A, A = bA (Lib.cut T [47]).1 := ⟨_, rfl⟩
  obtain ⟨B, hBd⟩ : ∃ B, B = bA (Lib.cut T [47]).2.1 := ⟨_, rfl⟩
  obtain ⟨fd, hfd⟩ : ∃ fd, fd = (Lib.cut T [47]).2.2 := ⟨_, rfl⟩
  obtain ⟨neg, hng⟩ : ∃ neg, neg = Lib.hasPrefix (bL a) [45] := ⟨_, rfl⟩
  have hAs : A.size ≤ 1048576 := by rw [hAd, bA_size]; omega
  have hBs : B.size ≤ 1048576 := by rw [hBd, bA_size]; omega
  rw [← hAd, ← hBd, ← hfd, ← hng] at HP
  have HA := hid hAd
  have HB := hid hBd
  have HFD := hid hfd
  have HNG := hid hng
  have HT := hid hTd
  have hTs : T.length ≤ 1048576 := by omega
  obtain ⟨p, hpd⟩ : ∃ p, p = valB A := ⟨_, rfl⟩
  obtain ⟨q, hqd⟩ : ∃ q, q = valB B := ⟨_, rfl⟩
  have bp := valB_bd A
  have bq := valB_bd B
  have hRA := readR_eq A
  have hRB := readR_eq B
  rw [← hpd] at HP bp hRA
  rw [← hqd] at HP bq hRB
  have HRA := hid hRA
  have HRB := hid hRB
  obtain ⟨p0, p1⟩ := bp
  obtain ⟨q0, q1⟩ := bq
  clear hAd hBd hfd hng hTd hA1 hB1 hT hpd hqd hRA hRB
  go_enter Tryd.func9, Tryd.ntmps9
  go_wp2_with fail
  refine (cutPrefix_any a _).mono ?_
  rintro e w' ⟨rfl, rfl⟩
  rw [← HT.out, ← HNG.out]
  go_wp2_with fail
  refine (cut_any T _ hTs L.len).mono ?_
  rintro e w1 ⟨rfl, D1⟩
  have B1 := D1.below w.heap.size
  rw [← HA.out, ← HB.out, ← HFD.out]
  clear D1
  go_wp2_with fail
  refine (readDecimal_any A _ hAs (L.mono B1)).mono ?_
  rintro e w2 ⟨rfl, B2'⟩
  have B2 := nx B1 B2'
  rw [HRA.out]
  clear B2'
  by_cases hp : p = -1
  · rw [if_pos hp]
    have HF : Hid (parseR (bL a) = (0, 6)) := by simp only [Hid]; rw [HP.out, finR_bad _ _ _ (.inl (by omega))]
    clear hp
    cases fd with
    | false =>
      go_wp2
      go_ret2
      exact ⟨by rw [HF.out]; rfl, B2⟩
    | true =>
      go_wp2_with fail
      refine (readDecimal_any B _ hBs (L.mono B2)).mono ?_
      rintro e w3 ⟨rfl, B3'⟩
      have B3 := nx B2 B3'
      rw [HRB.out]
      clear B3'
      obtain ⟨r, hr⟩ : ∃ r : Int × Bool, r = (if q = -1 then (0, false) else (q, true)) := ⟨_, rfl⟩
      rw [← hr]
      clear hr
      obtain ⟨r1, r2⟩ := r
      go_wp2
      go_ret2
      exact ⟨by rw [HF.out]; rfl, B3⟩
  · rw [if_neg hp]
    have hp0 : 0 ≤ p := by omega
    clear hp p0
    cases fd with
    | false =>
      cases neg with
      | false =>
        have HF0 : Hid (parseR (bL a) = finR false p 1) := by simp only [Hid]; rw [HP.out]; rfl
        have HF : Hid (parseR (bL a) = numberOfR p 1) := by simp only [Hid]; rw [HF0.out, finR_good _ _ _ (by omega) (by omega) (fun h => by cases h.1)]; rfl
        go_wp2_with fail
        refine (numberOf_any p 1 _).mono ?_
        rintro e w9 ⟨rfl, rfl⟩
        go_wp2
        go_ret2
        exact ⟨by rw [HF.out]; rfl, B2⟩
      | true =>
        have HF0 : Hid (parseR (bL a) = finR true p 1) := by simp only [Hid]; rw [HP.out]; rfl
        by_cases hp0 : p = 0
        · have HF : Hid (parseR (bL a) = (0, 6)) := by simp only [Hid]; rw [HF0.out, finR_bad _ _ _ (.inr (.inr ⟨rfl, hp0⟩))]
          have hb0 : (p == 0) = true := by rw [hp0]; rfl
          clear hp0
          go_wp2
          go_ret2
          exact ⟨by rw [HF.out]; rfl, B2⟩
        have hb0 : (p == 0) = false := beq_eq_false_iff_ne.2 hp0
        have HF : Hid (parseR (bL a) = numberOfR (-p) 1) := by simp only [Hid]; rw [HF0.out, finR_good _ _ _ (by omega) (by omega) (fun h => hp0 h.2)]; rfl
        clear hp0
        go_wp2_with fail
        refine (numberOf_any (-p) 1 _).mono ?_
        rintro e w9 ⟨rfl, rfl⟩
        go_wp2
        go_ret2
        exact ⟨by rw [HF.out]; rfl, B2⟩
    | true =>
      go_wp2_with fail
      refine (readDecimal_any B _ hBs (L.mono B2)).mono ?_
      rintro e w3 ⟨rfl, B3'⟩
      have B3 := nx B2 B3'
      rw [HRB.out]
      clear B3'
      by_cases hq : q = -1
      · rw [if_pos hq]
        have HF : Hid (parseR (bL a) = (0, 6)) := by simp only [Hid]; rw [HP.out, finR_bad _ _ _ (.inr (.inl (by rw [if_pos trivial]; omega)))]
        clear hq
        go_wp2
        go_ret2
        exact ⟨by rw [HF.out]; rfl, B3⟩
      · rw [if_neg hq]
        clear hq
        cases neg with
        | false =>
          have HF0 : Hid (parseR (bL a) = finR false p q) := by simp only [Hid]; rw [HP.out]; rfl
          by_cases hq1 : q < 1
          · have HF : Hid (parseR (bL a) = (0, 6)) := by simp only [Hid]; rw [HF0.out, finR_bad _ _ _ (.inr (.inl hq1))]
            go_wp2
            go_ret2
            exact ⟨by rw [HF.out]; rfl, B3⟩
          have HF : Hid (parseR (bL a) = numberOfR p q) := by simp only [Hid]; rw [HF0.out, finR_good _ _ _ (by omega) (by omega) (fun h => by cases h.1)]; rfl
          go_wp2_with fail
          refine (numberOf_any p q _).mono ?_
          rintro e w9 ⟨rfl, rfl⟩
          go_wp2
          go_ret2
          exact ⟨by rw [HF.out]; rfl, B3⟩
        | true =>
          have HF0 : Hid (parseR (bL a) = finR true p q) := by simp only [Hid]; rw [HP.out]; rfl
          by_cases hq1 : q < 1
          · have HF : Hid (parseR (bL a) = (0, 6)) := by simp only [Hid]; rw [HF0.out, finR_bad _ _ _ (.inr (.inl hq1))]
            go_wp2
            go_ret2
            exact ⟨by rw [HF.out]; rfl, B3⟩
          by_cases hp0 : p = 0
          · have HF : Hid (parseR (bL a) = (0, 6)) := by simp only [Hid]; rw [HF0.out, finR_bad _ _ _ (.inr (.inr ⟨rfl, hp0⟩))]
            have hb0 : (p == 0) = true := by rw [hp0]; rfl
            clear hp0
            go_wp2
            go_ret2
            exact ⟨by rw [HF.out]; rfl, B3⟩
          have hb0 : (p == 0) = false := beq_eq_false_iff_ne.2 hp0
          have HF : Hid (parseR (bL a) = numberOfR (-p) q) := by simp only [Hid]; rw [HF0.out, finR_good _ _ _ (by omega) (by omega) (fun h => hp0 h.2)]; rfl
          clear hp0
          go_wp2_with fail
          refine (numberOf_any (-p) q _).mono ?_
          rintro e w9 ⟨rfl, rfl⟩
          go_wp2
          go_ret2
          exact ⟨by rw [HF.out]; rfl, B3⟩
end Go.Proofs.YtmhcpaffdchboaaDoor
