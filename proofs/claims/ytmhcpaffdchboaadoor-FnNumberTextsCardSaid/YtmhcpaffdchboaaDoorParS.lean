/-
  The walk of the reference's ParseNumber.
-/
import Derived.Test.YtmhcpaffdchboaaDoorSplP
namespace Go.Proofs.YtmhcpaffdchboaaDoor
open Go.RowKit
set_option maxRecDepth 100000
set_option linter.unusedVariables false
set_option maxHeartbeats 4000000 in
theorem sParseNumber_any (a : ByteArray) (w : World) (ha : a.size ≤ 1048576) :
    Calls Tryd.prog 8 #[.string a] w fun e w' => e = .returned (.tuple #[.int .i64 (parseR (bL a)).1, .int .i64 (parseR (bL a)).2]) ∧ Below w.heap.size w w' := by
  go_enter Tryd.func8, Tryd.ntmps8
  go_wp2_with fail
  refine (l01Split_any a _ ha).mono ?_
  rintro e w1 ⟨⟨v, xs, rfl, O, hs, hxl⟩, B1⟩
  obtain ⟨E, hE, hform⟩ := split_forms a xs hs
  have hEs : E.size ≤ 1048576 := by omega
  obtain ⟨S, hSd⟩ : ∃ S, S = strip E := ⟨_, rfl⟩
  obtain ⟨neg, hng⟩ : ∃ neg, neg = negB E := ⟨_, rfl⟩
  obtain ⟨p, hpd⟩ : ∃ p, p = valB S := ⟨_, rfl⟩
  have bp := valB_bd S
  rw [← hpd] at bp
  have HPD := hid hpd
  rw [← hSd, ← hng, ← hpd] at hform
  obtain ⟨p0, p1⟩ := bp
  clear hpd hs
  rcases hform with ⟨rfl, hR⟩ | ⟨F, hF, rfl, hR⟩ | ⟨rest, rfl, hlen, hR⟩
  · obtain ⟨g, cap, hv, hgB, hgl⟩ := World.ownsRow.form O (by simp)
    subst hv
    have hfz : w1.frozen? ⟨g, 0, none⟩ = false := World.ownsRow.frozenAt O 0
    have hc0 : w1.cell? ⟨g, 0, none⟩ = some (.string E) := by have := World.ownsRow.cellAt O 0 (by simp); simpa using this
    simp only [List.length_cons, List.length_nil, Nat.zero_add] at *
    have HR := hid hR
    clear hR O
    cases neg with
    | true =>
      have hng' := hng.symm
      unfold negB at hng'
      rw [Bool.and_eq_true, decide_eq_true_eq, beq_iff_eq] at hng'
      obtain ⟨hz, h45⟩ := hng'
      have hst := st_at E 0 hz
      have hS' : S = E.extract 1 E.size := by rw [hSd, strip, if_pos hng.symm]
      obtain ⟨c, hc⟩ : ∃ c, c = st E 0 := ⟨_, rfl⟩
      rw [← hc] at hst h45
      have hb45 : ((c.toNat : Int) == 45) = true := by rw [h45]; rfl
      have hSs : S.size ≤ 1048576 := by rw [hS']; have := extract_size_le E 1 E.size; omega
      have HS := hid hS'
      have BB : Below w.heap.size w (w1.setCell ⟨g, 0, none⟩ (.string S)) := B1.setCell (p := ⟨g, 0, none⟩) hgB _
      clear hS' hSd hc h45 hng
      go_wp2_with fail
      rw [← HS.out]
      refine (l01Value_any S _ hSs).mono ?_
      rintro e w2 ⟨rfl, rfl⟩
      rw [← HPD.out]
      have HF0 : Hid (parseR (bL a) = finR true p 1) := HR
      by_cases hpn : p < 0
      · have HF : Hid (parseR (bL a) = (0, 6)) := by simp only [Hid]; rw [HF0.out, finR_bad _ _ _ (.inl hpn)]
        go_wp2
        go_ret2
        exact ⟨by rw [HF.out]; rfl, BB⟩
      replace hpn : 0 ≤ p := by omega
      by_cases hp0 : p = 0
      · have HF : Hid (parseR (bL a) = (0, 6)) := by simp only [Hid]; rw [HF0.out, finR_bad _ _ _ (.inr (.inr ⟨rfl, hp0⟩))]
        have hb0 : (p == 0) = true := by rw [hp0]; rfl
        clear hp0
        go_wp2
        go_ret2
        exact ⟨by rw [HF.out]; rfl, BB⟩
      have hb0 : (p == 0) = false := beq_eq_false_iff_ne.2 hp0
      have HN : Hid (parseR (bL a) = if (1 : Int) % 10007 = 0 then (0, 5) else (frac (-p) 1, 0)) := by simp only [Hid]; rw [HF0.out, finR_good _ _ _ (by omega) (by omega) (fun h => hp0 h.2), if_pos rfl, numberOfR_in _ _ (by omega) (by omega) (by omega) (by omega)]
      clear hp0
      have HF : Hid (parseR (bL a) = (frac (-p) 1, 0)) := by simp only [Hid]; rw [HN.out, if_neg (by decide)]
      have htz := tmod_nonzero 1 (by decide)
      go_wp2_with fail
      refine (l01Frac_any (-p) 1 _).mono ?_
      rintro e w9 ⟨rfl, rfl⟩
      go_wp2
      go_ret2
      exact ⟨by rw [HF.out]; rfl, BB⟩
    | false =>
      have hS' : S = E := by rw [hSd, strip, if_neg (by rw [← hng]; simp)]
      subst hS'
      have BB := B1
      by_cases hz : S.size = 0
      · have hz1 : ((S.size : Int) == 0) = true := by rw [hz]; rfl
        clear hng hSd
        go_wp2_with fail
        refine (l01Value_any S _ hEs).mono ?_
        rintro e w2 ⟨rfl, rfl⟩
        rw [← HPD.out]
        have HF0 : Hid (parseR (bL a) = finR false p 1) := HR
        by_cases hpn : p < 0
        · have HF : Hid (parseR (bL a) = (0, 6)) := by simp only [Hid]; rw [HF0.out, finR_bad _ _ _ (.inl hpn)]
          go_wp2
          go_ret2
          exact ⟨by rw [HF.out]; rfl, BB⟩
        replace hpn : 0 ≤ p := by omega
        have HN : Hid (parseR (bL a) = if (1 : Int) % 10007 = 0 then (0, 5) else (frac p 1, 0)) := by simp only [Hid]; rw [HF0.out, finR_good _ _ _ (by omega) (by omega) (fun h => by cases h.1), if_neg (by simp), numberOfR_in _ _ (by omega) (by omega) (by omega) (by omega)]
        have HF : Hid (parseR (bL a) = (frac p 1, 0)) := by simp only [Hid]; rw [HN.out, if_neg (by decide)]
        have htz := tmod_nonzero 1 (by decide)
        by_cases hp0 : p = 0
        · have hb0 : (p == 0) = true := by rw [hp0]; rfl
          clear hp0
          go_wp2_with fail
          refine (l01Frac_any p 1 _).mono ?_
          rintro e w9 ⟨rfl, rfl⟩
          go_wp2
          go_ret2
          exact ⟨by rw [HF.out]; rfl, BB⟩
        · have hb0 : (p == 0) = false := beq_eq_false_iff_ne.2 hp0
          clear hp0
          go_wp2_with fail
          refine (l01Frac_any p 1 _).mono ?_
          rintro e w9 ⟨rfl, rfl⟩
          go_wp2
          go_ret2
          exact ⟨by rw [HF.out]; rfl, BB⟩
      · have hz1 : 0 < S.size := by omega
        have hst := st_at S 0 hz1
        obtain ⟨c, hc⟩ : ∃ c, c = st S 0 := ⟨_, rfl⟩
        rw [← hc] at hst
        have h45 : c ≠ 45 := by
          intro e
          have : negB S = true := by unfold negB; rw [← hc, e]; simp; omega
          rw [← hng] at this; cases this
        have h45' : c.toNat ≠ 45 := fun e => h45 (UInt8.toNat_inj.1 e)
        have hb45 : ((c.toNat : Int) == 45) = false := beq_eq_false_iff_ne.2 (by omega)
        clear hng hSd hc h45
        go_wp2_with fail
        refine (l01Value_any S _ hEs).mono ?_
        rintro e w2 ⟨rfl, rfl⟩
        rw [← HPD.out]
        have HF0 : Hid (parseR (bL a) = finR false p 1) := HR
        by_cases hpn : p < 0
        · have HF : Hid (parseR (bL a) = (0, 6)) := by simp only [Hid]; rw [HF0.out, finR_bad _ _ _ (.inl hpn)]
          go_wp2
          go_ret2
          exact ⟨by rw [HF.out]; rfl, BB⟩
        replace hpn : 0 ≤ p := by omega
        have HN : Hid (parseR (bL a) = if (1 : Int) % 10007 = 0 then (0, 5) else (frac p 1, 0)) := by simp only [Hid]; rw [HF0.out, finR_good _ _ _ (by omega) (by omega) (fun h => by cases h.1), if_neg (by simp), numberOfR_in _ _ (by omega) (by omega) (by omega) (by omega)]
        have HF : Hid (parseR (bL a) = (frac p 1, 0)) := by simp only [Hid]; rw [HN.out, if_neg (by decide)]
        have htz := tmod_nonzero 1 (by decide)
        by_cases hp0 : p = 0
        · have hb0 : (p == 0) = true := by rw [hp0]; rfl
          clear hp0
          go_wp2_with fail
          refine (l01Frac_any p 1 _).mono ?_
          rintro e w9 ⟨rfl, rfl⟩
          go_wp2
          go_ret2
          exact ⟨by rw [HF.out]; rfl, BB⟩
        · have hb0 : (p == 0) = false := beq_eq_false_iff_ne.2 hp0
          clear hp0
          go_wp2_with fail
          refine (l01Frac_any p 1 _).mono ?_
          rintro e w9 ⟨rfl, rfl⟩
          go_wp2
          go_ret2
          exact ⟨by rw [HF.out]; rfl, BB⟩
  · obtain ⟨g, cap, hv, hgB, hgl⟩ := World.ownsRow.form O (by simp)
    subst hv
    have hfz : w1.frozen? ⟨g, 0, none⟩ = false := World.ownsRow.frozenAt O 0
    have hc0 : w1.cell? ⟨g, 0, none⟩ = some (.string E) := by have := World.ownsRow.cellAt O 0 (by simp); simpa using this
    have hc1 : w1.cell? ⟨g, 1, none⟩ = some (.string F) := by have := World.ownsRow.cellAt O 1 (by simp); simpa using this
    have hFs : F.size ≤ 1048576 := by omega
    obtain ⟨q, hqd⟩ : ∃ q, q = valB F := ⟨_, rfl⟩
    have bq := valB_bd F
    rw [← hqd] at bq hR
    have HQD := hid hqd
    obtain ⟨q0, q1⟩ := bq
    clear hqd
    simp only [List.length_cons, List.length_nil, Nat.zero_add, Nat.reduceAdd] at *
    have HR := hid hR
    clear hR O
    cases neg with
    | true =>
      have hng' := hng.symm
      unfold negB at hng'
      rw [Bool.and_eq_true, decide_eq_true_eq, beq_iff_eq] at hng'
      obtain ⟨hz, h45⟩ := hng'
      have hst := st_at E 0 hz
      have hS' : S = E.extract 1 E.size := by rw [hSd, strip, if_pos hng.symm]
      obtain ⟨c, hc⟩ : ∃ c, c = st E 0 := ⟨_, rfl⟩
      rw [← hc] at hst h45
      have hb45 : ((c.toNat : Int) == 45) = true := by rw [h45]; rfl
      have hSs : S.size ≤ 1048576 := by rw [hS']; have := extract_size_le E 1 E.size; omega
      have HS := hid hS'
      have BB : Below w.heap.size w (w1.setCell ⟨g, 0, none⟩ (.string S)) := B1.setCell (p := ⟨g, 0, none⟩) hgB _
      clear hS' hSd hc h45 hng
      go_wp2_with fail
      rw [← HS.out]
      refine (l01Value_any S _ hSs).mono ?_
      rintro e w2 ⟨rfl, rfl⟩
      rw [← HPD.out]
      have HF0 : Hid (parseR (bL a) = finR true p q) := HR
      go_wp2_with fail
      refine (l01Value_any F _ hFs).mono ?_
      rintro e w3 ⟨rfl, rfl⟩
      rw [← HQD.out]
      by_cases hpn : p < 0
      · have HF : Hid (parseR (bL a) = (0, 6)) := by simp only [Hid]; rw [HF0.out, finR_bad _ _ _ (.inl hpn)]
        go_wp2
        go_ret2
        exact ⟨by rw [HF.out]; rfl, BB⟩
      replace hpn : 0 ≤ p := by omega
      by_cases hq1 : q < 1
      · have HF : Hid (parseR (bL a) = (0, 6)) := by simp only [Hid]; rw [HF0.out, finR_bad _ _ _ (.inr (.inl hq1))]
        go_wp2
        go_ret2
        exact ⟨by rw [HF.out]; rfl, BB⟩
      by_cases hp0 : p = 0
      · have HF : Hid (parseR (bL a) = (0, 6)) := by simp only [Hid]; rw [HF0.out, finR_bad _ _ _ (.inr (.inr ⟨rfl, hp0⟩))]
        have hb0 : (p == 0) = true := by rw [hp0]; rfl
        clear hp0
        go_wp2
        go_ret2
        exact ⟨by rw [HF.out]; rfl, BB⟩
      have hb0 : (p == 0) = false := beq_eq_false_iff_ne.2 hp0
      have HN : Hid (parseR (bL a) = if (q : Int) % 10007 = 0 then (0, 5) else (frac (-p) q, 0)) := by simp only [Hid]; rw [HF0.out, finR_good _ _ _ (by omega) (by omega) (fun h => hp0 h.2), if_pos rfl, numberOfR_in _ _ (by omega) (by omega) (by omega) (by omega)]
      clear hp0
      by_cases hz : q % 10007 = 0
      · have HF : Hid (parseR (bL a) = (0, 5)) := by simp only [Hid]; rw [HN.out, if_pos hz]
        have htz := tmod_zero q hz
        have htz2 : (q % 10007 == 0) = true := by rw [hz]; rfl
        clear hz
        go_wp2
        all_goals
          go_ret2
          exact ⟨by rw [HF.out]; rfl, BB⟩
      have HF : Hid (parseR (bL a) = (frac (-p) q, 0)) := by simp only [Hid]; rw [HN.out, if_neg hz]
      have htz := tmod_nonzero q hz
      have htz2 : (q % 10007 == 0) = false := beq_eq_false_iff_ne.2 hz
      clear hz
      go_wp2_with fail
      refine (l01Frac_any (-p) q _).mono ?_
      rintro e w9 ⟨rfl, rfl⟩
      go_wp2
      go_ret2
      exact ⟨by rw [HF.out]; rfl, BB⟩
    | false =>
      have hS' : S = E := by rw [hSd, strip, if_neg (by rw [← hng]; simp)]
      subst hS'
      have BB := B1
      by_cases hz : S.size = 0
      · have hz1 : ((S.size : Int) == 0) = true := by rw [hz]; rfl
        clear hng hSd
        go_wp2_with fail
        refine (l01Value_any S _ hEs).mono ?_
        rintro e w2 ⟨rfl, rfl⟩
        rw [← HPD.out]
        have HF0 : Hid (parseR (bL a) = finR false p q) := HR
        go_wp2_with fail
        refine (l01Value_any F _ hFs).mono ?_
        rintro e w3 ⟨rfl, rfl⟩
        rw [← HQD.out]
        by_cases hpn : p < 0
        · have HF : Hid (parseR (bL a) = (0, 6)) := by simp only [Hid]; rw [HF0.out, finR_bad _ _ _ (.inl hpn)]
          go_wp2
          go_ret2
          exact ⟨by rw [HF.out]; rfl, BB⟩
        replace hpn : 0 ≤ p := by omega
        by_cases hq1 : q < 1
        · have HF : Hid (parseR (bL a) = (0, 6)) := by simp only [Hid]; rw [HF0.out, finR_bad _ _ _ (.inr (.inl hq1))]
          go_wp2
          go_ret2
          exact ⟨by rw [HF.out]; rfl, BB⟩
        have HN : Hid (parseR (bL a) = if (q : Int) % 10007 = 0 then (0, 5) else (frac p q, 0)) := by simp only [Hid]; rw [HF0.out, finR_good _ _ _ (by omega) (by omega) (fun h => by cases h.1), if_neg (by simp), numberOfR_in _ _ (by omega) (by omega) (by omega) (by omega)]
        by_cases hz : q % 10007 = 0
        · have HF : Hid (parseR (bL a) = (0, 5)) := by simp only [Hid]; rw [HN.out, if_pos hz]
          have htz := tmod_zero q hz
          have htz2 : (q % 10007 == 0) = true := by rw [hz]; rfl
          clear hz
          go_wp2
          all_goals
            go_ret2
            exact ⟨by rw [HF.out]; rfl, BB⟩
        have HF : Hid (parseR (bL a) = (frac p q, 0)) := by simp only [Hid]; rw [HN.out, if_neg hz]
        have htz := tmod_nonzero q hz
        have htz2 : (q % 10007 == 0) = false := beq_eq_false_iff_ne.2 hz
        clear hz
        by_cases hp0 : p = 0
        · have hb0 : (p == 0) = true := by rw [hp0]; rfl
          clear hp0
          go_wp2_with fail
          refine (l01Frac_any p q _).mono ?_
          rintro e w9 ⟨rfl, rfl⟩
          go_wp2
          go_ret2
          exact ⟨by rw [HF.out]; rfl, BB⟩
        · have hb0 : (p == 0) = false := beq_eq_false_iff_ne.2 hp0
          clear hp0
          go_wp2_with fail
          refine (l01Frac_any p q _).mono ?_
          rintro e w9 ⟨rfl, rfl⟩
          go_wp2
          go_ret2
          exact ⟨by rw [HF.out]; rfl, BB⟩
      · have hz1 : 0 < S.size := by omega
        have hst := st_at S 0 hz1
        obtain ⟨c, hc⟩ : ∃ c, c = st S 0 := ⟨_, rfl⟩
        rw [← hc] at hst
        have h45 : c ≠ 45 := by
          intro e
          have : negB S = true := by unfold negB; rw [← hc, e]; simp; omega
          rw [← hng] at this; cases this
        have h45' : c.toNat ≠ 45 := fun e => h45 (UInt8.toNat_inj.1 e)
        have hb45 : ((c.toNat : Int) == 45) = false := beq_eq_false_iff_ne.2 (by omega)
        clear hng hSd hc h45
        go_wp2_with fail
        refine (l01Value_any S _ hEs).mono ?_
        rintro e w2 ⟨rfl, rfl⟩
        rw [← HPD.out]
        have HF0 : Hid (parseR (bL a) = finR false p q) := HR
        go_wp2_with fail
        refine (l01Value_any F _ hFs).mono ?_
        rintro e w3 ⟨rfl, rfl⟩
        rw [← HQD.out]
        by_cases hpn : p < 0
        · have HF : Hid (parseR (bL a) = (0, 6)) := by simp only [Hid]; rw [HF0.out, finR_bad _ _ _ (.inl hpn)]
          go_wp2
          go_ret2
          exact ⟨by rw [HF.out]; rfl, BB⟩
        replace hpn : 0 ≤ p := by omega
        by_cases hq1 : q < 1
        · have HF : Hid (parseR (bL a) = (0, 6)) := by simp only [Hid]; rw [HF0.out, finR_bad _ _ _ (.inr (.inl hq1))]
          go_wp2
          go_ret2
          exact ⟨by rw [HF.out]; rfl, BB⟩
        have HN : Hid (parseR (bL a) = if (q : Int) % 10007 = 0 then (0, 5) else (frac p q, 0)) := by simp only [Hid]; rw [HF0.out, finR_good _ _ _ (by omega) (by omega) (fun h => by cases h.1), if_neg (by simp), numberOfR_in _ _ (by omega) (by omega) (by omega) (by omega)]
        by_cases hz : q % 10007 = 0
        · have HF : Hid (parseR (bL a) = (0, 5)) := by simp only [Hid]; rw [HN.out, if_pos hz]
          have htz := tmod_zero q hz
          have htz2 : (q % 10007 == 0) = true := by rw [hz]; rfl
          clear hz
          go_wp2
          all_goals
            go_ret2
            exact ⟨by rw [HF.out]; rfl, BB⟩
        have HF : Hid (parseR (bL a) = (frac p q, 0)) := by simp only [Hid]; rw [HN.out, if_neg hz]
        have htz := tmod_nonzero q hz
        have htz2 : (q % 10007 == 0) = false := beq_eq_false_iff_ne.2 hz
        clear hz
        by_cases hp0 : p = 0
        · have hb0 : (p == 0) = true := by rw [hp0]; rfl
          clear hp0
          go_wp2_with fail
          refine (l01Frac_any p q _).mono ?_
          rintro e w9 ⟨rfl, rfl⟩
          go_wp2
          go_ret2
          exact ⟨by rw [HF.out]; rfl, BB⟩
        · have hb0 : (p == 0) = false := beq_eq_false_iff_ne.2 hp0
          clear hp0
          go_wp2_with fail
          refine (l01Frac_any p q _).mono ?_
          rintro e w9 ⟨rfl, rfl⟩
          go_wp2
          go_ret2
          exact ⟨by rw [HF.out]; rfl, BB⟩
  · obtain ⟨g, cap, hv, hgB, hgl⟩ := World.ownsRow.form O (by simp)
    subst hv
    have hfz : w1.frozen? ⟨g, 0, none⟩ = false := World.ownsRow.frozenAt O 0
    have hc0 : w1.cell? ⟨g, 0, none⟩ = some (.string E) := by have := World.ownsRow.cellAt O 0 (by simp); simpa using this
    obtain ⟨n, hn⟩ : ∃ n, n = rest.length + 1 := ⟨_, rfl⟩
    simp only [List.length_cons] at *
    have hn3 : 3 ≤ n := by omega
    have hnl : n ≤ 1048578 := by omega
    rw [← hn]
    have hb2 : ((n : Int) == 2) = false := beq_eq_false_iff_ne.2 (by omega)
    clear hn hlen
    have HR := hid hR
    clear hR O
    cases neg with
    | true =>
      have hng' := hng.symm
      unfold negB at hng'
      rw [Bool.and_eq_true, decide_eq_true_eq, beq_iff_eq] at hng'
      obtain ⟨hz, h45⟩ := hng'
      have hst := st_at E 0 hz
      have hS' : S = E.extract 1 E.size := by rw [hSd, strip, if_pos hng.symm]
      obtain ⟨c, hc⟩ : ∃ c, c = st E 0 := ⟨_, rfl⟩
      rw [← hc] at hst h45
      have hb45 : ((c.toNat : Int) == 45) = true := by rw [h45]; rfl
      have hSs : S.size ≤ 1048576 := by rw [hS']; have := extract_size_le E 1 E.size; omega
      have HS := hid hS'
      have BB : Below w.heap.size w (w1.setCell ⟨g, 0, none⟩ (.string S)) := B1.setCell (p := ⟨g, 0, none⟩) hgB _
      clear hS' hSd hc h45 hng
      go_wp2_with fail
      rw [← HS.out]
      refine (l01Value_any S _ hSs).mono ?_
      rintro e w2 ⟨rfl, rfl⟩
      rw [← HPD.out]
      go_wp2
      go_ret2
      exact ⟨by rw [HR.out]; rfl, BB⟩
    | false =>
      have hS' : S = E := by rw [hSd, strip, if_neg (by rw [← hng]; simp)]
      subst hS'
      have BB := B1
      by_cases hz : S.size = 0
      · have hz1 : ((S.size : Int) == 0) = true := by rw [hz]; rfl
        clear hng hSd
        go_wp2_with fail
        refine (l01Value_any S _ hEs).mono ?_
        rintro e w2 ⟨rfl, rfl⟩
        rw [← HPD.out]
        go_wp2
        go_ret2
        exact ⟨by rw [HR.out]; rfl, BB⟩
      · have hz1 : 0 < S.size := by omega
        have hst := st_at S 0 hz1
        obtain ⟨c, hc⟩ : ∃ c, c = st S 0 := ⟨_, rfl⟩
        rw [← hc] at hst
        have h45 : c ≠ 45 := by
          intro e
          have : negB S = true := by unfold negB; rw [← hc, e]; simp; omega
          rw [← hng] at this; cases this
        have h45' : c.toNat ≠ 45 := fun e => h45 (UInt8.toNat_inj.1 e)
        have hb45 : ((c.toNat : Int) == 45) = false := beq_eq_false_iff_ne.2 (by omega)
        clear hng hSd hc h45
        go_wp2_with fail
        refine (l01Value_any S _ hEs).mono ?_
        rintro e w2 ⟨rfl, rfl⟩
        rw [← HPD.out]
        go_wp2
        go_ret2
        exact ⟨by rw [HR.out]; rfl, BB⟩
end Go.Proofs.YtmhcpaffdchboaaDoor
