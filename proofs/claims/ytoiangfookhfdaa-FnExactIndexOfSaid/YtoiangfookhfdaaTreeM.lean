/-
  The walks of the program's lists of trees.
-/
import Derived.Test.YtoiangfookhfdaaTreeN
namespace Go.Proofs.Ytoiangfookhfdaa
open Go.RowKit
set_option maxRecDepth 100000
theorem pK_skip (t : List Int) (c : Nat) (h : el t c ≤ 1) : pK t (c + 1) = pK t c := by rw [pK, if_pos h]
theorem pK_stop (t : List Int) (c : Nat) (h0 : 0 < c) (h : ¬ el t (c - 1) ≤ 1) : pK t c = c := by
  obtain ⟨d, rfl⟩ : ∃ d, c = d + 1 := ⟨c - 1, by omega⟩
  rw [Nat.add_sub_cancel] at h
  rw [pK, if_neg h]
theorem qK_skip (t : List Int) (x : Int) (d : Nat) (h0 : 0 < d) (h : el t (d - 1) ≠ x) : qK t x d = qK t x (d - 1) := by
  obtain ⟨e, rfl⟩ : ∃ e, d = e + 1 := ⟨d - 1, by omega⟩
  rw [Nat.add_sub_cancel] at h ⊢
  rw [qK, if_neg h]
theorem qK_stop (t : List Int) (x : Int) (d : Nat) (h0 : 0 < d) (h : el t (d - 1) = x) : qK t x d = d := by
  obtain ⟨e, rfl⟩ : ∃ e, d = e + 1 := ⟨d - 1, by omega⟩
  rw [Nat.add_sub_cancel] at h
  rw [qK, if_pos h]
theorem pK_le (t : List Int) (c : Nat) : pK t c ≤ c := by
  induction c with
  | zero => exact Nat.le_refl _
  | succ c ih => rw [pK]; split <;> omega
theorem qK_le (t : List Int) (x : Int) (c : Nat) : qK t x c ≤ c := by
  induction c with
  | zero => exact Nat.le_refl _
  | succ c ih => rw [qK]; split <;> omega
theorem copyT_length (t : List Int) (p d m : Nat) : (copyT t p d m).length = t.length := by
  induction m with
  | zero => rfl
  | succ m ih => rw [copyT]; simp [ih]
theorem stepOk_facts {n : Nat} {t : List Int} (h : stepOk n t = true) : t.length = n ∧ 0 < pK t n ∧ 0 < qK t (el t (pK t n - 1) - 1) (pK t n - 1) ∧ ∀ j, j < n → 0 ≤ el t j ∧ el t j ≤ 8 := by
  simp only [stepOk, Bool.and_eq_true, decide_eq_true_iff] at h
  refine ⟨h.1.1.1, h.1.1.2, h.1.2, fun j hj => ?_⟩
  have := List.all_eq_true.1 h.2 (el t j) (by rw [← el_at t j (by omega)]; exact List.getElem_mem _)
  simpa using this
/-- How long a slice is. -/
def lenOf : Value → Nat
  | .slice _ n _ => n
  | _ => 0
theorem outT_length (n k : Nat) : (outT n k).length = k := by
  induction k with
  | zero => rfl
  | succ k ih => rw [outT]; simp [ih]
theorem iterT_length (n : Nat) (h1 : 1 ≤ n) (h8 : n ≤ 8) (k : Nat) (hk : k < many n) : (iterT n k).length = n := by
  by_cases h : k + 1 < many n
  · exact (stepOk_facts (iterT_ok n h1 h8 k h)).1
  · exact (iterT_end n h1 h8 k (by omega)).1
set_option maxHeartbeats 2000000 in
theorem treesOf_any (n : Nat) (h1 : 1 ≤ n) (h8 : n ≤ 8) (w : World) :
    Calls Try.prog 54 #[.int .i64 (n : Nat)] w fun e w' => ∃ r, e = .returned r ∧ OwnII w.heap.size w' r (treesL n) ∧ Below w.heap.size w w' := by
  have hm0 : 0 < many n := by
    rcases (by omega : n = 1 ∨ n = 2 ∨ n = 3 ∨ n = 4 ∨ n = 5 ∨ n = 6 ∨ n = 7 ∨ n = 8) with rfl | rfl | rfl | rfl | rfl | rfl | rfl | rfl <;> decide
  have hm1 := many_le n
  go_enter Try.func54, Try.ntmps54
  go_wp2
  go_loopw [3, 12] (fun r i wr => ∃ m : Nat, m ≤ n ∧ i = .int .i64 m ∧ OwnI w.heap.size wr r ((List.range m).map fun i : Nat => (i : Int)) ∧ Own2 w.heap.size wr (.slice (some ⟨w.heap.size + 1, 0, none⟩) 0 0) [] [] ∧ Hid (Parted r (.slice (some ⟨w.heap.size + 1, 0, none⟩) 0 0)) ∧ Below w.heap.size w wr) (fun _ i _ => n - (intOf i).toNat)
  case atStart => exact ⟨0, Nat.zero_le _, rfl, (OwnI.lit w w.heap.size (Nat.le_refl _)).mono (below_alloc _ _), Own2.litAt (by simp) (by omega), fun b e1 e2 => by simp [Value.ownBlock] at e1 e2; omega, (below_alloc _ _).alloc (by simp) _⟩
  case round =>
    obtain ⟨m, hm, rfl, O, O2, HP, Bl⟩ := hrel
    by_cases hlt : m < n
    · have hl1 : ((List.range m).map fun i : Nat => (i : Int)).length < 1048576 := by simp; omega
      have hout := O2.glt.2
      go_wp2_with (at_builtin; refine wpl_appW (v := u3) rfl _ _ _ rfl Try.underlying22 info_i64 rfl (O.mono (below_alloc _ _)) ⟨wr.heap.size, 0, none⟩ 1 _ rfl (cell_new1 _ _ _) hl1 (by have := Bl.size; simp; omega) ?_; intro v' W1 O1 G1 B1 P1)
      have O3 := (O2.mono (below_alloc wr (.cells #[.int .i64 (m : Int)] 2))).kept G1 HP.out.symm.ne (fun j hj => by simp at hj)
      have HP3 : Hid (Parted v' (.slice (some ⟨w.heap.size + 1, 0, none⟩) 0 0)) := fun b e1 e2 => by
        rcases P1 with P1 | P1
        · exact HP.out b (by rw [← P1]; exact e1) e2
        · rw [P1] at e1; simp [Value.ownBlock] at e1 e2; omega
      clear G1 P1
      go_roundw
      case rel => exact ⟨m + 1, by omega, by go_num, by rw [List.range_succ, List.map_append]; exact O1, O3, HP3, (Bl.alloc Bl.size _).trans B1⟩
      case measure => simp [intOf]; omega
    · obtain rfl : m = n := by omega
      obtain ⟨aot, capt, rfl⟩ := O.form
      rw [List.length_map, List.length_range] at O HP ⊢
      obtain ⟨gt, rfl⟩ := O.addr (by simp; omega)
      have O0 : OwnI w.heap.size wr (.slice (some ⟨gt, 0, none⟩) m capt) (iterT m 0) := O
      clear O
      go_wp2
      go_loopw [4] (fun r wr => ∃ (k : Nat) (us : List Value), k < many m ∧ (∃ ao cap, r = .slice ao k cap) ∧ Own2 w.heap.size wr r us (outT m k) ∧ OwnI w.heap.size wr (.slice (some ⟨gt, 0, none⟩) m capt) (iterT m k) ∧ Hid (Parted (.slice (some ⟨gt, 0, none⟩) m capt) r) ∧ Hid (∀ j, j < us.length → Parted (.slice (some ⟨gt, 0, none⟩) m capt) (vat us j)) ∧ Below w.heap.size w wr) (fun r _ => many m - lenOf r)
      case atStart => exact ⟨0, [], hm0, ⟨_, _, rfl⟩, O2, O0, HP, fun j hj => by simp at hj, Bl⟩
      case round =>
        obtain ⟨k, us, hk, ⟨ao, cap, rfl⟩, O, OT, HPt, HPu, Bo⟩ := hrel
        obtain ⟨wo, rfl⟩ : ∃ wo, wo = wr := ⟨_, rfl⟩
        have hTl := iterT_length m h1 h8 k hk
        obtain ⟨T, hT⟩ : ∃ T, T = iterT m k := ⟨_, rfl⟩
        rw [← hT] at OT hTl
        have HTI := hid hT
        have HTL := hid hTl
        have hT0 : 0 < T.length := by omega
        have hgt := OT.glt
        have hol : (outT m k).length < 1048576 := by rw [outT_length]; omega
        have HLT : Hid (∀ x ∈ us, ∀ b, x.ownBlock = some b → b < wo.heap.size) := fun x hx b hb => (O.mem_lt x hx b hb).2
        have HOV : Hid (∀ b, (Value.slice ao k cap).ownBlock = some b → b < wo.heap.size) := fun b hb => (O.lt b hb).2
        have bo := Bo.size
        have HOT := hid OT
        have HO := hid O
        clear hT hTl O0 O2 HP
        go_wp2_with (first
          | (go_at_call 74; refine (clone_any _ T _ HOT.out.rd hT0).mono ?_; rintro e w2 ⟨r2, rfl, O2, B2⟩; obtain ⟨ao2, cap2, rfl⟩ := O2.form; have bs2 := B2.size)
          | (at_builtin; refine wpl_app2 (v := .slice ao k cap) (u := .slice ao2 T.length cap2) rfl _ _ _ rfl Try.underlying28 info_ii rfl ((HO.out.mono B2).mono (below_alloc _ _)) ⟨w2.heap.size, 0, none⟩ 1 T rfl (cell_new1 _ _ _) ((O2.lower bo).mono (below_alloc _ _)) (parted_lt wo.heap.size (fun b h => (O2.own_lt b h).1) HOV.out) (fun j hj => parted_lt wo.heap.size (fun b h => (O2.own_lt b h).1) (HLT.out _ (by rw [← vat_at us j hj]; exact List.getElem_mem hj))) hol (by simp; omega) ?_; intro v4 W4 O4 G4 B4 P4))
        have OT4 : OwnI w.heap.size W4 (.slice (some ⟨gt, 0, none⟩) m capt) T := ((HOT.out.mono B2).mono (below_alloc _ _)).grown G4 HPt.out.ne
        have eO : outT m k ++ [T] = outT m (k + 1) := by rw [outT, HTI.out]
        rw [eO] at O4
        have HPt4 : Hid (Parted (.slice (some ⟨gt, 0, none⟩) m capt) v4) := fun b e1 e2 => by
          rcases P4 with P4 | P4
          · exact HPt.out b e1 (by rw [← P4]; exact e2)
          · rw [P4] at e2; simp [Value.ownBlock] at e1 e2; omega
        have HPu4 : Hid (∀ j, j < (us ++ [Value.slice ao2 T.length cap2]).length → Parted (.slice (some ⟨gt, 0, none⟩) m capt) (vat (us ++ [Value.slice ao2 T.length cap2]) j)) := fun j hj => by
          simp at hj
          by_cases hx : j < us.length
          · rw [vat_left _ _ _ hx]; exact HPu.out j hx
          · obtain rfl : j = us.length := by omega
            rw [vat_last]
            exact (parted_lt wo.heap.size (fun b h => (O2.own_lt b h).1) (fun b h => by simp [Value.ownBlock] at h; omega)).symm
        have B5 := ((nx Bo B2).alloc (Nat.le_trans bo bs2) (.cells #[.slice ao2 T.length cap2] 22)).trans B4
        obtain ⟨us4, hus4⟩ : ∃ us4, us4 = us ++ [Value.slice ao2 T.length cap2] := ⟨_, rfl⟩
        rw [← hus4] at O4 HPu4
        obtain ⟨ao4, cap4, rfl⟩ := O4.form
        rw [outT_length] at O4 HPt4 ⊢
        have gt4 := OT4.glt.2
        have hgt2 := hgt.1
        have b5 := B5.size
        have HO4 := hid O4
        have HB5 := hid B5
        have HOT4 := hid OT4
        clear hus4 eO P4 G4 B4 B2 O2 HPt HPu HLT HOV HO HOT O4 B5 O OT
        go_loop [6] (fun p => ∃ c : Nat, c ≤ m ∧ p = .int .i64 ((c : Int) - 1) ∧ Hid (pK T m = pK T c)) (fun p => (intOf p + 1).toNat)
        case atStart => exact ⟨m, Nat.le_refl _, rfl, rfl⟩
        case round =>
          obtain ⟨c, hc, rfl, HK⟩ := hrel
          by_cases c0 : 0 < c
          · have hcell := HOT4.out.cell (c - 1) (by have := HTL.out; omega)
            have j1 : (1 : Int) ≤ (c : Int) := by omega
            have j2 : ((c : Int) - 1).toNat = c - 1 := by omega
            have j3 : (c : Int) - 1 < (m : Int) := by omega
            by_cases hle : el T (c - 1) ≤ 1
            · have HLE := hid hle
              go_wp2
              go_round
              case rel =>
                refine ⟨c - 1, by omega, by congr 1; omega, ?_⟩
                have := pK_skip T (c - 1) HLE.out
                rw [show c - 1 + 1 = c by omega] at this
                exact HK.out.trans this
              case measure => simp [intOf]; omega
            · have HKc : Hid (pK T m = c) := HK.out.trans (pK_stop T c c0 hle)
              have hnle : 1 < el T (c - 1) := by omega
              have hkm : k + 1 < many m := by
                rcases Nat.lt_or_ge (k + 1) (many m) with h | h
                · exact h
                · have := (iterT_end m h1 h8 k (by omega)).2
                  rw [← HTI.out, HKc.out] at this; omega
              have SF := hid (stepOk_facts (by rw [HTI.out]; exact iterT_ok m h1 h8 k hkm : stepOk m T = true))
              have hq0 : Hid (0 < qK T (el T (c - 1) - 1) (c - 1)) := by have := SF.out.2.2.1; rw [HKc.out] at this; exact this
              have hc2 : 0 < c - 1 := by have := hq0.out; have := qK_le T (el T (c - 1) - 1) (c - 1); omega
              have hbc := (SF.out.2.2.2 (c - 1) (by omega)).2
              clear hle
              go_wp2
              go_loopw [7] (fun q wx => ∃ d : Nat, 0 < d ∧ d ≤ c - 1 ∧ q = .int .i64 ((d : Int) - 1) ∧ Hid (qK T (el T (c - 1) - 1) (c - 1) = qK T (el T (c - 1) - 1) d) ∧ Dr W4 wx) (fun q _ => (intOf q + 1).toNat)
              case atStart => exact ⟨c - 1, hc2, Nat.le_refl _, by congr 1; omega, rfl, Dr.refl _⟩
              case round =>
                obtain ⟨d, hd0, hd, rfl, HQ, hdr⟩ := hrel
                have OTd := HOT4.out.mono (hdr.below _)
                have cd := OTd.cell (d - 1) (by have := HTL.out; omega)
                have cc := OTd.cell (c - 1) (by have := HTL.out; omega)
                have hbd := SF.out.2.2.2 (d - 1) (by omega)
                have HDR := hid hdr
                have k1 : (1 : Int) ≤ (d : Int) := by omega
                have k2 : ((d : Int) - 1).toNat = d - 1 := by omega
                have k3 : (d : Int) - 1 < (m : Int) := by omega
                clear hdr
                by_cases hq : el T (d - 1) = el T (c - 1) - 1
                · have HE := hid hq
                  have hb : (el T (d - 1) != el T (c - 1) - 1) = false := by simp [hq]
                  have i1 : IntKind.i64.wrap (el T (c - 1) - 1) = el T (c - 1) - 1 := IntWalk.i64_in _ (by omega)
                  have HQd : Hid (qK T (el T (c - 1) - 1) (c - 1) = d) := HQ.out.trans (qK_stop T _ d hd0 hq)
                  have Bd := HB5.out.trans (HDR.out.below w.heap.size)
                  have Od := HO4.out.mono (HDR.out.below _)
                  clear hq
                  go_wp2_with fail
                  go_quiet (fail)
                  clear i1 hb cd cc
                  obtain ⟨dd, hdd⟩ : ∃ dd, dd = c - d := ⟨_, rfl⟩
                  have hdd1 : 0 < dd := by omega
                  have hdd2 : (c : Int) - 1 - ((d : Int) - 1) = (dd : Int) := by omega
                  have hdc : dd ≤ c - 1 := by omega
                  have HN : Hid (copyT T (c - 1) dd (m - (c - 1)) = iterT m (k + 1)) := by
                    simp only [Hid, iterT, nextT]
                    rw [← HTI.out, HTL.out, HKc.out, HQd.out, show c - 1 - (d - 1) = dd by omega]
                  have HD2 := hid hdd2
                  clear hdd
                  go_wp2
                  go_loopw [8] (fun i wx => ∃ i0 : Nat, c - 1 ≤ i0 ∧ i0 ≤ m ∧ i = .int .i64 i0 ∧ OwnI w.heap.size wx (.slice (some ⟨gt, 0, none⟩) m capt) (copyT T (c - 1) dd (i0 - (c - 1))) ∧ Own2 w.heap.size wx (.slice ao4 (k + 1) cap4) us4 (outT m (k + 1)) ∧ Below w.heap.size w wx) (fun i _ => m - (intOf i).toNat)
                  case atStart => exact ⟨c - 1, Nat.le_refl _, by omega, by congr 1; omega, by rw [Nat.sub_self]; exact OTd.mono (below_drewN (Below.refl _ _) _), Od.mono (below_drewN (Below.refl _ _) _), below_drewN Bd _⟩
                  case round =>
                    obtain ⟨i0, hi1, hi2, rfl, OC, OO, BB⟩ := hrel
                    by_cases hlt5 : i0 < m
                    · have hcl := copyT_length T (c - 1) dd (i0 - (c - 1))
                      have hcell := OC.cell (i0 - dd) (by rw [hcl, HTL.out]; omega)
                      have hcell2 := OC.cell i0 (by rw [hcl, HTL.out]; omega)
                      have hfr := OC.free i0
                      have hgl := OC.glt.2
                      obtain ⟨OC2, G2⟩ := OC.set i0 (el (copyT T (c - 1) dd (i0 - (c - 1))) (i0 - dd))
                      have ec : (copyT T (c - 1) dd (i0 - (c - 1))).set i0 (el (copyT T (c - 1) dd (i0 - (c - 1))) (i0 - dd)) = copyT T (c - 1) dd (i0 + 1 - (c - 1)) := by
                        rw [show i0 + 1 - (c - 1) = i0 - (c - 1) + 1 by omega, copyT, show c - 1 + (i0 - (c - 1)) = i0 by omega]
                      rw [ec] at OC2
                      have OO2 := OO.kept G2 HPt4.out.symm.ne (fun j hj => (HPu4.out j hj).symm.ne)
                      have BB2 := BB.setCell (p := ⟨gt, i0, none⟩) hgt2 (.int .i64 (el (copyT T (c - 1) dd (i0 - (c - 1))) (i0 - dd)))
                      obtain ⟨y, hy⟩ : ∃ y, y = Value.int .i64 (el (copyT T (c - 1) dd (i0 - (c - 1))) i0) := ⟨_, rfl⟩
                      rw [← hy] at hcell2
                      have l1 : (dd : Int) ≤ (i0 : Int) := by omega
                      have l2 : ((i0 : Int) - (dd : Int)).toNat = i0 - dd := by omega
                      have l3 : (i0 : Int) - (dd : Int) < (m : Int) := by omega
                      have l4 := HD2.out
                      clear hy ec hcl G2 OC OO BB
                      go_wp2
                      go_roundw
                      case rel => exact ⟨i0 + 1, by omega, by omega, by go_num, OC2, OO2, BB2⟩
                      case measure => simp [intOf]; omega
                    · obtain rfl : i0 = m := by omega
                      rw [HN.out] at OC
                      go_wp2
                      go_roundw
                      case rel => exact ⟨k + 1, us4, hkm, ⟨_, _, rfl⟩, OO, OC, HPt4, HPu4, BB⟩
                      case measure => simp [lenOf]; omega
                · have HE := hid hq
                  have hb : (el T (d - 1) != el T (c - 1) - 1) = true := by simp [hq]
                  have i1 : IntKind.i64.wrap (el T (c - 1) - 1) = el T (c - 1) - 1 := IntWalk.i64_in _ (by omega)
                  clear hq
                  go_wp2_with fail
                  go_quiet (fail)
                  clear i1 hb
                  go_wp2
                  go_roundw
                  case rel =>
                    have e := qK_skip T (el T (c - 1) - 1) d hd0 HE.out
                    refine ⟨d - 1, ?_, by omega, by congr 1; omega, HQ.out.trans e, HDR.out.drewN _⟩
                    have h1 := hq0.out
                    rw [HQ.out, e] at h1
                    have := qK_le T (el T (c - 1) - 1) (d - 1)
                    omega
                  case measure => simp [intOf]; omega
          · have hc0 : c = 0 := by omega
            have HK0 : Hid (pK T m = 0) := by have := HK.out; rw [hc0] at this; exact this
            have hc1 : (c : Int) - 1 < 0 := by omega
            have hc3 : (c : Int) < 1 := by omega
            clear hc0
            go_wp2
            go_ret
            have hkm : k + 1 = many m := by
              rcases Nat.lt_or_ge (k + 1) (many m) with h | h
              · have := (stepOk_facts (iterT_ok m h1 h8 k h)).2.1
                rw [← HTI.out, HK0.out] at this; omega
              · omega
            have e : outT m (k + 1) = treesL m := by rw [hkm, outT_trees m h1 h8]
            exact ⟨_, rfl, ⟨us4, by have := HO4.out; rw [e] at this; exact this⟩, HB5.out⟩
end Go.Proofs.Ytoiangfookhfdaa
