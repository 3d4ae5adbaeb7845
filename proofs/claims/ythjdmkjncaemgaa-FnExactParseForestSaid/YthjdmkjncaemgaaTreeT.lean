/-
  The walks of the reference's canonical lists.
-/
import Derived.Test.YthjdmkjncaemgaaTreeB
import Derived.Test.YthjdmkjncaemgaaTreeS
namespace Go.Proofs.Ythjdmkjncaemgaa
open Go.RowKit
set_option maxRecDepth 100000
set_option maxHeartbeats 4000000 in
theorem l03Canon_any (n : Nat) (hn12 : n ≤ 12) : ∀ (v : Value) (zs : List Int) (w : World), RdI w v zs → IsL zs → zs.length ≤ n →
    Calls Try.prog 32 #[v] w fun e w' => ∃ r, e = .returned r ∧ OwnI w.heap.size w' r (canonF n zs) ∧ Below w.heap.size w w' := by
  induction n with
  | zero => intro v zs w h hL hn; have := hL.1; omega
  | succ n ih =>
    intro v zs w h hL hn
    have H := hid h
    obtain ⟨ao, cap, rfl⟩ := h.form
    have hpl := parts_len hL
    have HP := hid (parts_IsL hL)
    have HQ := hid (canon_parts_IsL (n := n) hL)
    have HT := hid (canon_parts_tot (n := n) hL hn)
    have HL := hid hL
    have IH := hid (ih (by omega))
    clear hL ih h
    go_enter Try.func32, Try.ntmps32
    go_wp2_with fail
    refine (l03Parts_any _ zs _ H.out HL.out).mono ?_; rintro e w1 ⟨r, rfl, ⟨us1, O1⟩, B1⟩
    obtain ⟨ao1, cap1, rfl⟩ := O1.form
    have R := hid O1.rd
    obtain ⟨L, hLL⟩ : ∃ L, L = (parts zs).map (canonF n) := ⟨_, rfl⟩
    have hLl : L.length = (parts zs).length := by rw [hLL]; simp
    have HLL := hid hLL
    have HLl := hid hLl
    clear O1 hLL hLl
    go_wp2
    go_loopw [4, 5] (fun r i wr => ∃ (k g capS : Nat) (us : List Value), k ≤ (parts zs).length ∧ i = .int .i64 k ∧ r = .slice (some ⟨g, 0, none⟩) k capS ∧ Own2 w1.heap.size wr (.slice (some ⟨g, 0, none⟩) k capS) us (sortTo RD L k) ∧ Below w1.heap.size w1 wr) (fun _ i _ => (parts zs).length - (intOf i).toNat)
    case atStart => exact ⟨0, w1.heap.size, 0, [], Nat.zero_le _, rfl, rfl, Own2.litAt rfl (Nat.le_refl _), below_alloc _ _⟩
    case round =>
      obtain ⟨k, g, capS, us, hk, rfl, rfl, O, Bl⟩ := hrel
      obtain ⟨wo, rfl⟩ : ∃ wo, wo = wr := ⟨_, rfl⟩
      by_cases hlt : k < (parts zs).length
      · obtain ⟨b, off, u, rfl, hcell, hu⟩ := (R.out.mono Bl).at_ hlt
        have HU := hid hu
        have hp := HP.out _ (rowAt_mem (parts zs) k hlt)
        clear hu
        go_wp2_with fail
        refine (IH.out _ (rowAt (parts zs) k) _ HU.out hp.1 (by omega)).mono ?_; rintro e w2 ⟨r2, rfl, O2, B2⟩
        clear hcell
        obtain ⟨p, hpp⟩ : ∃ p, p = canonF n (rowAt (parts zs) k) := ⟨_, rfl⟩
        rw [← hpp] at O2
        have HPP := hid hpp
        clear hpp
        obtain ⟨ao2, cap2, rfl⟩ := O2.form
        obtain ⟨S, hS⟩ : ∃ S, S = sortTo RD L k := ⟨_, rfl⟩
        have hSl : S.length = k := by rw [hS]; exact sortTo_length _ _ _
        have hSl1 : S.length ≤ k := by omega
        have hSl2 : k ≤ S.length := by omega
        rw [← hS] at O
        have hul1 : us.length ≤ k := by have := O.len; omega
        have hul2 : k ≤ us.length := by have := O.len; omega
        have hkc : k ≤ capS := by
          rcases O.1.2 with ⟨e, _⟩ | ⟨_, _, _, e, _, _, h, _⟩
          · simp at e
          · simp at e; omega
        have hrp : Hid (∀ x ∈ us, Parted (.slice ao2 p.length cap2) x) := fun x hx => parted_lt wo.heap.size (fun b hb => (O2.own_lt b hb).1) (fun b hb => (O.mem_lt x hx b hb).2)
        have HSI : Hid (insR RD p S = sortTo RD L (k + 1)) := by
          simp only [Hid]; rw [sortTo, ← hS, HLL.out, rowAt_map _ _ _ hlt, ← HPP.out]
        have hSn : Hid ((sortTo RD L (k + 1)).length = k + 1) := sortTo_length _ _ _
        have hSp : 0 < (sortTo RD L (k + 1)).length := by rw [hSn.out]; omega
        have HB2 := hid B2
        have HO := hid O
        have HO2 := hid O2
        clear hS hSl B2 O O2
        go_wp2
        go_loopw [7] (fun i wx => ∃ m : Nat, m ≤ k ∧ i = .int .i64 m ∧ Hid (∀ j, j < m → RD p (rowAt S j) = false) ∧ Dr w2 wx) (fun i _ => k - (intOf i).toNat)
        case atStart => exact ⟨0, Nat.zero_le _, rfl, fun j hj => by omega, Dr.refl _⟩
        case round =>
          obtain ⟨m, hm, rfl, HS, hdr⟩ := hrel
          have OX := (HO.out.mono HB2.out).mono (hdr.below _)
          have O2X := HO2.out.mono (hdr.below _)
          by_cases hlm : m < k
          · have hcm := OX.cell m (by omega)
            cases hR : RD p (rowAt S m) with
            | false =>
              have HRF : Hid (ltL (rowAt S m) p = false) := hR
              clear hR
              go_wp2_with (go_at_call 51; refine (l01Less_any _ _ (rowAt S m) p _ (OX.own m (by omega)).rd O2X.rd).mono ?_; rintro e wy ⟨rfl, D⟩; rw [HRF.out])
              go_roundw
              case rel =>
                refine ⟨m + 1, by omega, by go_num, fun j hj => ?_, hdr.trans D⟩
                by_cases hjm : j = m
                · rw [hjm]; exact HRF.out
                · exact HS.out j (by omega)
              case measure => simp [intOf]; omega
            | true =>
              have HRT : Hid (ltL (rowAt S m) p = true) := hR
              have HI : Hid (S.take m ++ ([p] ++ S.drop m) = sortTo RD L (k + 1)) := by
                simp only [Hid]; rw [← HSI.out, insR_at RD p S m HS.out (by omega) (.inr hR)]; rfl
              clear hR
              obtain ⟨E, hE'⟩ : ∃ E, E = [p] ++ S.drop m := ⟨_, rfl⟩
              obtain ⟨UE, hUE'⟩ : ∃ UE, UE = [Value.slice ao2 p.length cap2] ++ us.drop m := ⟨_, rfl⟩
              have hE := hid hE'.symm
              have hUE := hid hUE'.symm
              have hEl : 0 < E.length := by rw [hE']; simp
              have hpw1 : Hid (([Value.slice ao2 p.length cap2] ++ us.drop m).Pairwise Parted) := List.pairwise_cons.2 ⟨fun x hx => hrp.out x (List.mem_of_mem_drop hx), HO.out.pairwise.sublist (List.drop_sublist _ _)⟩
              have hpw2 : Hid ((us.take m ++ ([Value.slice ao2 p.length cap2] ++ us.drop m)).Pairwise Parted) := pairwise_ins HO.out.pairwise hrp.out m
              clear hE' hUE'
              by_cases hcc : capS = m
              · omega
              · go_wp2_with (first
                  | (go_at_call 51; refine (l01Less_any _ _ (rowAt S m) p _ (OX.own m (by omega)).rd O2X.rd).mono ?_; rintro e wy ⟨rfl, D⟩; rw [HRT.out]; have hdy := hdr.trans D; have OW := (HO.out.mono HB2.out).mono (hdy.below _); have O2W := (HO2.out.mono (hdy.below _)).lower Bl.size; have BW := (nx Bl HB2.out).trans (hdy.below w1.heap.size); have bW := BW.size)
                  | (at_builtin; refine wpl_appN (v := .slice (some ⟨wy.heap.size, 0, none⟩) 1 1) (vs := us.drop m) (ys := S.drop m) rfl _ _ _ rfl Try.underlying32 info_ii rfl (Own2.lit1 bW O2W) ⟨g, m, none⟩ (k - m) _ rfl (by simp; omega) ((OW.mono (below_alloc _ _)).news_drop m) (by simp; omega) ((OW.mono (below_alloc _ _)).own_drop m) hpw1.out (fun x hx => OW.new_lit _ _ _ (Nat.le_refl _) x (List.mem_of_mem_drop hx)) (by simp; omega) (by simp; omega) ?_; intro v1 W1 O3 G3 B3 P3; clear B3 P3; have BX := (below_alloc wy (.cells #[.slice ao2 p.length cap2] 22)).grown G3 (by simp) (fun b hb => by simp [Value.ownBlock] at hb; omega); clear G3; rw [hE.out, hUE.out] at O3; obtain ⟨ao3, cap3, rfl⟩ := O3.form; obtain ⟨g3, rfl⟩ := O3.addr hEl; have OW1 := OW.mono BX; have bw1 := BX.size; have bW1 := Nat.le_trans bW bw1)
                  | (at_builtin; refine wpl_appN (v := .slice (some ⟨W1.heap.size, 0, none⟩) 0 0) (vs := us.take m) (ys := S.take m) rfl _ _ _ rfl Try.underlying32 info_ii rfl (Own2.lit W1 w1.heap.size bW1) ⟨g, 0, none⟩ m _ rfl (by simp; omega) ((OW1.mono (below_alloc _ _)).news_take m) (by simp; omega) ((OW1.mono (below_alloc _ _)).own_take m) (by rw [List.nil_append]; exact OW1.pairwise.sublist (List.take_sublist _ _)) (fun x hx => OW1.new_lit _ _ _ (Nat.le_refl _) x (List.mem_of_mem_take hx)) (by simp; omega) (by simp; omega) ?_; intro v2 W2 O4 G4 B4 P4; clear B4; have BY := (below_alloc W1 (.cells #[] 22)).grown G4 (by simp) (fun b hb => by simp [Value.ownBlock] at hb; omega); clear G4; have O3' := O3.mono BY; have bW2 := BY.size)
                  | (at_builtin; refine wpl_appN (v := v2) (vs := UE) (ys := E) rfl _ _ _ rfl Try.underlying32 info_ii rfl O4 ⟨g3, 0, none⟩ E.length cap3 rfl O3'.len O3'.news_all O3'.len O3'.2.2.2.1 (by rw [← hUE.out, List.nil_append]; exact hpw2.out) (fun x hx b e1 e2 => by have h1 := (O3.mem_lt x hx b e1).2; rcases P4 with P4 | P4 <;> (rw [P4] at e2; simp [Value.ownBlock] at e2; omega)) (by rw [← hE.out]; simp; omega) (by omega) ?_; intro v3 W3 O5 G5 B5 P5; clear G5 P5; rw [List.nil_append, List.nil_append, ← hE.out, HI.out] at O5; obtain ⟨ao5, cap5, rfl⟩ := O5.form; obtain ⟨g5, rfl⟩ := O5.addr hSp; rw [hSn.out] at O5 ⊢; have B6 := ((BW.trans (BX.mono bW)).trans (BY.mono bW1)).trans B5))
                go_roundw
                case rel => exact ⟨k + 1, g5, cap5, _, by omega, by go_num, rfl, O5, B6⟩
                case measure => simp [intOf]; omega
          · have hmk : m = k := by omega
            have HI : Hid (S.take m ++ ([p] ++ S.drop m) = sortTo RD L (k + 1)) := by
              simp only [Hid]; rw [← HSI.out, insR_at RD p S m HS.out (by omega) (.inl (by omega))]; rfl
            clear hmk
            have hmk1 : k ≤ m := by omega
            obtain ⟨E, hE'⟩ : ∃ E, E = [p] ++ S.drop m := ⟨_, rfl⟩
            obtain ⟨UE, hUE'⟩ : ∃ UE, UE = [Value.slice ao2 p.length cap2] ++ us.drop m := ⟨_, rfl⟩
            have hE := hid hE'.symm
            have hUE := hid hUE'.symm
            have hEl : 0 < E.length := by rw [hE']; simp
            have hpw1 : Hid (([Value.slice ao2 p.length cap2] ++ us.drop m).Pairwise Parted) := List.pairwise_cons.2 ⟨fun x hx => hrp.out x (List.mem_of_mem_drop hx), HO.out.pairwise.sublist (List.drop_sublist _ _)⟩
            have hpw2 : Hid ((us.take m ++ ([Value.slice ao2 p.length cap2] ++ us.drop m)).Pairwise Parted) := pairwise_ins HO.out.pairwise hrp.out m
            clear hE' hUE'
            by_cases hcc : capS = m
            · have hcc1 := hid hcc
              clear hcc
              have hcc : (capS : Nat) = m := hcc1.out
              have OW := (HO.out.mono HB2.out).mono (hdr.below _)
              have O2W := (HO2.out.mono (hdr.below _)).lower Bl.size
              have BW := (nx Bl HB2.out).trans (hdr.below w1.heap.size)
              have bW := BW.size
              go_wp2_with (first
                | (at_builtin; refine wpl_appN (v := .slice (some ⟨wr.heap.size, 0, none⟩) 1 1) (vs := us.drop m) (ys := S.drop m) rfl _ _ _ rfl Try.underlying32 info_ii rfl (Own2.lit1 bW O2W) ⟨g, 0, none⟩ 0 _ rfl (by simp; omega) (fun j u hu => by rw [List.drop_eq_nil_of_le (by omega)] at hu; simp at hu) (by simp; omega) ((OW.mono (below_alloc _ _)).own_drop m) hpw1.out (fun x hx => OW.new_lit _ _ _ (Nat.le_refl _) x (List.mem_of_mem_drop hx)) (by simp; omega) (by simp; omega) ?_; intro v1 W1 O3 G3 B3 P3; clear B3 P3; have BX := (below_alloc wr (.cells #[.slice ao2 p.length cap2] 22)).grown G3 (by simp) (fun b hb => by simp [Value.ownBlock] at hb; omega); clear G3; rw [hE.out, hUE.out] at O3; obtain ⟨ao3, cap3, rfl⟩ := O3.form; obtain ⟨g3, rfl⟩ := O3.addr hEl; have OW1 := OW.mono BX; have bw1 := BX.size; have bW1 := Nat.le_trans bW bw1)
                | (at_builtin; refine wpl_appN (v := .slice (some ⟨W1.heap.size, 0, none⟩) 0 0) (vs := us.take m) (ys := S.take m) rfl _ _ _ rfl Try.underlying32 info_ii rfl (Own2.lit W1 w1.heap.size bW1) ⟨g, 0, none⟩ m _ rfl (by simp; omega) ((OW1.mono (below_alloc _ _)).news_take m) (by simp; omega) ((OW1.mono (below_alloc _ _)).own_take m) (by rw [List.nil_append]; exact OW1.pairwise.sublist (List.take_sublist _ _)) (fun x hx => OW1.new_lit _ _ _ (Nat.le_refl _) x (List.mem_of_mem_take hx)) (by simp; omega) (by simp; omega) ?_; intro v2 W2 O4 G4 B4 P4; clear B4; have BY := (below_alloc W1 (.cells #[] 22)).grown G4 (by simp) (fun b hb => by simp [Value.ownBlock] at hb; omega); clear G4; have O3' := O3.mono BY; have bW2 := BY.size)
                | (at_builtin; refine wpl_appN (v := v2) (vs := UE) (ys := E) rfl _ _ _ rfl Try.underlying32 info_ii rfl O4 ⟨g3, 0, none⟩ E.length cap3 rfl O3'.len O3'.news_all O3'.len O3'.2.2.2.1 (by rw [← hUE.out, List.nil_append]; exact hpw2.out) (fun x hx b e1 e2 => by have h1 := (O3.mem_lt x hx b e1).2; rcases P4 with P4 | P4 <;> (rw [P4] at e2; simp [Value.ownBlock] at e2; omega)) (by rw [← hE.out]; simp; omega) (by omega) ?_; intro v3 W3 O5 G5 B5 P5; clear G5 P5; rw [List.nil_append, List.nil_append, ← hE.out, HI.out] at O5; obtain ⟨ao5, cap5, rfl⟩ := O5.form; obtain ⟨g5, rfl⟩ := O5.addr hSp; rw [hSn.out] at O5 ⊢; have B6 := ((BW.trans (BX.mono bW)).trans (BY.mono bW1)).trans B5))
              go_roundw
              case rel => exact ⟨k + 1, g5, cap5, _, by omega, by go_num, rfl, O5, B6⟩
              case measure => simp [intOf]; omega
            · have OW := (HO.out.mono HB2.out).mono (hdr.below _)
              have O2W := (HO2.out.mono (hdr.below _)).lower Bl.size
              have BW := (nx Bl HB2.out).trans (hdr.below w1.heap.size)
              have bW := BW.size
              go_wp2_with (first
                | (at_builtin; refine wpl_appN (v := .slice (some ⟨wr.heap.size, 0, none⟩) 1 1) (vs := us.drop m) (ys := S.drop m) rfl _ _ _ rfl Try.underlying32 info_ii rfl (Own2.lit1 bW O2W) ⟨g, m, none⟩ 0 _ rfl (by simp; omega) ((OW.mono (below_alloc _ _)).news_drop m) (by simp; omega) ((OW.mono (below_alloc _ _)).own_drop m) hpw1.out (fun x hx => OW.new_lit _ _ _ (Nat.le_refl _) x (List.mem_of_mem_drop hx)) (by simp; omega) (by simp; omega) ?_; intro v1 W1 O3 G3 B3 P3; clear B3 P3; have BX := (below_alloc wr (.cells #[.slice ao2 p.length cap2] 22)).grown G3 (by simp) (fun b hb => by simp [Value.ownBlock] at hb; omega); clear G3; rw [hE.out, hUE.out] at O3; obtain ⟨ao3, cap3, rfl⟩ := O3.form; obtain ⟨g3, rfl⟩ := O3.addr hEl; have OW1 := OW.mono BX; have bw1 := BX.size; have bW1 := Nat.le_trans bW bw1)
                | (at_builtin; refine wpl_appN (v := .slice (some ⟨W1.heap.size, 0, none⟩) 0 0) (vs := us.take m) (ys := S.take m) rfl _ _ _ rfl Try.underlying32 info_ii rfl (Own2.lit W1 w1.heap.size bW1) ⟨g, 0, none⟩ m _ rfl (by simp; omega) ((OW1.mono (below_alloc _ _)).news_take m) (by simp; omega) ((OW1.mono (below_alloc _ _)).own_take m) (by rw [List.nil_append]; exact OW1.pairwise.sublist (List.take_sublist _ _)) (fun x hx => OW1.new_lit _ _ _ (Nat.le_refl _) x (List.mem_of_mem_take hx)) (by simp; omega) (by simp; omega) ?_; intro v2 W2 O4 G4 B4 P4; clear B4; have BY := (below_alloc W1 (.cells #[] 22)).grown G4 (by simp) (fun b hb => by simp [Value.ownBlock] at hb; omega); clear G4; have O3' := O3.mono BY; have bW2 := BY.size)
                | (at_builtin; refine wpl_appN (v := v2) (vs := UE) (ys := E) rfl _ _ _ rfl Try.underlying32 info_ii rfl O4 ⟨g3, 0, none⟩ E.length cap3 rfl O3'.len O3'.news_all O3'.len O3'.2.2.2.1 (by rw [← hUE.out, List.nil_append]; exact hpw2.out) (fun x hx b e1 e2 => by have h1 := (O3.mem_lt x hx b e1).2; rcases P4 with P4 | P4 <;> (rw [P4] at e2; simp [Value.ownBlock] at e2; omega)) (by rw [← hE.out]; simp; omega) (by omega) ?_; intro v3 W3 O5 G5 B5 P5; clear G5 P5; rw [List.nil_append, List.nil_append, ← hE.out, HI.out] at O5; obtain ⟨ao5, cap5, rfl⟩ := O5.form; obtain ⟨g5, rfl⟩ := O5.addr hSp; rw [hSn.out] at O5 ⊢; have B6 := ((BW.trans (BX.mono bW)).trans (BY.mono bW1)).trans B5))
              go_roundw
              case rel => exact ⟨k + 1, g5, cap5, _, by omega, by go_num, rfl, O5, B6⟩
              case measure => simp [intOf]; omega
      · obtain rfl : k = (parts zs).length := by omega
        have e : sortTo RD L (parts zs).length = sortD L := by rw [← HLl.out]; rfl
        rw [e] at O
        have HM : Hid (sortD L = sortD ((parts zs).map (canonF n))) := by rw [HLL.out]; rfl
        rw [HM.out] at O
        have hkl : (sortD ((parts zs).map (canonF n))).length = (parts zs).length := by have := sortTo_length RD ((parts zs).map (canonF n)) ((parts zs).map (canonF n)).length; simpa [sortD, sortR] using this
        obtain ⟨T, hT⟩ : ∃ T, T = sortD ((parts zs).map (canonF n)) := ⟨_, rfl⟩
        rw [← hT] at O hkl
        have HQ2 : Hid (∀ b ∈ T, IsL b) := by simp only [Hid]; rw [hT]; exact HQ.out
        have HT2 : Hid (tot T = zs.length - 1) := by simp only [Hid]; rw [hT]; exact HT.out
        have HTT : Hid (rootL T = canonF (n + 1) zs) := by simp only [Hid]; rw [hT]; rfl
        have ht1 : tot T ≤ 12 := by have := HT2.out; omega
        have R2 := O.rd
        rw [← hkl] at R2 ⊢
        have R2' := hid R2
        have O0 := app_lit1 wo wo.heap.size 0 (Nat.le_refl _)
        have hTl : T.length ≤ 12 := by omega
        clear hT hkl e O R2
        go_wp2
        go_loopw [9, 10] (fun r i wr => ∃ k : Nat, k ≤ T.length ∧ i = .int .i64 k ∧ OwnI wo.heap.size wr r (rootL (T.take k)) ∧ Below wo.heap.size wo wr) (fun _ i _ => T.length - (intOf i).toNat)
        case atStart => exact ⟨0, Nat.zero_le _, rfl, O0, below_alloc _ _⟩
        case round =>
          obtain ⟨k, hk, rfl, O, Bz⟩ := hrel
          by_cases hlt : k < T.length
          · obtain ⟨b, off, u, e1, hcell0, hu⟩ := R2'.out.at_ hlt
            cases e1
            have hb0 := World.block_lt_of_cell? wo _ hcell0
            have hc0 := hid hcell0
            have HU := hid hu
            obtain ⟨ao2, cap2, rfl⟩ := hu.form
            have hz := HQ2.out _ (rowAt_mem T k hlt)
            have HZ := hid hz
            have htk := tot_take T k
            have htk1 := tot_take T (k + 1)
            have hlen : (rootL (T.take k)).length = tot (T.take k) + 1 := rootL_length _
            have hlen1 : tot (T.take (k + 1)) = tot (T.take k) + (rowAt T k).length := by
              rw [List.take_succ_eq_append_getElem hlt, rowAt_at T k hlt, tot_append]; simp [tot]
            have HT : Hid ((rootL (T.take k)).length + (rowAt T k).length ≤ 1001) := by simp only [Hid]; omega
            have hrl : (rowAt T k).length ≤ 1000 := by omega
            clear hu hz htk htk1 hlen hlen1 hcell0
            go_wp2
            go_loopw [9, 11] (fun r i wx => ∃ m : Nat, m ≤ (rowAt T k).length ∧ i = .int .i64 m ∧ OwnI wo.heap.size wx r (rootL (T.take k) ++ up ((rowAt T k).take m)) ∧ Below wo.heap.size wo wx) (fun _ i _ => (rowAt T k).length - (intOf i).toNat)
            case atStart => exact ⟨0, Nat.zero_le _, rfl, by simpa [up] using O, Bz⟩
            case round =>
              obtain ⟨m, hm, rfl, O2, B2⟩ := hrel
              have hcell := (B2.cell (p := ⟨g, 0 + k, none⟩) hb0).trans hc0.out
              rw [Nat.zero_add] at hcell
              by_cases hlm : m < (rowAt T k).length
              · obtain ⟨b', off', rfl, hc2⟩ := (HU.out.mono B2).at_ hlm
                have hb := HZ.out.bd m hlm
                have hl2 : (rootL (T.take k) ++ up ((rowAt T k).take m)).length < 1048576 := by have := HT.out; simp [up_length]; omega
                go_wp2_with (at_builtin; refine wpl_app rfl _ _ _ rfl Try.underlying22 info_i64 rfl (O2.mono (below_alloc _ _)) ⟨wr.heap.size, 0, none⟩ 1 _ rfl (cell_new1 _ _ _) hl2 (by have := B2.size; simp; omega) ?_; intro v' W1 O4 G4 B4)
                go_roundw
                case rel => exact ⟨m + 1, by omega, by go_num, by rw [up_take _ _ hlm, ← List.append_assoc]; exact O4, (B2.alloc B2.size _).trans B4⟩
                case measure => simp [intOf]; omega
              · go_wp2
                obtain rfl : m = (rowAt T k).length := by omega
                rw [List.take_length, ← rootL_take T k hlt] at O2
                go_roundw
                case rel => exact ⟨k + 1, by omega, by go_num, O2, B2⟩
                case measure => simp [intOf]; omega
          · go_wp2
            go_ret
            obtain rfl : k = T.length := by omega
            rw [List.take_length, HTT.out] at O
            have b1 := B1.size
            have b2 := Bl.size
            exact ⟨_, rfl, O.lower (by omega), nx (nx B1 Bl) Bz⟩
end Go.Proofs.Ythjdmkjncaemgaa
