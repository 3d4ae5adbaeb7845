/-
  The walks of the reference's forests.
-/
import Derived.Test.YtoiangfookhfdaaTreeF
import Derived.Deep.RegionHeld3
namespace Go.Proofs.Ytoiangfookhfdaa
open Go.RowKit
set_option maxRecDepth 100000
set_option maxHeartbeats 4000000 in
theorem l03Sort_any (v : Value) (zss : List (List Int)) (w : World) (h : RdII w v zss) (hp : ∀ z ∈ zss, 0 < z.length) (h12 : zss.length ≤ 12) :
    Calls Try.prog 82 #[v] w fun e w' => ∃ r, e = .returned r ∧ OwnII w.heap.size w' r (sortT zss) ∧ Below w.heap.size w w' := by
  have R := hid h
  have HP := hid hp
  obtain ⟨ao, cap, vs, rfl, hcap, hmax, -⟩ := h
  clear hp
  go_enter Try.func82, Try.ntmps82
  go_wp2
  go_loopw [3, 4] (fun r i wr => ∃ (k g capS : Nat) (us : List Value), k ≤ zss.length ∧ i = .int .i64 k ∧ r = .slice (some ⟨g, 0, none⟩) k capS ∧ Own2 w.heap.size wr (.slice (some ⟨g, 0, none⟩) k capS) us (sortTo ltT zss k) ∧ Below w.heap.size w wr) (fun _ i _ => zss.length - (intOf i).toNat)
  case atStart => exact ⟨0, w.heap.size, 0, [], Nat.zero_le _, rfl, rfl, Own2.litAt rfl (Nat.le_refl _), below_alloc _ _⟩
  case round =>
    obtain ⟨k, g, capS, us, hk, rfl, rfl, O, Bl⟩ := hrel
    obtain ⟨wo, rfl⟩ : ∃ wo, wo = wr := ⟨_, rfl⟩
    by_cases hlt : k < zss.length
    · obtain ⟨b, off, u, rfl, hcell0, hu⟩ := R.out.at_ hlt
      have hb0 := World.block_lt_of_cell? w _ hcell0
      have hc0 := hid hcell0
      have hp0 := HP.out _ (rowAt_mem zss k hlt)
      obtain ⟨p, hpp⟩ : ∃ p, p = rowAt zss k := ⟨_, rfl⟩
      rw [← hpp] at hu hp0
      obtain ⟨aou, capu, rfl⟩ := hu.form
      have HU := hid hu
      have HPP := hid hpp
      clear hpp hu hcell0
      obtain ⟨S, hS⟩ : ∃ S, S = sortTo ltT zss k := ⟨_, rfl⟩
      have hSl : S.length = k := by rw [hS]; exact sortTo_length _ _ _
      have hSl1 : S.length ≤ k := by omega
      have hSl2 : k ≤ S.length := by omega
      rw [← hS] at O
      have hul1 : us.length ≤ k := by have := O.len; omega
      have hul2 : k ≤ us.length := by have := O.len; omega
      have hkc : k ≤ capS := by
        rcases O.1.2 with ⟨e, _⟩ | ⟨_, _, _, e, _, _, h, _⟩
        · simp at e
        · simp at e; omega
      have HSI : Hid (insR ltT p S = sortTo ltT zss (k + 1)) := by
        simp only [Hid]; rw [sortTo, ← hS, HPP.out]
      have hSn : Hid ((sortTo ltT zss (k + 1)).length = k + 1) := sortTo_length _ _ _
      have hSp : 0 < (sortTo ltT zss (k + 1)).length := by rw [hSn.out]; omega
      have HO := hid O
      clear hS hSl O
      go_wp2
      go_loopw [5] (fun i wx => ∃ m : Nat, m ≤ k ∧ i = .int .i64 m ∧ Hid (∀ j, j < m → ltT p (rowAt S j) = false) ∧ Dr wo wx) (fun i _ => k - (intOf i).toNat)
      case atStart => exact ⟨0, Nat.zero_le _, rfl, fun j hj => by omega, Dr.refl _⟩
      case round =>
        obtain ⟨m, hm, rfl, HS, hdr⟩ := hrel
        have OX := HO.out.mono (hdr.below _)
        have BL := Bl.trans (hdr.below w.heap.size)
        have hcell := (BL.cell (p := ⟨b, off + k, none⟩) hb0).trans hc0.out
        have hbk := Nat.lt_of_lt_of_le hb0 BL.size
        have HDR := hid hdr
        clear hdr
        by_cases hlm : m < k
        · have hcm := OX.cell m (by omega)
          have OXm := hid (OX.own m (by omega)).rd
          cases hR : ltT p (rowAt S m) with
          | false =>
            have HLB : Hid (ltT p (rowAt S m) = false) := hR
            clear hR
            go_wp2_with fail
            go_quiet ((go_at_call 60; exact quiet_dr ((l03Before_any _ _ p (rowAt S m) _ (HU.out.mono (below_drewN BL _)) (OXm.out.mono (below_drewN (Below.refl _ _) _))).mono fun _ _ ⟨h, d⟩ => ⟨h.trans (congrArg (fun b => Ending.returned (.bool b)) HLB.out), d⟩)))
            go_wp2
            go_roundw
            case rel =>
              refine ⟨m + 1, by omega, by go_num, fun j hj => ?_, HDR.out.drewN _⟩
              by_cases hjm : j = m
              · rw [hjm]; exact HLB.out
              · exact HS.out j (by omega)
            case measure => simp [intOf]; omega
          | true =>
            have HLB : Hid (ltT p (rowAt S m) = true) := hR
            have HI : Hid (S.take m ++ ([p] ++ S.drop m) = sortTo ltT zss (k + 1)) := by
              simp only [Hid]; rw [← HSI.out, insR_at ltT p S m HS.out (by omega) (.inr hR)]; rfl
            clear hR
            obtain ⟨E, hE'⟩ : ∃ E, E = [p] ++ S.drop m := ⟨_, rfl⟩
            have hE := hid hE'.symm
            have hEl : 0 < E.length := by rw [hE']; simp
            clear hE'
            by_cases hcc : capS = m
            · omega
            · go_wp2_with fail
              go_quiet ((go_at_call 60; exact quiet_dr ((l03Before_any _ _ p (rowAt S m) _ (HU.out.mono (below_drewN BL _)) (OXm.out.mono (below_drewN (Below.refl _ _) _))).mono fun _ _ ⟨h, d⟩ => ⟨h.trans (congrArg (fun b => Ending.returned (.bool b)) HLB.out), d⟩)))
              go_wp2_with fail
              go_region_held3 (fun w' => w'.cell? ⟨b, off + k, none⟩ = some (.slice aou p.length capu))
                (first
                  | go_keep
                  | (go_split_ands; (first | (rw [B3'.cell (p := ⟨b, off + k, none⟩) hbk]; assumption) | (rw [B3.cell (p := ⟨b, off + k, none⟩) hb0]; assumption))))
                (first
                  | (refine step_appN (v := .slice (some ⟨w3.heap.size, 0, none⟩) 1 1) (vs := us.drop m) (ys := S.drop m) (by rfl) _ _ _ (by rfl) Try.underlying28 info_ii (by rfl) (Own2.lit1 bW O2W) ⟨g, m, none⟩ (k - m) _ (by rfl) (by simp; omega) ((OW.mono (below_alloc _ _)).news_drop m) (by simp; omega) ((OW.mono (below_alloc _ _)).own_drop m) hpw1.out (fun x hx => OW.new_lit _ _ _ (Nat.le_refl _) x (List.mem_of_mem_drop hx)) (by simp; omega) (by simp; omega) ?_; intro v1 W1 O3 G3 B3 P3; clear P3; have BX := (below_alloc w3 (.cells #[.slice ao2 p.length cap2] 22)).grown G3 (by simp) (fun b hb => by simp [Value.ownBlock] at hb; omega); clear G3; rw [hE.out, hUE.out] at O3; obtain ⟨ao3, cap3, rfl⟩ := O3.form; obtain ⟨g3, rfl⟩ := O3.addr hEl; have OW1 := OW.mono BX; have bw1 := BX.size; have bW1 := Nat.le_trans bW bw1)
                  | (go_at_call 86; refine (l01Own_any _ p _ (HU.out.mono (below_drewN BL _)) hp0).mono ?_; rintro e w3 ⟨r2, rfl, O2W', B3'⟩; obtain ⟨ao2, cap2, rfl⟩ := O2W'.form; have bl := BL.size; have OW := (OX.mono (below_drewN (Below.refl _ _) _)).mono B3'; have O2W := O2W'.lower bl; have BW := (below_drewN BL _).trans (B3'.mono bl); have bW := BW.size; have hrp : Hid (∀ x ∈ us, Parted (.slice ao2 p.length cap2) x) := fun x hx => parted_lt wr.heap.size (fun b hb => (O2W'.own_lt b hb).1) (fun b hb => (OX.mem_lt x hx b hb).2); obtain ⟨UE, hUE'⟩ : ∃ UE, UE = [Value.slice ao2 p.length cap2] ++ us.drop m := ⟨_, rfl⟩; have hUE := hid hUE'.symm; have hpw1 : Hid (([Value.slice ao2 p.length cap2] ++ us.drop m).Pairwise Parted) := List.pairwise_cons.2 ⟨fun x hx => hrp.out x (List.mem_of_mem_drop hx), OX.pairwise.sublist (List.drop_sublist _ _)⟩; have hpw2 : Hid ((us.take m ++ ([Value.slice ao2 p.length cap2] ++ us.drop m)).Pairwise Parted) := pairwise_ins OX.pairwise hrp.out m; clear hUE' O2W'))
              clear B3 B3'
              go_wp2_with (first
                | (at_builtin; refine wpl_appN (v := .slice (some ⟨W1.heap.size, 0, none⟩) 0 0) (vs := us.take m) (ys := S.take m) rfl _ _ _ rfl Try.underlying28 info_ii rfl (Own2.lit W1 w.heap.size bW1) ⟨g, 0, none⟩ m _ rfl (by simp; omega) ((OW1.mono (below_alloc _ _)).news_take m) (by simp; omega) ((OW1.mono (below_alloc _ _)).own_take m) (by rw [List.nil_append]; exact OW1.pairwise.sublist (List.take_sublist _ _)) (fun x hx => OW1.new_lit _ _ _ (Nat.le_refl _) x (List.mem_of_mem_take hx)) (by simp; omega) (by simp; omega) ?_; intro v2 W2 O4 G4 B4 P4; clear B4; have BY := (below_alloc W1 (.cells #[] 22)).grown G4 (by simp) (fun b hb => by simp [Value.ownBlock] at hb; omega); clear G4; have O3' := O3.mono BY; have bW2 := BY.size)
                | (at_builtin; refine wpl_appN (v := v2) (vs := UE) (ys := E) rfl _ _ _ rfl Try.underlying28 info_ii rfl O4 ⟨g3, 0, none⟩ E.length cap3 rfl O3'.len O3'.news_all O3'.len O3'.2.2.2.1 (by rw [← hUE.out, List.nil_append]; exact hpw2.out) (fun x hx b e1 e2 => by have h1 := (O3.mem_lt x hx b e1).2; rcases P4 with P4 | P4 <;> (rw [P4] at e2; simp [Value.ownBlock] at e2; omega)) (by rw [← hE.out]; simp; omega) (by omega) ?_; intro v3 W3 O5 G5 B5 P5; clear G5 P5; rw [List.nil_append, List.nil_append, ← hE.out, HI.out] at O5; obtain ⟨ao5, cap5, rfl⟩ := O5.form; obtain ⟨g5, rfl⟩ := O5.addr hSp; rw [hSn.out] at O5 ⊢; have B6 := ((BW.trans (BX.mono bW)).trans (BY.mono bW1)).trans B5))
              go_roundw
              case rel => exact ⟨k + 1, g5, cap5, _, by omega, by go_num, rfl, O5, B6⟩
              case measure => simp [intOf]; omega
        · have hmk : m = k := by omega
          have HI : Hid (S.take m ++ ([p] ++ S.drop m) = sortTo ltT zss (k + 1)) := by
            simp only [Hid]; rw [← HSI.out, insR_at ltT p S m HS.out (by omega) (.inl (by omega))]; rfl
          clear hmk
          have hmk1 : k ≤ m := by omega
          obtain ⟨E, hE'⟩ : ∃ E, E = [p] ++ S.drop m := ⟨_, rfl⟩
          have hE := hid hE'.symm
          have hEl : 0 < E.length := by rw [hE']; simp
          clear hE'
          by_cases hcc : capS = m
          · skip
            go_wp2_with fail
            go_quiet (fail)
            go_wp2_with fail
            go_region_held3 (fun w' => w'.cell? ⟨b, off + k, none⟩ = some (.slice aou p.length capu))
              (first
                | go_keep
                | (go_split_ands; (first | (rw [B3'.cell (p := ⟨b, off + k, none⟩) hbk]; assumption) | (rw [B3.cell (p := ⟨b, off + k, none⟩) hb0]; assumption))))
              (first
                | (refine step_appN (v := .slice (some ⟨w3.heap.size, 0, none⟩) 1 1) (vs := us.drop m) (ys := S.drop m) (by rfl) _ _ _ (by rfl) Try.underlying28 info_ii (by rfl) (Own2.lit1 bW O2W) ⟨g, 0, none⟩ 0 _ (by rfl) (by simp; omega) (fun j u hu => by rw [List.drop_eq_nil_of_le (by omega)] at hu; simp at hu) (by simp; omega) ((OW.mono (below_alloc _ _)).own_drop m) hpw1.out (fun x hx => OW.new_lit _ _ _ (Nat.le_refl _) x (List.mem_of_mem_drop hx)) (by simp; omega) (by simp; omega) ?_; intro v1 W1 O3 G3 B3 P3; clear P3; have BX := (below_alloc w3 (.cells #[.slice ao2 p.length cap2] 22)).grown G3 (by simp) (fun b hb => by simp [Value.ownBlock] at hb; omega); clear G3; rw [hE.out, hUE.out] at O3; obtain ⟨ao3, cap3, rfl⟩ := O3.form; obtain ⟨g3, rfl⟩ := O3.addr hEl; have OW1 := OW.mono BX; have bw1 := BX.size; have bW1 := Nat.le_trans bW bw1)
                | (go_at_call 86; refine (l01Own_any _ p _ (HU.out.mono (below_drewN BL _)) hp0).mono ?_; rintro e w3 ⟨r2, rfl, O2W', B3'⟩; obtain ⟨ao2, cap2, rfl⟩ := O2W'.form; have bl := BL.size; have OW := (OX.mono (below_drewN (Below.refl _ _) _)).mono B3'; have O2W := O2W'.lower bl; have BW := (below_drewN BL _).trans (B3'.mono bl); have bW := BW.size; have hrp : Hid (∀ x ∈ us, Parted (.slice ao2 p.length cap2) x) := fun x hx => parted_lt wr.heap.size (fun b hb => (O2W'.own_lt b hb).1) (fun b hb => (OX.mem_lt x hx b hb).2); obtain ⟨UE, hUE'⟩ : ∃ UE, UE = [Value.slice ao2 p.length cap2] ++ us.drop m := ⟨_, rfl⟩; have hUE := hid hUE'.symm; have hpw1 : Hid (([Value.slice ao2 p.length cap2] ++ us.drop m).Pairwise Parted) := List.pairwise_cons.2 ⟨fun x hx => hrp.out x (List.mem_of_mem_drop hx), OX.pairwise.sublist (List.drop_sublist _ _)⟩; have hpw2 : Hid ((us.take m ++ ([Value.slice ao2 p.length cap2] ++ us.drop m)).Pairwise Parted) := pairwise_ins OX.pairwise hrp.out m; clear hUE' O2W'))
            clear B3 B3'
            go_wp2_with (first
              | (at_builtin; refine wpl_appN (v := .slice (some ⟨W1.heap.size, 0, none⟩) 0 0) (vs := us.take m) (ys := S.take m) rfl _ _ _ rfl Try.underlying28 info_ii rfl (Own2.lit W1 w.heap.size bW1) ⟨g, 0, none⟩ m _ rfl (by simp; omega) ((OW1.mono (below_alloc _ _)).news_take m) (by simp; omega) ((OW1.mono (below_alloc _ _)).own_take m) (by rw [List.nil_append]; exact OW1.pairwise.sublist (List.take_sublist _ _)) (fun x hx => OW1.new_lit _ _ _ (Nat.le_refl _) x (List.mem_of_mem_take hx)) (by simp; omega) (by simp; omega) ?_; intro v2 W2 O4 G4 B4 P4; clear B4; have BY := (below_alloc W1 (.cells #[] 22)).grown G4 (by simp) (fun b hb => by simp [Value.ownBlock] at hb; omega); clear G4; have O3' := O3.mono BY; have bW2 := BY.size)
              | (at_builtin; refine wpl_appN (v := v2) (vs := UE) (ys := E) rfl _ _ _ rfl Try.underlying28 info_ii rfl O4 ⟨g3, 0, none⟩ E.length cap3 rfl O3'.len O3'.news_all O3'.len O3'.2.2.2.1 (by rw [← hUE.out, List.nil_append]; exact hpw2.out) (fun x hx b e1 e2 => by have h1 := (O3.mem_lt x hx b e1).2; rcases P4 with P4 | P4 <;> (rw [P4] at e2; simp [Value.ownBlock] at e2; omega)) (by rw [← hE.out]; simp; omega) (by omega) ?_; intro v3 W3 O5 G5 B5 P5; clear G5 P5; rw [List.nil_append, List.nil_append, ← hE.out, HI.out] at O5; obtain ⟨ao5, cap5, rfl⟩ := O5.form; obtain ⟨g5, rfl⟩ := O5.addr hSp; rw [hSn.out] at O5 ⊢; have B6 := ((BW.trans (BX.mono bW)).trans (BY.mono bW1)).trans B5))
            go_roundw
            case rel => exact ⟨k + 1, g5, cap5, _, by omega, by go_num, rfl, O5, B6⟩
            case measure => simp [intOf]; omega
          · go_wp2_with fail
            go_quiet (fail)
            go_wp2_with fail
            go_region_held3 (fun w' => w'.cell? ⟨b, off + k, none⟩ = some (.slice aou p.length capu))
              (first
                | go_keep
                | (go_split_ands; (first | (rw [B3'.cell (p := ⟨b, off + k, none⟩) hbk]; assumption) | (rw [B3.cell (p := ⟨b, off + k, none⟩) hb0]; assumption))))
              (first
                | (refine step_appN (v := .slice (some ⟨w3.heap.size, 0, none⟩) 1 1) (vs := us.drop m) (ys := S.drop m) (by rfl) _ _ _ (by rfl) Try.underlying28 info_ii (by rfl) (Own2.lit1 bW O2W) ⟨g, m, none⟩ 0 _ (by rfl) (by simp; omega) ((OW.mono (below_alloc _ _)).news_drop m) (by simp; omega) ((OW.mono (below_alloc _ _)).own_drop m) hpw1.out (fun x hx => OW.new_lit _ _ _ (Nat.le_refl _) x (List.mem_of_mem_drop hx)) (by simp; omega) (by simp; omega) ?_; intro v1 W1 O3 G3 B3 P3; clear P3; have BX := (below_alloc w3 (.cells #[.slice ao2 p.length cap2] 22)).grown G3 (by simp) (fun b hb => by simp [Value.ownBlock] at hb; omega); clear G3; rw [hE.out, hUE.out] at O3; obtain ⟨ao3, cap3, rfl⟩ := O3.form; obtain ⟨g3, rfl⟩ := O3.addr hEl; have OW1 := OW.mono BX; have bw1 := BX.size; have bW1 := Nat.le_trans bW bw1)
                | (go_at_call 86; refine (l01Own_any _ p _ (HU.out.mono (below_drewN BL _)) hp0).mono ?_; rintro e w3 ⟨r2, rfl, O2W', B3'⟩; obtain ⟨ao2, cap2, rfl⟩ := O2W'.form; have bl := BL.size; have OW := (OX.mono (below_drewN (Below.refl _ _) _)).mono B3'; have O2W := O2W'.lower bl; have BW := (below_drewN BL _).trans (B3'.mono bl); have bW := BW.size; have hrp : Hid (∀ x ∈ us, Parted (.slice ao2 p.length cap2) x) := fun x hx => parted_lt wr.heap.size (fun b hb => (O2W'.own_lt b hb).1) (fun b hb => (OX.mem_lt x hx b hb).2); obtain ⟨UE, hUE'⟩ : ∃ UE, UE = [Value.slice ao2 p.length cap2] ++ us.drop m := ⟨_, rfl⟩; have hUE := hid hUE'.symm; have hpw1 : Hid (([Value.slice ao2 p.length cap2] ++ us.drop m).Pairwise Parted) := List.pairwise_cons.2 ⟨fun x hx => hrp.out x (List.mem_of_mem_drop hx), OX.pairwise.sublist (List.drop_sublist _ _)⟩; have hpw2 : Hid ((us.take m ++ ([Value.slice ao2 p.length cap2] ++ us.drop m)).Pairwise Parted) := pairwise_ins OX.pairwise hrp.out m; clear hUE' O2W'))
            clear B3 B3'
            go_wp2_with (first
              | (at_builtin; refine wpl_appN (v := .slice (some ⟨W1.heap.size, 0, none⟩) 0 0) (vs := us.take m) (ys := S.take m) rfl _ _ _ rfl Try.underlying28 info_ii rfl (Own2.lit W1 w.heap.size bW1) ⟨g, 0, none⟩ m _ rfl (by simp; omega) ((OW1.mono (below_alloc _ _)).news_take m) (by simp; omega) ((OW1.mono (below_alloc _ _)).own_take m) (by rw [List.nil_append]; exact OW1.pairwise.sublist (List.take_sublist _ _)) (fun x hx => OW1.new_lit _ _ _ (Nat.le_refl _) x (List.mem_of_mem_take hx)) (by simp; omega) (by simp; omega) ?_; intro v2 W2 O4 G4 B4 P4; clear B4; have BY := (below_alloc W1 (.cells #[] 22)).grown G4 (by simp) (fun b hb => by simp [Value.ownBlock] at hb; omega); clear G4; have O3' := O3.mono BY; have bW2 := BY.size)
              | (at_builtin; refine wpl_appN (v := v2) (vs := UE) (ys := E) rfl _ _ _ rfl Try.underlying28 info_ii rfl O4 ⟨g3, 0, none⟩ E.length cap3 rfl O3'.len O3'.news_all O3'.len O3'.2.2.2.1 (by rw [← hUE.out, List.nil_append]; exact hpw2.out) (fun x hx b e1 e2 => by have h1 := (O3.mem_lt x hx b e1).2; rcases P4 with P4 | P4 <;> (rw [P4] at e2; simp [Value.ownBlock] at e2; omega)) (by rw [← hE.out]; simp; omega) (by omega) ?_; intro v3 W3 O5 G5 B5 P5; clear G5 P5; rw [List.nil_append, List.nil_append, ← hE.out, HI.out] at O5; obtain ⟨ao5, cap5, rfl⟩ := O5.form; obtain ⟨g5, rfl⟩ := O5.addr hSp; rw [hSn.out] at O5 ⊢; have B6 := ((BW.trans (BX.mono bW)).trans (BY.mono bW1)).trans B5))
            go_roundw
            case rel => exact ⟨k + 1, g5, cap5, _, by omega, by go_num, rfl, O5, B6⟩
            case measure => simp [intOf]; omega
    · go_wp2
      go_ret
      obtain rfl : k = zss.length := by omega
      exact ⟨_, rfl, ⟨us, O⟩, Bl⟩
end Go.Proofs.Ytoiangfookhfdaa
