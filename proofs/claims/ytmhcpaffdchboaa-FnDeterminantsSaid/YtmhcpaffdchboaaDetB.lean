/-
  The walk of the reference's determinant: five rows and more.
-/
import Derived.Test.YtmhcpaffdchboaaDetS
import Derived.Test.YtmhcpaffdchboaaOrder
namespace Go.Proofs.Ytmhcpaffdchboaa
open Go.RowKit
set_option maxRecDepth 100000
theorem restM_at (A : Mt) (i q k c : Nat) (h : k = if q < i then q else q + 1) : restM A i q c = A k (c + 1) - A k 0 * fi (A i 0) * A i (c + 1) := by
  subst h; rfl
theorem l01MulF_any (a b : F) (w : World) : Calls Try.prog 63 #[.int .i64 (vI a), .int .i64 (vI b)] w fun e w' => e = .returned (.int .i64 (vI (a * b))) ∧ w = w' := by
  have h1 := vI_bd a
  have h2 := vI_bd b
  rw [vI_mul]; exact l01Mul_any _ _ _ h1.1 h1.2 h2.1 h2.2
theorem l01SubF_any (a b : F) (w : World) : Calls Try.prog 66 #[.int .i64 (vI a), .int .i64 (vI b)] w fun e w' => e = .returned (.int .i64 (vI (a - b))) ∧ w = w' := by
  have h1 := vI_bd a
  have h2 := vI_bd b
  rw [vI_sub]; exact l01Sub_any _ _ _ h1.1 h1.2 h2.1 h2.2
set_option maxHeartbeats 4000000 in
theorem l01Det_big (p : Nat) (hp : 4 ≤ p) (hp2 : p ≤ 63) (IH : DetSpec p) : DetSpec (p + 1) := by
  intro M v w h
  obtain ⟨D, hD⟩ : ∃ D, D = det (p + 1) M := ⟨_, rfl⟩
  rw [← hD]
  have HD := hid hD
  clear hD
  obtain ⟨n, hn⟩ : ∃ n, n = p + 1 := ⟨_, rfl⟩
  rw [← hn] at h
  have HN := hid hn
  have H : Hid (RdII w v (matL n n M)) := h
  obtain ⟨ao, cap, rfl, hcap, hmax⟩ := h.formM
  have HI := hid IH
  have d1 : ((n : Int) == 0) = false := by simp; omega
  have d2 : decide ((n : Int) ≤ 4) = false := by simp; omega
  have n1 : 0 < n := by omega
  have n5 : 5 ≤ n := by omega
  have n64 : n ≤ 64 := by omega
  clear h IH hn
  go_enter Try.func41, Try.ntmps41
  go_wp2_with fail
  go_loop [6] (fun i => ∃ i0 : Nat, i0 ≤ n ∧ i = .int .i64 i0 ∧ Hid (∀ r, r < i0 → M r 0 = 0)) (fun i => n - (intOf i).toNat)
  case atStart => exact ⟨0, Nat.zero_le _, rfl, fun r hr => by omega⟩
  case round =>
    obtain ⟨i0, hi, rfl, HZ⟩ := hrel
    by_cases hlt : i0 < n
    rotate_left
    · have hf : decide ((i0 : Int) < (n : Int)) = false := by simp; omega
      have hin : i0 = n := by omega
      go_wp2_with fail
      go_ret
      have : D = 0 := by rw [HD.out]; exact det_zero_col p M (fun i hi' => HZ.out i (by rw [hin, HN.out]; exact hi'))
      rw [this, vI_zero]
      exact ⟨rfl, Below.refl _ _⟩
    have hlt' : (i0 : Int) < (n : Int) := by omega
    obtain ⟨b, off, u, rfl, hcell, hu⟩ := H.out.at_ (k := i0) (by rw [matL_length]; omega)
    rw [matL_row _ _ _ _ (by omega)] at hu
    obtain ⟨aou, capu, rfl, -, -⟩ := hu.formL
    obtain ⟨b', off', rfl, hp0⟩ := hu.at_ (k := 0) (by rw [lst_length]; omega)
    rw [lst_el _ _ _ n1, Nat.add_zero] at hp0
    have HU := hid hu
    clear hu
    by_cases hz : M i0 0 = 0
    · rw [hz, vI_zero] at hp0
      have HZ2 := hid hz
      clear hz
      go_wp2_with fail
      go_round
      case rel => exact ⟨i0 + 1, by omega, by go_num, fun r hr => by
        by_cases h : r = i0
        · rw [h]; exact HZ2.out
        · exact HZ.out r (by omega)⟩
      case measure => simp [intOf]; omega
    have hz' := vI_ne hz
    have HNZ := hid hz
    have HDD : Hid (D = sg i0 * M i0 0 * det p (restM M i0)) := by simp only [Hid]; rw [HD.out]; exact det_clear p i0 (by rw [← HN.out]; exact hlt) M hz
    obtain ⟨E, hE⟩ : ∃ E, E = det p (restM M i0) := ⟨_, rfl⟩
    rw [← hE] at HDD
    have HI2 : Hid (∀ (v : Value) (w : World), RdII w v (matL p p (restM M i0)) → Calls Try.prog 41 #[v] w fun e w' => e = .returned (.int .i64 (vI E)) ∧ Below w.heap.size w w') := by
      intro v w h; rw [hE]; exact HI.out _ v w h
    clear hE hz HZ
    obtain ⟨x0, hx0⟩ : ∃ x0, x0 = M i0 0 := ⟨_, rfl⟩
    rw [← hx0] at hp0 hz' HDD
    have HX0 := hid hx0
    have q0 := vI_bd x0
    have qf := vI_bd (fi x0)
    have qE := vI_bd E
    have HFI : Hid (invM (vI x0) = vI (fi x0)) := by simp only [Hid]; rw [vI_fi]
    clear hx0
    have l1 := World.block_lt_of_cell? _ _ hcell
    have l2 := World.block_lt_of_cell? _ _ hp0
    go_wp2_with (go_at_call 67; refine (l01Inv_any _ _ q0.1 q0.2).mono ?_; rintro e w' ⟨rfl, rfl⟩; rw [HFI.out])
    have HC := hid hcell
    have HP := hid hp0
    clear hcell hp0
    go_loopw [7, 9] (fun r k wr => ∃ (k0 q : Nat) (us : List Value), k0 ≤ n ∧ k = .int .i64 k0 ∧ Hid (q = if k0 ≤ i0 then k0 else k0 - 1) ∧ Own2 w.heap.size wr r us (matL q p (restM M i0)) ∧ Below w.heap.size w wr) (fun _ k _ => n - (intOf k).toNat)
    case atStart => exact ⟨0, 0, [], Nat.zero_le _, rfl, by simp [Hid], Own2.lit w _ (Nat.le_refl _), below_alloc _ _⟩
    case round =>
      obtain ⟨k0, q, us, hk, rfl, HQ, O, Bl⟩ := hrel
      by_cases hkn : k0 < n
      · have hkn' : (k0 : Int) < (n : Int) := by omega
        by_cases hki : k0 = i0
        · have hb : ((k0 : Int) != (i0 : Int)) = false := by rw [hki]; simp
          have HKI := hid hki
          clear hki
          go_wp2_with fail
          go_roundw
          case rel => exact ⟨k0 + 1, q, us, by omega, by go_num, by simp only [Hid]; rw [HQ.out, if_pos (by rw [HKI.out]; omega), if_neg (by rw [HKI.out]; omega)]; rfl, O, Bl⟩
          case measure => simp [intOf]; omega
        · have hb : ((k0 : Int) != (i0 : Int)) = true := by simp; omega
          have HK : Hid (k0 = if q < i0 then q else q + 1) := by
            simp only [Hid]; have := HQ.out
            by_cases hh : k0 ≤ i0
            · rw [if_pos hh] at this; rw [if_pos (by omega)]; omega
            · rw [if_neg hh] at this; rw [if_neg (by omega)]; omega
          have HQ2 : Hid (q + 1 = if k0 + 1 ≤ i0 then k0 + 1 else k0 + 1 - 1) := by
            simp only [Hid]; have := HQ.out
            by_cases hh : k0 ≤ i0
            · rw [if_pos hh] at this; rw [if_pos (by omega)]; omega
            · rw [if_neg hh] at this; rw [if_neg (by omega)]; omega
          have hq64 : q ≤ 64 := by
            have := HQ.out; split at this <;> omega
          have HO := hid O
          have bw0 := Bl.size
          have hmem : Hid (∀ x ∈ us, ∀ b, x.ownBlock = some b → b < wr.heap.size) := O.memb
          clear hki O
          obtain ⟨wo, rfl⟩ : ∃ wo, wo = wr := ⟨_, rfl⟩
          go_wp2_with fail
          go_loopw [10, 11] (fun r j wx => ∃ j0 : Nat, j0 ≤ p ∧ j = .int .i64 ((j0 + 1 : Nat) : Int) ∧ OwnI wo.heap.size wx r (lst j0 (restM M i0 q)) ∧ Below wo.heap.size wo wx) (fun _ j _ => p + 1 - (intOf j).toNat)
          case atStart => exact ⟨0, Nat.zero_le _, rfl, OwnI.lit _ _ (Nat.le_refl _), below_alloc _ _⟩
          case round =>
            obtain ⟨j0, hj, rfl, O2, B2⟩ := hrel
            have BW := nx Bl B2
            by_cases hjp : j0 < p
            · have hj' : (j0 : Int) + 1 < (n : Int) := by have := HN.out; omega
              have hjn : j0 + 1 < n := by have := HN.out; omega
              have t1 : (0 : Int) ≤ (j0 : Int) + 1 := by omega
              have t2 : ((j0 : Int) + 1).toNat = j0 + 1 := by omega
              obtain ⟨_, _, x, e1, hck, hx⟩ := (H.out.mono BW).at_ (k := k0) (by rw [matL_length]; omega)
              cases e1
              rw [matL_row _ _ _ _ (by omega)] at hx
              obtain ⟨aok, capk, rfl, -, -⟩ := hx.formL
              obtain ⟨bk, offk, rfl, hpk0⟩ := hx.at_ (k := 0) (by rw [lst_length]; omega)
              obtain ⟨_, _, e2, hpkj⟩ := hx.at_ (k := j0 + 1) (by rw [lst_length]; omega)
              cases e2
              obtain ⟨_, _, e3, hpij⟩ := (HU.out.mono BW).at_ (k := j0 + 1) (by rw [lst_length]; omega)
              cases e3
              rw [lst_el _ _ _ hjn] at hpkj hpij
              rw [lst_el _ _ _ n1, Nat.add_zero] at hpk0
              have hci := (BW.cell l1).trans HC.out
              obtain ⟨yk, hyk⟩ : ∃ yk, yk = M k0 0 := ⟨_, rfl⟩
              obtain ⟨xk, hxk⟩ : ∃ xk, xk = M k0 (j0 + 1) := ⟨_, rfl⟩
              obtain ⟨xi, hxi⟩ : ∃ xi, xi = M i0 (j0 + 1) := ⟨_, rfl⟩
              have HR : Hid (vI (xk - yk * fi x0 * xi) = vI (restM M i0 q j0)) := by simp only [Hid]; rw [restM_at M i0 q k0 j0 HK.out, hyk, hxk, hxi, HX0.out]
              rw [← hyk] at hpk0
              rw [← hxk] at hpkj
              rw [← hxi] at hpij
              have HO2 := hid O2
              clear hyk hxk hxi hx O2
              go_wp2_with fail
              refine wp_region_start (by kernel_rfl) ?_
              refine wpAny_take (i := 0) (v := ?_) rfl (by kernel_rfl) (by kernel_rfl) (by kernel_rfl) (fun _ _ _ h => h) (Or.inl ⟨by rfl, ?_⟩) ?_
              rotate_left
              (intro wz; go_simp; try with_reducible rfl)
              try simp only [List.getElem_toArray, List.getElem_cons_zero, Act.put, List.setIfInBounds_toArray, List.set_cons_zero, List.set_cons_succ]
              refine wpAny_order [1, 2, 3, 4, 5, 6, 7, 8, 9, 10, 11, 12, 13, 14, 15, 16, 17, 18, 19, 20, 21, 22, 23, 24] 25 [26, 27] (by rfl) (by kernel_rfl) ?_
              simp only [pickOps, List.filterMap_cons, List.filterMap_nil, List.getElem?_toArray, List.getElem?_cons_succ, List.getElem?_cons_zero]
              repeat still_step
              still_call (still_sameL (l01MulF_any yk (fi x0) _))
              repeat still_step
              still_call (still_sameL (l01MulF_any (yk * fi x0) xi _))
              repeat still_step
              still_call (still_sameL (l01SubF_any xk (yk * fi x0 * xi) _))
              refine wpStill_nil ?_
              change wpList _ _ _ _ _ wr.drew
              clear hck hpk0 hpkj hpij hci t1 t2
              refine wpList_plain rfl fun K hK => ?_
              go_simp
              refine hK _ _ ?_
              clear hK K
              refine wpl_app rfl _ _ _ rfl Try.underlying32 info_i64 rfl ((HO2.out.mono (below_alloc _ _)).mono (below_drew _)) ⟨wr.heap.size, 0, none⟩ 1 _ rfl (cell_new1 _ _ _) (by simp; omega) (by have := B2.size; simp; omega) ?_
              intro v' W1 O3 G3 B3
              clear G3
              go_wp2
              go_roundw
              case rel => exact ⟨j0 + 1, by omega, by go_num, O3.snoc HR.out, ((B2.alloc B2.size _).drew).trans B3⟩
              case measure => simp [intOf]; omega
            · have hj' : decide ((j0 : Int) + 1 < (n : Int)) = false := by have := HN.out; simp; omega
              obtain rfl : j0 = p := by omega
              obtain ⟨aor, capr, rfl, -, -⟩ := O2.rd.formL
              have ht1 : (matL q j0 (restM M i0)).length < 1048576 := by rw [matL_length]; omega
              have OB := HO.out.mono B2
              go_wp2_with (at_builtin; refine wpl_app2 (v := u7) (u := .slice aor j0 capr) rfl _ _ _ rfl Try.underlying22 infoLL' rfl (OB.mono (below_alloc _ _)) ⟨wr.heap.size, 0, none⟩ 1 (lst j0 (restM M i0 q)) rfl (cell_new1 _ _ _) ((O2.lower bw0).mono (below_alloc _ _)) (parted_lt wo.heap.size (fun b hb => (O2.own_lt b hb).1) (fun b hb => (HO.out.lt b hb).2)) (fun j' hj' => parted_lt wo.heap.size (fun b hb => (O2.own_lt b hb).1) (fun b hb => hmem.out _ (by rw [← vat_at us j' hj']; exact List.getElem_mem hj') b hb)) ht1 (by have := B2.size; simp; omega) ?_; intro v' W1 O4 G4 B4 P4; clear G4 P4; have B5 := ((BW.alloc (Nat.le_trans bw0 B2.size) (.cells #[.slice aor j0 capr] 32)).trans B4))
              rw [← matL_snoc] at O4
              go_roundw
              case rel => exact ⟨k0 + 1, q + 1, _, by omega, by go_num, HQ2, O4, B5⟩
              case measure => simp [intOf]; omega
      · have hkn' : decide ((k0 : Int) < (n : Int)) = false := by simp; omega
        have hqp : q = p := by
          have h1 := HQ.out
          have h2 := HN.out
          rw [if_neg (by omega)] at h1; omega
        subst hqp
        have hci := (Bl.cell l1).trans HC.out
        have hpi := (Bl.cell l2).trans HP.out
        have m1 := World.block_lt_of_cell? _ _ hci
        have m2 := World.block_lt_of_cell? _ _ hpi
        have HO := hid O
        obtain ⟨ao7, cap7, rfl⟩ := O.form
        clear O HQ
        rw [matL_length] at HO ⊢
        go_wp2_with fail
        go_region_held3 (fun w' => w'.cell? ⟨b, off + i0, none⟩ = some (.slice (some ⟨b', off', none⟩) n capu) ∧ w'.cell? ⟨b', off', none⟩ = some (.int .i64 (vI x0)))
          (first
            | go_keep
            | (go_split_ands
               refine ⟨?_, ?_⟩
               · (rw [B2.cell (p := ⟨b, off + i0, none⟩) m1]; assumption)
               · (rw [B2.cell (p := ⟨b', off', none⟩) m2]; assumption)))
          (first
            | (go_at_call 41; refine (HI2.out _ _ (HO.out.rd.mono (below_drew _))).mono ?_; rintro e w2 ⟨rfl, B2⟩)
            | (go_at_call 63; refine (l01MulF_any x0 E _).mono ?_; rintro e w4 ⟨rfl, rfl⟩))
        have B4 : Below wr.heap.size wr w2 := (below_drew wr).trans B2
        have B5 := nx Bl B4
        have qy := vI_bd (x0 * E)
        clear hci hpi B2 B4
        by_cases hpar : i0 % 2 = 0
        · have hb : ((i0 : Int) % 2 == 1) = false := by simp; omega
          have HT : Hid (D = x0 * E) := by simp only [Hid]; rw [HDD.out, sg_even hpar]; grind
          clear hpar
          go_wp2_with fail
          go_ret
          rw [HT.out]
          exact ⟨rfl, B5⟩
        · have hb : ((i0 : Int) % 2 == 1) = true := by simp; omega
          have HT : Hid ((0 - vI (x0 * E)) % 10007 = vI D) := by
            simp only [Hid]; rw [HDD.out, sg_odd hpar, show -1 * x0 * E = 0 - x0 * E by grind, vI_sub 0, vI_zero]
          clear hpar
          go_wp2_with (go_at_call 66; refine (l01Sub_any 0 _ _ (by omega) (by omega) qy.1 qy.2).mono ?_; rintro e w5 ⟨rfl, rfl⟩; rw [HT.out])
          go_ret
          exact ⟨rfl, B5⟩
theorem l01Det_all (n : Nat) (hn : n ≤ 64) : DetSpec n := by
  induction n with
  | zero => exact l01Det_none
  | succ p ih =>
    by_cases hp : p ≤ 3
    · exact l01Det_small p hp (ih (by omega))
    · exact l01Det_big p (by omega) (by omega) (ih (by omega))
end Go.Proofs.Ytmhcpaffdchboaa
