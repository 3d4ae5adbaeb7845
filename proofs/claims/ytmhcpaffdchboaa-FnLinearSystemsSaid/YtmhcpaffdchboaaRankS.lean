/-
  The walk of the reference's rank.
-/
import Derived.Test.YtmhcpaffdchboaaDetB
import Derived.Test.YtmhcpaffdchboaaRank
import Derived.Deep.RegionHeld3
import Derived.Deep.DeepCutAuto
namespace Go.Proofs.Ytmhcpaffdchboaa
open Go.RowKit
set_option maxRecDepth 100000
theorem rkR_none {k n p : Nat} {B : Mt} (hk : k < n) (hp : 0 < p) (h : findP B k p 0 p = p) : rkR k (n - k) p B = rkR (k + 1) (n - (k + 1)) p B := by
  obtain ⟨f, hf⟩ : ∃ f, n - k = f + 1 := ⟨n - k - 1, by omega⟩
  rw [hf, rkR, if_neg (by omega), if_pos h, show n - (k + 1) = f by omega]
theorem rkR_some {k n p P : Nat} {B : Mt} (hk : k < n) (hp : P < p) (h : findP B k p 0 p = P) : rkR k (n - k) p B = rkR (k + 1) (n - (k + 1)) (p - 1) (elimM B P k) + 1 := by
  obtain ⟨f, hf⟩ : ∃ f, n - k = f + 1 := ⟨n - k - 1, by omega⟩
  rw [hf, rkR, if_neg (by omega), if_neg (by omega), h, show n - (k + 1) = f by omega]
theorem rkR_zero (k f : Nat) (B : Mt) : rkR k f 0 B = 0 := by
  cases f with
  | zero => rfl
  | succ f => rw [rkR, if_pos rfl]
theorem elimM_at (A : Mt) (i k q r c : Nat) (h : r = if q < i then q else q + 1) : elimM A i k q c = A r c - A r k * fi (A i k) * A i c := by
  subst h; rfl
set_option maxHeartbeats 8000000 in
theorem l01Rank_any (m n : Nat) (A : Mt) (v : Value) (w : World) (h : RdII w v (matL m n A)) (hm : m ≤ 64) (hn1 : 1 ≤ n) (hn : n ≤ 64) :
    Calls Try.prog 47 #[v] w fun e w' => e = .returned (.int .i64 ((rkC m n A : Nat) : Int)) ∧ Below w.heap.size w w' := by
  have H := hid h
  obtain ⟨ao, cap, rfl, hcap, hmax⟩ := h.formM
  obtain ⟨R, hR⟩ : ∃ R, R = rkC m n A := ⟨_, rfl⟩
  rw [← hR]
  have HR0 : Hid (R = 0 + rkR 0 (n - 0) m A) := by simp only [Hid]; rw [hR, Nat.sub_zero, rkR_all]; omega
  clear h hR
  go_enter Try.func47, Try.ntmps47
  go_wp2_with fail
  refine (l01Own2_any _ (matL m n A) _ H.out (matL_pos m n A (by omega))).mono ?_
  rintro e w1 ⟨r1, rfl, ⟨us1, O1⟩, B1⟩
  go_wp2_with fail
  go_loopw [3, 4, 5] (fun r q k wr => ∃ (k0 p q0 : Nat) (B : Mt) (us : List Value), k0 ≤ n ∧ q0 + p ≤ m ∧ q = .int .i64 q0 ∧ k = .int .i64 k0 ∧ Own2 w.heap.size wr r us (matL p n B) ∧ Below w.heap.size w wr ∧ Hid (R = q0 + rkR k0 (n - k0) p B)) (fun _ _ k _ => n - (intOf k).toNat)
  case atStart => exact ⟨0, m, 0, A, us1, Nat.zero_le _, by omega, rfl, rfl, O1, B1, HR0⟩
  case round =>
    clear O1 B1 HR0
    obtain ⟨k0, p, q0, B, us, hk, hqp, rfl, rfl, O, Bl, HR⟩ := hrel
    by_cases hp0 : p = 0
    · subst hp0
      have HE : Hid (R = q0) := by simp only [Hid]; rw [HR.out, rkR_zero]; omega
      obtain ⟨ao3, cap3, rfl⟩ := O.form
      rw [matL_length]
      clear O HR
      go_wp2_with fail
      go_ret
      rw [HE.out]
      exact ⟨rfl, Bl⟩
    obtain ⟨ao3, cap3, rfl⟩ := O.form
    obtain ⟨g, rfl⟩ := O.addr (by rw [matL_length]; omega)
    rw [matL_length] at O ⊢
    have hp1 : (0 : Int) < (p : Int) := by omega
    have hp2 : 0 < p := by omega
    have hw0 := O.own 0 (by rw [matL_length]; omega)
    rw [matL_row p n B 0 (by omega)] at hw0
    obtain ⟨ao0, cap0, hv0, -, -⟩ := hw0.rd.formL
    have hc0 := O.cell 0 (by rw [matL_length]; omega)
    rw [hv0] at hc0
    clear hw0 hv0
    by_cases hkn : k0 < n
    rotate_left
    · have hd : decide ((k0 : Int) < (n : Int)) = false := by simp; omega
      have HE : Hid (R = q0) := by simp only [Hid]; rw [HR.out, show n - k0 = 0 by omega, rkR]; omega
      clear O HR
      go_wp2_with fail
      go_ret
      rw [HE.out]
      exact ⟨rfl, Bl⟩
    have hkn' : (k0 : Int) < (n : Int) := by omega
    obtain ⟨P, hP⟩ : ∃ P, P = findP B k0 p 0 p := ⟨_, rfl⟩
    obtain ⟨-, p2, p3, p4⟩ := findP_spec B k0 p 0 p (by omega)
    rw [← hP] at p2 p3 p4
    have HP := hid hP.symm
    have HP3 := hid p3
    have HP4 := hid p4
    have HO := hid O
    clear hP p3 p4 O
    go_wp2_with fail
    clear hc0
    go_loop [6, 7] (fun pv i => ∃ (i0 : Nat) (z : Int), i0 ≤ p ∧ i = .int .i64 i0 ∧ pv = .int .i64 z ∧ ((P < i0 ∧ z = P) ∨ (i0 ≤ P ∧ z = -1))) (fun _ i => p - (intOf i).toNat)
    case atStart => exact ⟨0, -1, Nat.zero_le _, rfl, rfl, .inr ⟨Nat.zero_le _, rfl⟩⟩
    case round =>
      obtain ⟨i0, z, hi, rfl, rfl, hz⟩ := hrel
      by_cases hip : i0 < p
      · have hip' : (i0 : Int) < (p : Int) := by omega
        rcases hz with ⟨h1, rfl⟩ | ⟨h1, rfl⟩
        · have hb : decide ((P : Int) < 0) = false := by simp
          go_wp2_with fail
          go_round
          case rel => exact ⟨i0 + 1, P, by omega, by go_num, rfl, .inl ⟨by omega, rfl⟩⟩
          case measure => simp [intOf]; omega
        · have hwi := HO.out.own i0 (by rw [matL_length]; omega)
          rw [matL_row p n B i0 (by omega)] at hwi
          obtain ⟨aoi, capi, hvi, -, -⟩ := hwi.rd.formL
          have hci := HO.out.cell i0 (by rw [matL_length]; omega)
          have hri := hwi.rd
          rw [hvi] at hci hri
          obtain ⟨bi, offi, rfl, hpi⟩ := hri.at_ (k := k0) (by rw [lst_length]; omega)
          rw [lst_el _ _ _ hkn] at hpi
          clear hwi hvi hri
          by_cases hB : B i0 k0 = 0
          · rw [hB, vI_zero] at hpi
            have hne : P ≠ i0 := fun e => HP3.out (by omega) (by rw [e]; exact hB)
            clear hB
            go_wp2_with fail
            go_round
            case rel => exact ⟨i0 + 1, -1, by omega, by go_num, rfl, .inr ⟨by omega, rfl⟩⟩
            case measure => simp [intOf]; omega
          · have hB' := vI_ne hB
            have he : P = i0 := by
              rcases Nat.lt_or_ge i0 P with h | h
              · exact absurd (HP4.out i0 (by omega) h) hB
              · omega
            clear hB
            go_wp2_with fail
            go_round
            case rel => exact ⟨i0 + 1, i0, by omega, by go_num, rfl, .inl ⟨by omega, by rw [he]⟩⟩
            case measure => simp [intOf]; omega
      · obtain rfl : i0 = p := by omega
        have hd : decide ((i0 : Int) < (i0 : Int)) = false := by simp
        rcases hz with ⟨h1, rfl⟩ | ⟨h1, rfl⟩
        rotate_left
        · have hPp : P = i0 := by omega
          have HN : Hid (R = q0 + rkR (k0 + 1) (n - (k0 + 1)) i0 B) := by
            simp only [Hid]; rw [HR.out, rkR_none hkn hp2 (by rw [HP.out, hPp])]
          clear hPp
          go_wp2_with fail
          go_roundw
          case rel => exact ⟨k0 + 1, i0, q0, B, us, by omega, hqp, rfl, by go_num, HO.out, Bl, HN⟩
          case measure => simp [intOf]; omega
        have hb : decide ((P : Int) < 0) = false := by simp
        have hPi : (P : Int) < (i0 : Int) := by omega
        have HN : Hid (R = (q0 + 1) + rkR (k0 + 1) (n - (k0 + 1)) (i0 - 1) (elimM B P k0)) := by
          simp only [Hid]; rw [HR.out, rkR_some hkn h1 HP.out]; omega
        have hwP := HO.out.own P (by rw [matL_length]; omega)
        rw [matL_row i0 n B P (by omega)] at hwP
        obtain ⟨aoP, capP, hvP, -, -⟩ := hwP.rd.formL
        have hcP := HO.out.cell P (by rw [matL_length]; omega)
        have hrP := hwP.rd
        rw [hvP] at hcP hrP
        obtain ⟨bP, offP, rfl, -⟩ := hrP.at_ (k := k0) (by rw [lst_length]; omega)
        have HRP := hid hrP
        have bw0 := Bl.size
        clear hwP hvP hrP HR
        obtain ⟨w0, rfl⟩ : ∃ w0, w0 = wr := ⟨_, rfl⟩
        go_wp2_with fail
        go_loopw [9, 10] (fun r i wr => ∃ (i1 q1 : Nat) (us' : List Value), i1 ≤ i0 ∧ i = .int .i64 i1 ∧ Hid (q1 = if i1 ≤ P then i1 else i1 - 1) ∧ Own2 w0.heap.size wr r us' (matL q1 n (elimM B P k0)) ∧ Below w0.heap.size w0 wr) (fun _ i _ => i0 - (intOf i).toNat)
        case atStart => exact ⟨0, 0, [], Nat.zero_le _, rfl, by simp [Hid], Own2.litAt rfl (Nat.le_refl _), below_alloc _ _⟩
        case round =>
          clear hcP
          obtain ⟨i1, q1, us', hi1, rfl, HQ, O3, B3⟩ := hrel
          by_cases hin : i1 < i0
          · have hin' : (i1 : Int) < (i0 : Int) := by omega
            by_cases hiP : i1 = P
            · have hb2 : ((i1 : Int) == (P : Int)) = true := by rw [hiP]; simp
              have HIP := hid hiP
              clear hiP
              go_wp2_with fail
              go_roundw
              case rel => exact ⟨i1 + 1, q1, us', by omega, by go_num, by simp only [Hid]; rw [HQ.out, if_pos (by rw [HIP.out]; omega), if_neg (by rw [HIP.out]; omega)]; rfl, O3, B3⟩
              case measure => simp [intOf]; omega
            · have hb2 : ((i1 : Int) == (P : Int)) = false := by simp; omega
              have HK : Hid (i1 = if q1 < P then q1 else q1 + 1) := by
                simp only [Hid]; have := HQ.out
                by_cases hh : i1 ≤ P
                · rw [if_pos hh] at this; rw [if_pos (by omega)]; omega
                · rw [if_neg hh] at this; rw [if_neg (by omega)]; omega
              have HQ2 : Hid (q1 + 1 = if i1 + 1 ≤ P then i1 + 1 else i1 + 1 - 1) := by
                simp only [Hid]; have := HQ.out
                by_cases hh : i1 ≤ P
                · rw [if_pos hh] at this; rw [if_pos (by omega)]; omega
                · rw [if_neg hh] at this; rw [if_neg (by omega)]; omega
              have hq64 : q1 ≤ 64 := by have := HQ.out; split at this <;> omega
              obtain ⟨w2, rfl⟩ : ∃ w2, w2 = wr := ⟨_, rfl⟩
              have OR := HO.out.mono B3
              have hci := OR.cell i1 (by rw [matL_length]; omega)
              have hwi := OR.own i1 (by rw [matL_length]; omega)
              rw [matL_row i0 n B i1 (by omega)] at hwi
              obtain ⟨aoi, capi, hvi, -, -⟩ := hwi.rd.formL
              have hri := hwi.rd
              rw [hvi] at hci hri
              obtain ⟨bi, offi, rfl, hpi⟩ := hri.at_ (k := k0) (by rw [lst_length]; omega)
              obtain ⟨_, _, e1, hpP⟩ := (HRP.out.mono B3).at_ (k := k0) (by rw [lst_length]; omega)
              cases e1
              rw [lst_el _ _ _ hkn] at hpi hpP
              obtain ⟨xi, hxi⟩ : ∃ xi, xi = B i1 k0 := ⟨_, rfl⟩
              obtain ⟨xP, hxP⟩ : ∃ xP, xP = B P k0 := ⟨_, rfl⟩
              have HXI := hid hxi
              have HXP := hid hxP
              rw [← hxi] at hpi
              rw [← hxP] at hpP
              have qP := vI_bd xP
              have HFI : Hid (invM (vI xP) = vI (fi xP)) := by simp only [Hid]; rw [vI_fi]
              have HRI := hid hri
              have HO3 := hid O3
              have bw2 := B3.size
              have hmem : Hid (∀ x ∈ us', ∀ b, x.ownBlock = some b → b < w2.heap.size) := O3.memb
              clear hxi hxP hwi hvi hri OR O3
              go_upto_region 18 with fail
              go_cut [11, 12] (fun f r wx => f = .int .i64 (vI (xi * fi xP)) ∧ OwnI w2.heap.size wx r [] ∧ Below w2.heap.size w2 wx)
              case first =>
                go_region_held3 (fun w' => w'.cell? ⟨g, i1, none⟩ = some (.slice (some ⟨bi, offi, none⟩) n capi) ∧ w'.cell? ⟨bi, offi + k0, none⟩ = some (.int .i64 (vI xi)) ∧ w'.cell? ⟨bP, offP + k0, none⟩ = some (.int .i64 (vI xP)))
                  (go_keep)
                  (first
                    | (go_at_call 67; refine (l01Inv_any _ _ qP.1 qP.2).mono ?_; rintro e w' ⟨rfl, rfl⟩; rw [HFI.out])
                    | (go_at_call 63; refine (l01MulF_any xi (fi xP) _).mono ?_; rintro e w' ⟨rfl, rfl⟩))
                all_goals (go_wp2_with fail; go_meet)
                all_goals exact ⟨rfl, (OwnI.litAt rfl (Nat.le_refl _)).mono (below_drew _), (below_alloc _ _).drew⟩
              case rest =>
                obtain ⟨rfl, O4, B4⟩ := hcut
                clear hci hpi hpP
                go_wp2_with fail
                go_loopw [12, 13] (fun r j wx => ∃ j0 : Nat, j0 ≤ n ∧ j = .int .i64 j0 ∧ OwnI w2.heap.size wx r (lst j0 (elimM B P k0 q1)) ∧ Below w2.heap.size w2 wx) (fun _ j _ => n - (intOf j).toNat)
                case atStart => exact ⟨0, Nat.zero_le _, rfl, O4, B4⟩
                case round =>
                  clear O4 B4
                  obtain ⟨j0, hj, rfl, O5, B5⟩ := hrel
                  have B35 := nx B3 B5
                  by_cases hjn : j0 < n
                  · have hjn' : (j0 : Int) < (n : Int) := by omega
                    have hci := (HO.out.mono B35).cell i1 (by rw [matL_length]; omega)
                    have hwi := (HO.out.mono B35).own i1 (by rw [matL_length]; omega)
                    rw [matL_row i0 n B i1 (by omega)] at hwi
                    obtain ⟨aok, capk, hvk, -, -⟩ := hwi.rd.formL
                    have hri := hwi.rd
                    rw [hvk] at hci hri
                    obtain ⟨bk, offk, rfl, hpij⟩ := hri.at_ (k := j0) (by rw [lst_length]; omega)
                    obtain ⟨_, _, e2, hpPj⟩ := (HRP.out.mono B35).at_ (k := j0) (by rw [lst_length]; omega)
                    cases e2
                    rw [lst_el _ _ _ hjn] at hpij hpPj
                    obtain ⟨yi, hyi⟩ : ∃ yi, yi = B i1 j0 := ⟨_, rfl⟩
                    obtain ⟨yP, hyP⟩ : ∃ yP, yP = B P j0 := ⟨_, rfl⟩
                    have HV : Hid (vI (yi - xi * fi xP * yP) = vI (elimM B P k0 q1 j0)) := by simp only [Hid]; rw [elimM_at B P k0 q1 i1 j0 HK.out, hyi, hyP, HXI.out, HXP.out]
                    rw [← hyi] at hpij
                    rw [← hyP] at hpPj
                    have HO5 := hid O5
                    clear hyi hyP hwi hvk hri O5
                    go_wp2_with fail
                    refine wp_region_start (by kernel_rfl) ?_
                    refine wpAny_take (i := 0) (v := ?_) rfl (by kernel_rfl) (by kernel_rfl) (by kernel_rfl) (fun _ _ _ h => h) (Or.inl ⟨by rfl, ?_⟩) ?_
                    rotate_left
                    (intro wz; go_simp; try with_reducible rfl)
                    try simp only [List.getElem_toArray, List.getElem_cons_zero, Act.put, List.setIfInBounds_toArray, List.set_cons_zero, List.set_cons_succ]
                    refine wpAny_order [1, 2, 3, 4, 5, 6, 7, 8, 9, 10, 11, 12, 13, 14] 15 [16, 17] (by rfl) (by kernel_rfl) ?_
                    simp only [pickOps, List.filterMap_cons, List.filterMap_nil, List.getElem?_toArray, List.getElem?_cons_succ, List.getElem?_cons_zero]
                    repeat still_step
                    still_call (still_sameL (l01MulF_any (xi * fi xP) yP _))
                    still_call (still_sameL (l01SubF_any yi (xi * fi xP * yP) _))
                    refine wpStill_nil ?_
                    change wpList _ _ _ _ _ wr.drew
                    clear hci hpij hpPj
                    refine wpList_plain rfl fun K hK => ?_
                    go_simp
                    refine hK _ _ ?_
                    clear hK K
                    refine wpl_app rfl _ _ _ rfl Try.underlying32 info_i64 rfl ((HO5.out.mono (below_alloc _ _)).mono (below_drew _)) ⟨wr.heap.size, 0, none⟩ 1 _ rfl (cell_new1 _ _ _) (by simp; omega) (by have := B5.size; simp; omega) ?_
                    intro v' W1 O6 G6 B6
                    clear G6
                    go_wp2
                    go_roundw
                    case rel => exact ⟨j0 + 1, by omega, by go_num, O6.snoc HV.out, ((B5.alloc B5.size _).drew).trans B6⟩
                    case measure => simp [intOf]; omega
                  · obtain rfl : j0 = n := by omega
                    have hd3 : decide ((j0 : Int) < (j0 : Int)) = false := by simp
                    obtain ⟨aor, capr, rfl, -, -⟩ := O5.rd.formL
                    have ht1 : (matL q1 j0 (elimM B P k0)).length < 1048576 := by rw [matL_length]; omega
                    have OB := HO3.out.mono B5
                    have bw5 := B5.size
                    go_wp2_with (at_builtin; refine wpl_app2 (v := u9) (u := .slice aor j0 capr) rfl _ _ _ rfl Try.underlying22 infoLL' rfl (OB.mono (below_alloc _ _)) ⟨wr.heap.size, 0, none⟩ 1 (lst j0 (elimM B P k0 q1)) rfl (cell_new1 _ _ _) ((O5.lower bw2).mono (below_alloc _ _)) (parted_lt w2.heap.size (fun b hb => (O5.own_lt b hb).1) (fun b hb => (HO3.out.lt b hb).2)) (fun j' hj' => parted_lt w2.heap.size (fun b hb => (O5.own_lt b hb).1) (fun b hb => hmem.out _ (by rw [← vat_at us' j' hj']; exact List.getElem_mem hj') b hb)) ht1 (by simp; omega) ?_; intro v' W1 O4 G4 B4 P4; clear G4 P4; have B6 := ((B35.alloc (Nat.le_trans bw2 bw5) (.cells #[.slice aor j0 capr] 32)).trans B4))
                    rw [← matL_snoc] at O4
                    go_roundw
                    case rel => exact ⟨i1 + 1, q1 + 1, _, by omega, by go_num, HQ2, O4, B6⟩
                    case measure => simp [intOf]; omega
          · obtain rfl : i1 = i0 := by omega
            have hd2 : decide ((i1 : Int) < (i1 : Int)) = false := by simp
            have hq1 : q1 = i1 - 1 := by have := HQ.out; rw [if_neg (by omega)] at this; exact this
            rw [hq1] at O3
            clear hq1
            go_wp2_with fail
            go_roundw
            case rel => exact ⟨k0 + 1, i1 - 1, q0 + 1, elimM B P k0, us', by omega, by omega, by go_num, by go_num, O3.lower bw0, nx Bl B3, HN⟩
            case measure => simp [intOf]; omega
end Go.Proofs.Ytmhcpaffdchboaa
