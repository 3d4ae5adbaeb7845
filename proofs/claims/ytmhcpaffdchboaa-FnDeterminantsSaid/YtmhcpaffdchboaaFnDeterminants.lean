/-
  The law FnDeterminants is proved of the program: for every input the call returns true, and each argument reads afterwards as it read before. Its one condition: the arguments can be read as data.
-/
import Derived.Test.YtmhcpaffdchboaaRows
import Derived.Test.YtmhcpaffdchboaaLawM
import Derived.Test.YtmhcpaffdchboaaDrawM
import Derived.Test.YtmhcpaffdchboaaInvS
import Derived.Test.YtmhcpaffdchboaaDetTop
import Derived.Test.YtmhcpaffdchboaaDice
import Derived.WalkKit
import Derived.ProofKit
import Derived.OpenShut
import Derived.ShutString
import Derived.ChangeOld
import Derived.Below
namespace Go.Proofs.Ytmhcpaffdchboaa.fnDeterminants
open Go.ChangeShapes Go.WideShapes Go.ChangeAt Go.RowKit
open Go.ChangeMaps (open_string shut_string)
set_option linter.unusedVariables false
theorem own : ownKnob Try.prog.godebug = none := by kernel_rfl
theorem laidOut : laidOutB Try.prog = true := by kernel_rfl
theorem invR_code {n : Nat} {M : Mt} (h1 : 1 ≤ n) (h8 : n ≤ 8) (h : det n M ≠ 0) : ∃ V : Mt, invR (matL n n M) = (matL n n V, 0) ∧ mulM n M V = mulM n M V ∧ matL n n (mulM n M V) = matL n n idM ∧ matL n n (mulM n V M) = matL n n idM := by
  have hd : det n (mtOf (matL n n M)) ≠ 0 := by rw [det_congr n (mtOf_matL n n M)]; exact h
  obtain ⟨e1, e2⟩ := okI_inv ((okI_det n _).2 hd)
  refine ⟨invMt n (mtOf (matL n n M)), by rw [invR_matL n M h1 h8, if_pos h], rfl, ?_, ?_⟩
  · refine matL_congr fun r c hr hc => ?_
    rw [← e1 r c hr hc]
    exact sF_congr n fun i hi => by rw [mtOf_matL n n M r i hr hi]
  · refine matL_congr fun r c hr hc => ?_
    rw [← e2 r c hr hc]
    exact sF_congr n fun i hi => by rw [mtOf_matL n n M i c hi hc]
theorem rows_matL {zss : List (List Int)} {n : Nat} (hl : zss.length = n) (h : ∀ z ∈ zss, z.length = n ∧ Nums z) : zss = matL n n (mtOf zss) := by
  apply List.ext_getElem (by rw [matL_length, hl])
  intro r h1 h2
  rw [rowAt_at zss r h1]
  simp only [matL, List.getElem_map, List.getElem_range]
  obtain ⟨a, b⟩ := h _ (rowAt_in zss r h1)
  have e : lst (rowAt zss r).length (ser (rowAt zss r)) = rowAt zss r := lst_ser b
  rw [a] at e
  exact e.symm
set_option maxRecDepth 100000 in
set_option maxHeartbeats 4000000 in
theorem walk {w : World} (v0 : Value) (i0 : InB w v0) :
    Calls Try.prog 7 #[v0] w fun e w' => e = .returned (.bool true) ∧ Below w.heap.size w w' := by
  obtain ⟨ao0, n0, cap0, rfl, hn0, hin⟩ := i0
  by_cases hs0 : n0 ≤ 4096
  rotate_left
  · clear hin
    have hs0 : 4096 < n0 := by omega
    go_enter Try.func7, Try.ntmps7
    go_wp2_with fail
    refine (big_any ao0 n0 cap0 _ hn0).mono ?_
    rintro e w1 ⟨rfl, rfl⟩
    rw [show decide (4096 < n0) = true by simp; omega]
    go_wp2
    go_ret
    exact ⟨rfl, Below.refl _ _⟩
  have C0 := hid (hin hs0)
  clear hin
  go_enter Try.func7, Try.ntmps7
  go_wp2_with fail
  refine (big_any ao0 n0 cap0 _ hn0).mono ?_
  rintro e w1 ⟨rfl, rfl⟩
  rw [show decide (4096 < n0) = false by simp; omega]
  go_wp2_with fail
  refine (drawDeterminant_any _ n0 _ C0.out).mono ?_
  rintro e w1 ⟨ra, a, rfl, RA, hD, B1⟩
  have T := B1
  have hta : tot a ≤ 1048576 := by have := hD.tot; omega
  have R_a := hid RA
  clear RA hD B1
  go_wp2_with fail
  refine (determinantTop_any _ a _ R_a.out hta).mono ?_
  rintro e w2 ⟨rfl, B2⟩
  replace R_a := hid (R_a.out.mono B2)
  replace T := nx T B2
  go_wp2_with fail
  refine (sDeterminant_any _ a _ R_a.out hta).mono ?_
  rintro e w3 ⟨rfl, B3⟩
  replace R_a := hid (R_a.out.mono B3)
  replace T := nx T B3
  have HSQ := hid (@square_of a)
  have HDR := hid (fun h1 h8 => detR_matL a.length (mtOf a) h1 h8)
  obtain ⟨d, hd⟩ : ∃ d, d = detR a := ⟨_, rfl⟩
  rw [← hd] at HSQ ⊢
  have HDD := hid hd
  clear hd B2 B3
  have hee1 : (d.2 != d.2) = false := by simp
  have hee2 : (d.1 != d.1) = false := by simp
  by_cases hc : d.2 = 0
  rotate_left
  · have hcb : (d.2 != 0) = true := by simpa using hc
    clear hc
    go_wp2_with fail
    go_ret
    exact ⟨rfl, T⟩
  obtain ⟨h1, h8, ea⟩ := HSQ.out hc
  obtain ⟨n, hn⟩ : ∃ n, n = a.length := ⟨_, rfl⟩
  obtain ⟨A, hA⟩ : ∃ A, A = mtOf a := ⟨_, rfl⟩
  rw [← hn] at h1 h8
  have HA : Hid (a = matL n n A) := by simp only [Hid]; rw [hn, hA]; exact ea
  have HD1 : Hid (d = (vI (det n A), 0)) := by
    simp only [Hid]; rw [HDD.out, HA.out]; exact detR_matL n A h1 h8
  clear ea HSQ HDR HDD hc hn hA
  rw [HA.out] at R_a hta
  clear HA
  rw [HD1.out]
  clear HD1 hee1 hee2 d
  have R_a : Hid (RdII w3 ra (matL n n A)) := R_a
  have hqA := vI_bd (det n A)
  obtain ⟨x, hx⟩ : ∃ x, x = det n A := ⟨_, rfl⟩
  rw [← hx] at hqA ⊢
  have HX := hid hx
  clear hx
  obtain ⟨aoa, capa, rfl, -, -⟩ := R_a.out.formM
  go_wp2_with fail
  refine (roll_any _ n0 603 _ ((C0.out.mono T).lower T.size) (by omega) (by omega)).mono ?_
  rintro e w4 ⟨rfl, S4, B4⟩
  have R4 := hid (R_a.out.mono B4)
  have T4 := nx T B4
  have hdb := S4.lt
  have hs4 := B4.size
  obtain ⟨db, hdbe⟩ : ∃ db, db = w3.heap.size := ⟨_, rfl⟩
  rw [← hdbe] at S4 hdb ⊢
  have HDB := hid hdbe
  have HS4 := hid S4
  clear hdbe S4
  go_wp2_with fail
  go_loopw [9, 10] (fun o i wr => ∃ (k : Nat) (us : List Value) (zss : List (List Int)), k ≤ n ∧ i = .int .i64 k ∧ Hid (zss.length = k) ∧ Hid (∀ z ∈ zss, z.length = n ∧ Nums z) ∧ Own2 w4.heap.size wr o us zss ∧ Src 65 db (.slice ao0 n0 cap0) wr ∧ w4.grownBy wr (some db)) (fun _ i _ => n - (intOf i).toNat)
  case atStart => exact ⟨0, [], [], Nat.zero_le _, rfl, rfl, (fun z hz => by cases hz), Own2.lit w4 _ (Nat.le_refl _), HS4.out.alloc _, gb_alloc (grown_refl _ _) _⟩
  case round =>
    obtain ⟨k, us, zss, hk, rfl, HZL, HZ, O, S, G⟩ := hrel
    by_cases hlt : k < n
    · have hlt' : (k : Int) < (n : Int) := by omega
      have hG := G.size
      have HO := hid O
      have hl1 : zss.length < 1048576 := by have := HZL.out; omega
      clear O
      go_wp2_with fail
      refine (list5_any db _ n _ S (by omega)).mono ?_
      rintro e w5 ⟨r1, xs, rfl, O1, hx, hxl, S1, G1⟩
      have O2 := HO.out.away G1 hdb
      have hG1 := G1.size
      have HX := hid hx
      have HXL := hid hxl
      have GG := grown_trans G G1
      clear hx hxl
      obtain ⟨ao1, cap1, rfl⟩ := O1.form
      have hpr : Parted (.slice ao1 xs.length cap1) u9 := parted_lt wr.heap.size (fun b hb => (O1.own_lt b hb).1) (fun b hb => (HO.out.lt b hb).2)
      have hpv : Hid (∀ j, j < us.length → Parted (.slice ao1 xs.length cap1) (vat us j)) := fun j hj => parted_lt wr.heap.size (fun b hb => (O1.own_lt b hb).1) (fun b hb => ((HO.out.own j (by have := HO.out.len; omega)).own_lt b hb).2)
      go_wp2_with (at_builtin; refine wpl_app2 (v := u9) (u := .slice ao1 xs.length cap1) rfl _ _ _ rfl Try.underlying22 infoLL' rfl (O2.mono (below_alloc _ _)) ⟨w5.heap.size, 0, none⟩ 1 xs rfl (cell_new1 _ _ _) ((O1.lower hG).mono (below_alloc _ _)) hpr hpv.out hl1 (by simp; omega) ?_; intro v' W1 O4 G4 B4 P4; clear P4)
      have hlt4 := O2.lt
      have S4 := (S1.alloc (.cells #[.slice ao1 xs.length cap1] 32)).grown G4 (fun r hr => by have := hlt4 r hr; omega)
      have G5 := gb_then (gb_alloc GG (.cells #[.slice ao1 xs.length cap1] 32)) G4 (fun r hr => .inl (hlt4 r hr).1)
      clear G4 B4 hlt4
      go_roundw
      case rel => exact ⟨k + 1, _, _, by omega, by go_num, by simp only [Hid]; rw [List.length_append, HZL.out]; rfl, (fun z hz => by
        rcases List.mem_append.1 hz with h | h
        · exact HZ.out z h
        · simp at h; subst h; exact ⟨HXL.out, HX.out⟩), O4, S4, G5⟩
      case measure => simp [intOf]; omega
    · obtain rfl : k = n := by omega
      have hd : decide ((k : Int) < (k : Int)) = false := by simp
      have eB := rows_matL HZL.out HZ.out
      obtain ⟨B, hB⟩ : ∃ B, B = mtOf zss := ⟨_, rfl⟩
      rw [← hB] at eB
      have RB : RdII wr u9 (matL k k B) := by rw [← eB]; exact O.rd
      have RA : RdII wr (.slice aoa k capa) (matL k k A) := R_a.out.mono (below_of_grow B4 G (Nat.le_of_eq HDB.out.symm) hs4)
      have TT : Below w.heap.size w wr := below_of_grow T4 G (by rw [HDB.out]; exact T.size) T4.size
      obtain ⟨aob, capb, rfl, -, -⟩ := RB.formM
      have R_b := hid RB
      have R_c := hid RA
      have htA : tot (matL k k A) ≤ 1048576 := by rw [tot_matL]; exact Nat.le_trans (Nat.mul_le_mul h8 h8) (by decide)
      have htB : tot (matL k k B) ≤ 1048576 := by rw [tot_matL]; exact Nat.le_trans (Nat.mul_le_mul h8 h8) (by decide)
      clear O S G eB hB RB RA HZ HZL
      have HdB := hid (detR_matL k B h1 h8)
      obtain ⟨y, hy⟩ : ∃ y, y = det k B := ⟨_, rfl⟩
      rw [← hy] at HdB
      have qy := vI_bd y
      have HY := hid hy
      clear hy
      go_wp2_with fail
      refine (determinantTop_any _ (matL k k B) _ R_b.out htB).mono ?_
      rintro e w6 ⟨rfl, B6⟩
      rw [HdB.out]
      replace R_b := hid (R_b.out.mono B6)
      replace R_c := hid (R_c.out.mono B6)
      replace TT := nx TT B6
      have HM := hid (mmR_matL k A B h1 h8)
      go_wp2_with fail
      refine (multiplyMatrices_any _ _ (matL k k A) (matL k k B) _ R_c.out R_b.out htA htB).mono ?_
      rintro e w7 ⟨rp, rfl, Op, B7⟩
      rw [HM.out] at Op ⊢
      replace R_c := hid (R_c.out.mono B7)
      replace TT := nx TT B7
      have R_p : Hid (RdII w7 rp (matL k k (mulM k A B))) := Op.rd
      clear Op R_b
      have HdP : Hid (detR (matL k k (mulM k A B)) = (vI (x * y), 0)) := by simp only [Hid]; rw [detR_matL k _ h1 h8, det_mul, ← HX.out, ← HY.out]
      have htP : tot (matL k k (mulM k A B)) ≤ 1048576 := by rw [tot_matL]; exact Nat.le_trans (Nat.mul_le_mul h8 h8) (by decide)
      go_wp2_with fail
      refine (determinantTop_any _ (matL k k (mulM k A B)) _ R_p.out htP).mono ?_
      rintro e w8 ⟨rfl, B8⟩
      rw [HdP.out]
      replace R_c := hid (R_c.out.mono B8)
      replace TT := nx TT B8
      clear R_p HdP htP
      have m1 := (mul_bd hqA.1 hqA.2 qy.1 qy.2).1
      have m2 := (mul_bd hqA.1 hqA.2 qy.1 qy.2).2
      have EM : Hid ((vI x * vI y) % 10007 = vI (x * y)) := by simp only [Hid]; rw [vI_mul]
      have hxe : (vI (x * y) != vI (x * y)) = false := by simp
      by_cases hx0 : x = 0
      · have HI : Hid (invR (matL k k A) = ([], 5)) := by simp only [Hid]; rw [invR_matL k A h1 h8, if_neg (fun h => h (by rw [← HX.out]; exact hx0))]
        have hz0 : (vI x != 0) = false := by rw [hx0, vI_zero]; rfl
        clear hx0
        go_wp2_with fail
        refine (inverseMatrix_any _ (matL k k A) _ R_c.out htA).mono ?_
        rintro e w9 ⟨ri, rfl, Oi, B9⟩
        rw [HI.out]
        replace TT := nx TT B9
        clear Oi
        go_wp2_with fail
        refine (mod5_any _ _).mono ?_
        rintro e w10 ⟨rfl, rfl⟩
        rw [EM.out]
        clear m1 m2
        go_wp2_with fail
        go_ret
        exact ⟨rfl, TT⟩
      · have hz0 : (vI x != 0) = true := by simpa using vI_ne hx0
        obtain ⟨V, hV, -, hV1, hV2⟩ := invR_code (M := A) h1 h8 (by rw [← HX.out]; exact hx0)
        have HI := hid hV
        have HV1 := hid hV1
        have HV2 := hid hV2
        clear hx0 hV hV1 hV2
        go_wp2_with fail
        refine (inverseMatrix_any _ (matL k k A) _ R_c.out htA).mono ?_
        rintro e w9 ⟨ri, rfl, Oi, B9⟩
        rw [HI.out] at Oi ⊢
        replace R_c := hid (R_c.out.mono B9)
        replace TT := nx TT B9
        have R_i : Hid (RdII w9 ri (matL k k V)) := Oi.rd
        clear Oi
        go_wp2_with fail
        refine (mod5_any _ _).mono ?_
        rintro e w10 ⟨rfl, rfl⟩
        rw [EM.out]
        clear m1 m2
        have htV : tot (matL k k V) ≤ 1048576 := by rw [tot_matL]; exact Nat.le_trans (Nat.mul_le_mul h8 h8) (by decide)
        have HM1 : Hid (mmR (matL k k A) (matL k k V) = (matL k k idM, 0)) := by simp only [Hid]; rw [mmR_matL k A V h1 h8, HV1.out]
        have HM2 : Hid (mmR (matL k k V) (matL k k A) = (matL k k idM, 0)) := by simp only [Hid]; rw [mmR_matL k V A h1 h8, HV2.out]
        obtain ⟨aoi, capi, rfl, -, -⟩ := R_i.out.formM
        go_wp2_with fail
        refine (multiplyMatrices_any _ _ (matL k k A) (matL k k V) _ R_c.out R_i.out htA htV).mono ?_
        rintro e w11 ⟨rl, rfl, Ol, B11⟩
        rw [HM1.out] at Ol ⊢
        replace R_c := hid (R_c.out.mono B11)
        replace R_i := hid (R_i.out.mono B11)
        replace TT := nx TT B11
        have R_l := hid Ol.rd
        go_wp2_with fail
        refine (multiplyMatrices_any _ _ (matL k k V) (matL k k A) _ R_i.out R_c.out htV htA).mono ?_
        rintro e w12 ⟨rr, rfl, Or, B12⟩
        rw [HM2.out] at Or ⊢
        replace R_l := hid (R_l.out.mono B12)
        replace TT := nx TT B12
        have R_r := hid Or.rd
        clear Ol Or R_c R_i
        have hmk := fun W => run_make_row' (P := Try.prog) 32 2 (.int .i64 0) 8 Try.underlying32 info_i64 rfl .i64 .i64 k (by omega) (by omega) W
        go_wp2_with fail
        go_loopw [23, 24] (fun r i wx => ∃ (q : Nat) (us : List Value), q ≤ k ∧ i = .int .i64 q ∧ Own2 w12.heap.size wx r us (matL q k idM) ∧ Below w12.heap.size w12 wx) (fun _ i _ => k - (intOf i).toNat)
        case atStart => exact ⟨0, [], Nat.zero_le _, rfl, Own2.lit w12 _ (Nat.le_refl _), below_alloc _ _⟩
        case round =>
          obtain ⟨q, us, hq, rfl, O, Bl⟩ := hrel
          by_cases hqk : q < k
          · have hqk' : (q : Int) < (k : Int) := by omega
            have O1 := OwnI.madeL wr k (by omega) wr.heap.size wr.heap.size rfl (Nat.le_refl _)
            have k1 := O1.cellL q hqk
            have f1 := O1.free q
            obtain ⟨O2, G2⟩ := O1.putL q 1
            have A1 := below_alloc wr (.cells (madeCells #[Value.int .i64 0] k) 2)
            have A2 : Below wr.heap.size wr ((wr.alloc (.cells (madeCells #[Value.int .i64 0] k) 2)).setCell ⟨wr.heap.size, q, none⟩ (.int .i64 (vI 1))) := A1.grown G2 (by simp) (by simp)
            rw [vI_one] at O2 A2
            rw [vI_zero] at k1
            have hset : (wr.alloc (.cells (madeCells #[Value.int .i64 0] k) 2)).setCell ⟨wr.heap.size, q, none⟩ (.int .i64 1) = wr.alloc (.cells ((madeCells #[Value.int .i64 0] k).setIfInBounds q (.int .i64 1)) 2) := World.setCell_alloc_at _ _ _ _ _ rfl
            rw [hset] at O2 A2
            have eR : Hid (lst k (fun i => if i = q then 1 else 0) = lst k (idM q)) := lst_congr fun c _ => by
              simp only [idM]
              by_cases h : c = q
              · rw [if_pos h, if_pos h.symm]
              · rw [if_neg h, if_neg (fun e => h e.symm)]
            rw [eR.out] at O2
            have HO := hid O
            have HO2 := hid O2
            have HA2 := hid A2
            have bw0 := Bl.size
            have hsz : (wr.alloc (.cells ((madeCells #[Value.int .i64 0] k).setIfInBounds q (.int .i64 1)) 2)).heap.size = wr.heap.size + 1 := by simp
            have ht1 : (matL q k idM).length < 1048576 := by rw [matL_length]; omega
            have hmem : Hid (∀ x ∈ us, ∀ b, x.ownBlock = some b → b < wr.heap.size) := O.memb
            have HSZ := hid hsz
            clear hset G2 A1 A2 O1 O O2 hsz
            go_wp2_with (at_builtin; refine wpl_app2 (v := u23) (u := .slice (some ⟨wr.heap.size, 0, none⟩) k k) rfl _ _ _ rfl Try.underlying22 infoLL' rfl ((HO.out.mono HA2.out).mono (below_alloc _ _)) ⟨wr.heap.size + 1, 0, none⟩ 1 (lst k (idM q)) rfl (by have := cell_new1 (wr.alloc (.cells ((madeCells #[Value.int .i64 0] k).setIfInBounds q (.int .i64 1)) 2)) (.slice (some ⟨wr.heap.size, 0, none⟩) k k) 32; rw [HSZ.out] at this; exact this) ((HO2.out.lower bw0).mono (below_alloc _ _)) (parted_lt wr.heap.size (fun b hb => (HO2.out.own_lt b hb).1) (fun b hb => (HO.out.lt b hb).2)) (fun j' hj' => parted_lt wr.heap.size (fun b hb => (HO2.out.own_lt b hb).1) (fun b hb => hmem.out _ (by rw [← vat_at us j' hj']; exact List.getElem_mem hj') b hb)) ht1 (by simp; omega) ?_; intro v' W1 O4 G4 B4' P4; clear G4 P4; have B5 := (((nx Bl HA2.out).alloc (by simp; omega) (.cells #[.slice (some ⟨wr.heap.size, 0, none⟩) k k] 32)).trans B4'))
            rw [← matL_snoc] at O4
            go_roundw
            case rel => exact ⟨q + 1, _, by omega, by go_num, O4, B5⟩
            case measure => simp [intOf]; omega
          · obtain rfl : q = k := by omega
            have hd3 : decide ((q : Int) < (q : Int)) = false := by simp
            have RL := hid (R_l.out.mono Bl)
            have RR := hid (R_r.out.mono Bl)
            have RU := hid O.rd
            have TB := nx TT Bl
            clear O hmk
            go_wp2_with fail
            refine (likeRows5_same _ _ (matL q q idM) _ RL.out RU.out).mono ?_
            rintro e w13 ⟨rfl, D13⟩
            have B13 := D13.below wr.heap.size
            go_wp2_with fail
            refine (likeRows5_same _ _ (matL q q idM) _ (RR.out.mono B13) (RU.out.mono B13)).mono ?_
            rintro e w14 ⟨rfl, D14⟩
            have B14 := D14.below w13.heap.size
            go_wp2
            go_ret
            exact ⟨rfl, nx (nx TB B13) B14⟩

set_option maxRecDepth 100000 in
theorem lifted (os : Os) (started : os.Started) (H : Type) (enc : TypeId × Value → H) :
    ReturnsInHanded {} Try.checked os 7 .any (Rows.fnDeterminantsSpec.pre6 enc Try.prog Try.f7 Rows.fnDeterminantsRow.domain false) (Rows.fnDeterminantsSpec.post enc Try.prog Try.f7 false true false false) := by
  refine returnsInHanded_of_change (C := Try.checked) own started (by kernel_rfl) Try.func7
    (ChangeSpec.witness6 (enc := enc) (C := Try.checked) false ⟨#[], #[.slice none 0 0], []⟩ 8 (by kernel_rfl) (by kernel_rfl) (by kernel_rfl) (by kernel_rfl)) ?_
  intro W base args ds gs before hval0 hW hcnd _
  have hval : ∀ (j : Nat) t v, Try.f7.params[j]? = some t → args[j]? = some v → Value.okWide Try.prog W .any base t v := hval0
  have hW' := hW
  obtain ⟨p, q, hA0, hV, rfl, hfz, hnd⟩ := hW
  have hA : DataW.TrodAll enc Try.prog W 0 (fun _ => true) true Try.f7.params.toList args.toList ds p := hA0
  rw [Try.params7] at hA hval
  obtain ⟨v0, vs0, d0, ds0, p0, q0, hargs, rfl, rfl, h0, r0⟩ := trodAll_cons hA
  obtain ⟨rfl, rfl, rfl⟩ := trodAll_nil r0
  obtain rfl : args = #[v0] := by cases args; simp_all
  obtain ⟨rfl, rfl⟩ := trodVars_none hV
  have k0 := h0
  have lt0 : ∀ x ∈ p0, x.block < W.heap.size := by obtain ⟨m, hm⟩ := k0; exact DataW.trod_lt m _ _ _ hm
  have i0 : InB W v0 := InB.open_ Try.underlying39 Try.underlying5 (by kernel_rfl) (hval 0 39 v0 rfl rfl) h0
  clear hA0 hval0
  refine (walk v0 i0).mono fun e W' ⟨he, bel⟩ => ?_
  subst he
  exact ⟨_, rfl, _, _, _, [], _, [], hW', trodAll_mk1 (shut_bool Try.underlying4 _), (trodAll_cons_mk (Below.trod laidOut (by kernel_rfl) (of_decide_eq_true (by kernel_rfl)) k0 bel lt0) trodAll_mk0), rfl, bel.frame _, fun h => by cases h⟩
theorem over : Rows.fnDeterminantsRow.holds Try.pinned (OpenSpec.ofChange Rows.fnDeterminantsSpec) :=
  OpenClaim.holds_of_wide 7 Try.f7 rfl rfl rfl rfl rfl rfl rfl ⟨rfl, rfl, rfl, rfl, rfl⟩ rfl rfl rfl rfl rfl (by kernel_rfl) Try.func7 (by kernel_rfl)
    (of_decide_eq_true (by kernel_rfl)) (by unfold Func.isWrapper; first | (rw [if_pos (by decide +kernel)]; kernel_rfl) | (rw [if_neg (by decide +kernel)]; exact ⟨rfl, rfl⟩))
    (fun os started H enc _ => lifted os started H enc)
theorem proved : Rows.FnDeterminantsSaid := over
#print axioms proved
end Go.Proofs.Ytmhcpaffdchboaa.fnDeterminants
