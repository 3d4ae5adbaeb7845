/-
  The walk of the reference's SolveLinear.
-/
import Derived.Test.YtmhcpaffdchboaaRankS
import Derived.Test.YtmhcpaffdchboaaSolP
import Derived.Test.YtmhcpaffdchboaaSolS
import Derived.Test.YtmhcpaffdchboaaInvTop
namespace Go.Proofs.Ytmhcpaffdchboaa
open Go.RowKit
set_option maxRecDepth 100000
theorem step_app_where {P : Program} {ops : Array Oper} {o : Oper} {a : Act} {W : World} {base : Nat} {v : Value} {K : Act → World → Prop} {Q : Exit → Act → World → Prop} {E : Prop} (hgd : o.guard = none) (s x : Operand) (t : TypeId)
    (ho : o.op = .call { callee := .builtin .append, args := #[s, x], argTypes := #[t, t] }) (e : TypeId) (ht : P.underlying t = some (.slice e)) (z : Value) (bytes : Nat)
    (hinf : (P.info? e).map (fun i => (i.zero, i.size, i.bytes)) = some (some z, 1, bytes)) (hz1 : z.cells.size = 1)
    (hs : a.eval s = v) (n : Nat) (xs : List Value) (hown : W.ownsRow base e 1 v n xs) (ad : Addr) (c : Nat) (u : Value) (hx : a.eval x = .slice (some ad) 1 c) (hc : W.cell? ad = some u) (hu : u.oneCell' = true)
    (hl : n < 1048576) (hby : bytes ≤ 1000) (hb : base ≤ W.heap.size)
    (h : ∀ v' W1, W1.ownsRow base e 1 v' (n + 1) (xs ++ [u]) → W.grownBy W1 v.ownBlock → (v'.ownBlock = v.ownBlock ∨ v'.ownBlock = some W.heap.size) → K (a.put o.dst v') W1) :
    if Region.wanted o (yielded ops a.tmps) = true then Oper.wp P o a W K Q else E := by
  have hw : Region.wanted o (yielded ops a.tmps) = true := by simp [Region.wanted, hgd]
  rw [if_pos hw]
  exact wp_app_where s x t ho e ht z bytes hinf hz1 hs n xs hown ad c u hx hc hu hl hby hb h
/-- Rows that read the same behind what a call makes anew and what it does to a block below base. -/
def Rob (base : Nat) (w wx : World) (v : Value) (zss : List (List Int)) : Prop :=
  RdII wx v zss ∧ ∀ w2 w3 row, Below wx.heap.size wx w2 → w2.grownBy w3 row → (∀ b, row = some b → b < base) → Below w.heap.size w w3 → RdII w3 v zss
theorem rdII_mix {base : Nat} {w : World} {v u : Value} {us : List Value} {zss : List (List Int)} {z : List Int} (h : w.ownsRow base 32 1 v (us.length + 1) (us ++ [u])) (hl : us.length = zss.length) (hlim : zss.length < 1048576)
    (hj : ∀ j, j < us.length → OwnI base w (vat us j) (rowAt zss j)) (hu : RdI w u z) : RdII w v (zss ++ [z]) := by
  rcases h.2 with ⟨_, h0⟩ | ⟨g, cap, cur, rfl, hb, hg, hn, hcm, hcs, ht⟩
  · omega
  · refine ⟨_, cap, vat (us ++ [u]), by simp [hl], by simp; omega, by simp; omega, fun j hj' => ⟨⟨g, 0, rfl, ?_⟩, ?_⟩⟩
    · simp at hj'
      rw [Nat.zero_add, h.cellAt j (by omega), vat_get _ j (by simp; omega)]
    · simp at hj'
      by_cases hx : j < us.length
      · rw [vat_left _ _ _ hx, rowAt_left _ _ _ (by omega)]; exact (hj j hx).rd
      · obtain rfl : j = us.length := by omega
        rw [vat_last, hl, rowAt_last]; exact hu
theorem more_rob {w wr W W1 : World} {v v' u : Value} {us : List Value} {zss : List (List Int)} {z : List Int} (O : Own2 wr.heap.size W v us zss) (h1 : W1.ownsRow wr.heap.size 32 1 v' (us.length + 1) (us ++ [u])) (h2 : W.grownBy W1 v.ownBlock)
    (hu : RdI w u z) (hl : zss.length < 1048576) (BW : Below wr.heap.size wr W) (Bl : Below w.heap.size w wr) : Rob wr.heap.size w W1 v' (zss ++ [z]) ∧ Below wr.heap.size wr W1 := by
  have hj1 : ∀ j, j < us.length → OwnI wr.heap.size W1 (vat us j) (rowAt zss j) := fun j hj => (O.2.2.2.1 j hj).grown h2 (O.2.2.2.2.1 j hj).ne
  have B1 : Below wr.heap.size wr W1 := BW.grown h2 BW.size (fun b hb => (O.lt b hb).1)
  have BB := nx Bl B1
  refine ⟨⟨rdII_mix h1 O.len hl hj1 (hu.mono BB), fun w2 w3 row b2 g3 hr b3 => ?_⟩, B1⟩
  have k2 := h1.kept (grownBy_of_below b2 none) (by cases v'.ownBlock <;> simp)
  have k3 := k2.kept g3 (by
    cases e : v'.ownBlock with
    | none => exact .inl rfl
    | some b => exact .inr fun e2 => by have := hr b e2.symm; have := (h1.lt b e).1; omega)
  refine rdII_mix k3 O.len hl (fun j hj => ?_) (hu.mono b3)
  have m2 := (hj1 j hj).mono b2
  refine m2.grown g3 ?_
  cases e : (vat us j).ownBlock with
  | none => exact .inl rfl
  | some b => exact .inr fun e2 => by have := hr b e2.symm; have := ((hj1 j hj).own_lt b e).1; omega
theorem matL_more (p n : Nat) (R : Mt) (u : Nat → F) : matL p n R ++ [lst n u] = matL (p + 1) n (setR R p u) := by
  rw [matL_snoc, setR_same]
  congr 1
  exact matL_congr fun r c hr _ => by rw [setR_other _ _ _ _ (by omega)]
theorem lst_more (p : Nat) (val : Nat → F) (x : F) : lst p val ++ [vI x] = lst (p + 1) (fun r => if r = p then x else val r) := by
  rw [lst_snoc, if_pos rfl]
  congr 1
  exact lst_congr fun r hr => by rw [if_neg (by omega)]
/-- The loop that lays the right side behind the rows, and what follows it, in a world in which the tests are done. -/
theorem lst_wideS (n : Nat) (A : Mt) (b : Nat → F) (r : Nat) : lst n (A r) ++ [vI (b r)] = lst (n + 1) (wideM n A b r) := lst_wide n A b r
set_option maxHeartbeats 16000000 in
theorem sSolveLinear_any (v u : Value) (a : List (List Int)) (z : List Int) (w : World) (h : RdII w v a) (h' : RdI w u z) (_ : tot a ≤ 1048576) :
    Calls Try.prog 20 #[v, u] w fun e w' => ∃ r, e = .returned (.tuple #[r, .int .i64 (solR a z).2]) ∧ OwnI w.heap.size w' r (solR a z).1 ∧ Below w.heap.size w w' := by
  have H := hid h
  have H' := hid h'
  obtain ⟨ao, cap, vs, rfl, hcap, hmax, -⟩ := h
  obtain ⟨ao', cap', rfl, hcap', hmax', -⟩ := h'
  cases ha : isMat a with
  | false =>
    have HA : Hid (matC a = 1) := by simp [Hid, matC, ha]
    have HR : Hid (solR a z = ([], 1)) := by simp [Hid, solR, ha]
    clear ha
    go_enter Try.func20, Try.ntmps20
    go_wp2_with (go_at_call 36; refine (l01Matrix_any _ a _ H.out).mono ?_; rintro e w1 ⟨rfl, D1⟩; rw [HA.out]; have B1 := D1.below w.heap.size)
    go_ret2
    rw [HR.out]
    exact ⟨_, rfl, OwnI.nil _ _, B1⟩
  | true =>
    have HA : Hid (matC a = 0) := by simp [Hid, matC, ha]
    have HY := hid ha
    have m1 := isMat_yes ha
    have hapos := m1.1
    have ha8 := m1.2.1
    have hr1 := m1.2.2.1
    have hr8 := m1.2.2.2.1
    have HM := hid (isMat_matL ha)
    clear ha m1
    by_cases hl : z.length = a.length
    rotate_left
    · have HR : Hid (solR a z = ([], 2)) := by simp only [Hid]; unfold solR; rw [if_pos HY.out, if_neg (fun h => hl h.1)]
      have hb : ((z.length : Int) != (a.length : Int)) = true := by simp; omega
      clear hl
      go_enter Try.func20, Try.ntmps20
      go_wp2_with fail
      refine (l01Matrix_any _ a _ H.out).mono ?_; rintro e w1 ⟨rfl, D1⟩; rw [HA.out]; have B1 := D1.below w.heap.size
      go_wp2
      go_ret2
      rw [HR.out]
      exact ⟨_, rfl, OwnI.nil _ _, B1⟩
    have hb : ((z.length : Int) != (a.length : Int)) = false := by rw [hl]; simp
    have HL := hid hl
    clear hl
    cases hz : z.all isNum with
    | false =>
      have HZ := hid hz
      have HR : Hid (solR a z = ([], 2)) := by simp only [Hid]; unfold solR; rw [if_pos HY.out, if_neg (fun h => by rw [hz] at h; cases h.2)]
      clear hz
      go_enter Try.func20, Try.ntmps20
      go_wp2_with fail
      refine (l01Matrix_any _ a _ H.out).mono ?_; rintro e w1 ⟨rfl, D1⟩; rw [HA.out]; have B1 := D1.below w.heap.size
      go_wp2_with fail
      refine (l01Numbers_any _ z _ (H'.out.mono B1)).mono ?_; rintro e w2 ⟨rfl, rfl⟩; rw [HZ.out]
      go_wp2
      go_ret2
      rw [HR.out]
      exact ⟨_, rfl, OwnI.nil _ _, B1⟩
    | true =>
      have HZ := hid hz
      -- the matrix, the right side
      obtain ⟨A, hA⟩ : ∃ A, A = mtOf a := ⟨_, rfl⟩
      obtain ⟨x, hx⟩ : ∃ x, x = ser z := ⟨_, rfl⟩
      obtain ⟨m, hm⟩ : ∃ m, m = a.length := ⟨_, rfl⟩
      obtain ⟨n, hn⟩ : ∃ n, n = (rowAt a 0).length := ⟨_, rfl⟩
      have HN : Hid (RdII w (.slice ao m cap) (matL m n A)) := by simp only [Hid]; rw [hm, hn, hA, ← HM.out]; exact H.out
      have HN' : Hid (RdI w (.slice ao' m cap') (lst m x)) := by
        simp only [Hid]; rw [hm, hx, ← HL.out, lst_ser hz]; exact H'.out
      have HR1 : Hid (okS m n A x → solR a z = (lst n (solS m n A x), 0)) := fun ho => by
        unfold solR; rw [if_pos HY.out, if_pos ⟨HL.out, hz⟩, ← hm, ← hn, ← hA, ← hx, if_pos ho]
      have HR2 : Hid (¬ okS m n A x → solR a z = ([], 5)) := fun ho => by
        unfold solR; rw [if_pos HY.out, if_pos ⟨HL.out, hz⟩, ← hm, ← hn, ← hA, ← hx, if_neg ho]
      have HHa : Hid (RdII w (.slice ao m cap) a) := by rw [hm]; exact H.out
      have HHz : Hid (RdI w (.slice ao' z.length cap') z) := H'.out
      have hzl : z.length = m := by rw [hm]; exact HL.out
      rw [← hm] at hapos ha8 hcap hmax hb ⊢
      rw [← hn] at hr1 hr8
      rw [hzl] at HHz hb hcap' hmax' ⊢
      clear hz hA hx hm hn HM H H' HL
      obtain ⟨b0, off0, u0, rfl, hcell0, hu0⟩ := HN.out.at_ (k := 0) (by rw [matL_length]; omega)
      rw [matL_row _ _ _ _ (by omega)] at hu0
      obtain ⟨aou0, capu0, rfl, -, -⟩ := hu0.formL
      rw [Nat.add_zero] at hcell0
      have l0 := World.block_lt_of_cell? _ _ hcell0
      have HC0 := hid hcell0
      have hm0 : 0 < m := hapos
      clear hu0 hcell0
      go_enter Try.func20, Try.ntmps20
      go_wp2_with fail
      refine (l01Matrix_any _ a _ HHa.out).mono ?_; rintro e w1 ⟨rfl, D1⟩; rw [HA.out]; have B1 := D1.below w.heap.size
      go_wp2_with fail
      refine (l01Numbers_any _ z _ (HHz.out.mono B1)).mono ?_; rintro e w2 ⟨rfl, rfl⟩; rw [HZ.out]
      go_wp2
      go_loopw [6, 7] (fun r i wr => ∃ (k : Nat) (us : List Value), k ≤ m ∧ i = .int .i64 k ∧ Own2 w.heap.size wr r us (matL k (n + 1) (wideM n A x)) ∧ Below w.heap.size w wr) (fun _ i _ => m - (intOf i).toNat)
      case atStart => exact ⟨0, [], Nat.zero_le _, rfl, Own2.litAt rfl B1.size, B1.alloc B1.size _⟩
      case round =>
        clear B1
        obtain ⟨k, us, hk, rfl, O, Bl⟩ := hrel
        by_cases hlt : k < m
        · obtain ⟨_, _, u, e1, hcw, hu⟩ := HN.out.at_ (k := k) (by rw [matL_length]; omega)
          cases e1
          rw [matL_row _ _ _ _ hlt] at hu
          obtain ⟨aou, capu, rfl, hcu, -⟩ := hu.formL
          obtain ⟨br, offr, rfl, hpw⟩ := HN'.out.at_ (k := k) (by rw [lst_length]; exact hlt)
          rw [lst_el _ _ _ hlt] at hpw
          have lrw := World.block_lt_of_cell? _ _ hpw
          have lcw := World.block_lt_of_cell? _ _ hcw
          have HPW := hid hpw
          have HCW := hid hcw
          have hpr := (Bl.cell (p := ⟨br, offr + k, none⟩) lrw).trans hpw
          have hcell := (Bl.cell (p := ⟨b0, off0 + k, none⟩) lcw).trans hcw
          clear hpw hcw
          have HU := hid (hu.mono Bl)
          have HO := hid O
          have hl1 : (lst n (A k)).length < 1048576 := by rw [lst_length]; omega
          have hp0 : 0 < (lst n (A k)).length := by rw [lst_length]; omega
          have ht1 : (matL k (n + 1) (wideM n A x)).length < 1048576 := by rw [matL_length]; omega
          have hmem : Hid (∀ x ∈ us, ∀ b, x.ownBlock = some b → b < wr.heap.size) := O.memb
          have bw0 := Bl.size
          have hW := hid (lst_wideS n A x k)
          have hk' : (k : Int) < (m : Int) := by omega
          clear hu O
          go_wp2_with fail
          go_region_held3 (fun w' => w'.cell? ⟨b0, off0 + k, none⟩ = some (.slice aou n capu) ∧ w'.cell? ⟨br, offr + k, none⟩ = some (.int .i64 (vI (x k))))
            (first
              | go_keep
              | exact ⟨(B5.cell (p := ⟨b0, off0 + k, none⟩) lcw).trans HCW.out, (B5.cell (p := ⟨br, offr + k, none⟩) lrw).trans HPW.out⟩
              | exact ⟨((nx Bl BQ).cell (p := ⟨b0, off0 + k, none⟩) lcw).trans HCW.out, ((nx Bl BQ).cell (p := ⟨br, offr + k, none⟩) lrw).trans HPW.out⟩
              | exact ⟨((nx Bl BU2).cell (p := ⟨b0, off0 + k, none⟩) lcw).trans HCW.out, ((nx Bl BU2).cell (p := ⟨br, offr + k, none⟩) lrw).trans HPW.out⟩
              | exact ⟨(((nx Bl BU2).alloc (nx Bl BU2).size _).cell (p := ⟨b0, off0 + k, none⟩) lcw).trans HCW.out, (((nx Bl BU2).alloc (nx Bl BU2).size _).cell (p := ⟨br, offr + k, none⟩) lrw).trans HPW.out⟩
              | exact ⟨(((nx Bl BQ).alloc (nx Bl BQ).size _).cell (p := ⟨b0, off0 + k, none⟩) lcw).trans HCW.out, (((nx Bl BQ).alloc (nx Bl BQ).size _).cell (p := ⟨br, offr + k, none⟩) lrw).trans HPW.out⟩)
            (first
              | (go_at_call 46; refine (l01Own_any _ (lst n (A k)) _ (by first | exact HU.out.mono (below_drew _) | exact (HU.out.mono (below_alloc _ _)).mono (below_drew _)) hp0).mono ?_; rintro e w2 ⟨r2, rfl, O2, B2⟩; obtain ⟨ao2, cap2, rfl, -, -⟩ := O2.rd.formL; have BU2 : Below wr.heap.size wr w2 := (by first | exact (below_drew wr).trans B2 | exact ((below_alloc wr (.cells #[.int .i64 (vI (x k))] 2)).drew).trans (B2.mono (by simp))))
              | (refine step_app (by rfl) _ _ _ (by rfl) Try.underlying32 info_i64 (by rfl) (O2.mono (below_alloc _ _)) ⟨w2.heap.size, 0, none⟩ 1 (vI (x k)) (by rfl) (cell_new1 _ _ _) hl1 (by have := B2.size; simp at this ⊢; omega) ?_; intro v3 W3 O3 G3 B3; clear G3; have BQ := (((below_drew wr).trans B2).alloc (by have := B2.size; simp at this ⊢; omega) (.cells #[.int .i64 (vI (x k))] 2)).trans B3; rw [hW.out] at O3; obtain ⟨ao3, cap3, rfl, -, -⟩ := O3.rd.formL; have O5 := O3.lower (show wr.heap.size ≤ _ from Nat.le_refl _))
              | (refine step_app (by rfl) _ _ _ (by rfl) Try.underlying32 info_i64 (by rfl) O2 ⟨wr.heap.size, 0, none⟩ 1 (vI (x k)) (by rfl) ((B2.cell (p := ⟨wr.heap.size, 0, none⟩) (by simp)).trans (cell_new1 _ _ _)) hl1 B2.size ?_; intro v3 W3 O3 G3 B3; clear G3; have BQ := (((below_alloc wr (.cells #[.int .i64 (vI (x k))] 2)).drew).trans (B2.mono (by simp))).trans (B3.mono (by simp)); rw [hW.out] at O3; obtain ⟨ao3, cap3, rfl, -, -⟩ := O3.rd.formL; have O5 := O3.lower (show wr.heap.size ≤ _ from (by simp)))
              | (refine step_app2 (v := u6) (u := .slice ao3 (n + 1) cap3) (by rfl) _ _ _ (by rfl) Try.underlying22 infoLL' (by rfl) ((HO.out.mono BQ).mono (below_alloc _ _)) ⟨W3.heap.size, 0, none⟩ 1 (lst (n + 1) (wideM n A x k)) (by rfl) (cell_new1 _ _ _) ((O5.lower bw0).mono (below_alloc _ _)) (parted_lt wr.heap.size (fun b hb => (O5.own_lt b hb).1) (fun b hb => (HO.out.lt b hb).2)) (fun j' hj' => parted_lt wr.heap.size (fun b hb => (O5.own_lt b hb).1) (fun b hb => hmem.out _ (by rw [← vat_at us j' hj']; exact List.getElem_mem hj') b hb)) ht1 (by have := BQ.size; simp; omega) ?_; intro v' W1 O4 G4 B4 P4; clear G4 P4; have B5 := (((nx Bl BQ).alloc (Nat.le_trans bw0 BQ.size) (.cells #[.slice ao3 (n + 1) cap3] 32)).trans B4)))
          all_goals (rw [← matL_snoc] at O4; go_wp2; go_roundw)
          case rel => exact ⟨k + 1, _, by omega, by go_num, O4, B5⟩
          case measure => simp [intOf]; omega
          case rel => exact ⟨k + 1, _, by omega, by go_num, O4, B5⟩
          case measure => simp [intOf]; omega
        · obtain rfl : k = m := by omega
          have hd : decide ((k : Int) < (k : Int)) = false := by simp
          have HW := hid O.rd
          have HB := hid Bl
          obtain ⟨ao4, cap4, rfl⟩ := O.form
          rw [matL_length] at HW ⊢
          have hcell1 := (Bl.cell (p := ⟨b0, off0, none⟩) l0).trans HC0.out
          clear O Bl
          go_wp2_with fail
          refine (l01Rank_any k n A _ _ (HN.out.mono HB.out) (by omega) hr1 (by omega)).mono ?_
          rintro e w3 ⟨rfl, B3⟩
          have BB3 := nx HB.out B3
          clear hcell1
          obtain ⟨r1, hr1'⟩ : ∃ r1, r1 = rkC k n A := ⟨_, rfl⟩
          obtain ⟨r2, hr2'⟩ : ∃ r2, r2 = rkC k (n + 1) (wideM n A x) := ⟨_, rfl⟩
          have HOK : Hid ((r1 = n ∧ r2 = n) ↔ okS k n A x) := by simp only [Hid]; rw [hr1', hr2']; exact ranks_okS hr1
          have HCR : Hid (∀ w', Below wr.heap.size wr w' → Calls Try.prog 47 #[.slice ao4 k cap4] w' fun e w'' => e = .returned (.int .i64 (r2 : Int)) ∧ Below w'.heap.size w' w'') := fun w' hb => by
            rw [hr2']; exact l01Rank_any k (n + 1) _ _ _ (HW.out.mono hb) (by omega) (by omega) (by omega)
          have HR1K : Hid (r1 = rkC k n A) := hr1'
          rw [← hr1']
          clear hr1' hr2'
          by_cases h1 : r1 = n
          rotate_left
          · have hb1 : ((r1 : Int) != (n : Int)) = true := by simp; omega
            have HE : Hid (solR a z = ([], 5)) := HR2.out fun ho => h1 (HOK.out.2 ho).1
            clear h1
            go_wp2_with fail
            go_ret2
            rw [HE.out]
            exact ⟨_, rfl, OwnI.nil _ _, BB3⟩
          have hb1 : ((r1 : Int) != (n : Int)) = false := by simp; omega
          have H1 := hid h1
          clear h1
          go_wp2_with fail
          refine (HCR.out _ B3).mono ?_
          rintro e w4 ⟨rfl, B4⟩
          have BB4 := nx BB3 B4
          by_cases h2 : r2 = n
          rotate_left
          · have hb2 : ((r2 : Int) != (n : Int)) = true := by simp; omega
            have HE : Hid (solR a z = ([], 5)) := HR2.out fun ho => h2 (HOK.out.2 ho).2
            clear h2
            go_wp2_with fail
            go_ret2
            rw [HE.out]
            exact ⟨_, rfl, OwnI.nil _ _, BB4⟩
          have hb2 : ((r2 : Int) != (n : Int)) = false := by simp; omega
          have HY2 : Hid (okS k n A x) := HOK.out.1 ⟨H1.out, h2⟩
          clear h2 HCR HW HB BB3 B3 B4
          have HE := hid (HR1.out HY2.out)
          have HKS := hid (okS_ker hr1 HY2.out)
          obtain ⟨sol, hsol⟩ : ∃ sol, sol = solS k n A x := ⟨_, rfl⟩
          rw [← hsol] at HE HKS
          clear hsol
          go_wp2_with fail
          go_loopw [9, 10, 11] (fun rw_ vv i wr => ∃ (q p : Nat) (R : Mt) (val : Nat → F), q ≤ k ∧ p ≤ q ∧ i = .int .i64 q ∧ RdII wr rw_ (matL p n R) ∧ OwnI w.heap.size wr vv (lst p val) ∧ Below w.heap.size w wr ∧ Hid (Grd n A sol p q R val)) (fun _ _ i _ => k - (intOf i).toNat)
          case atStart =>
            refine ⟨0, 0, A, x, Nat.zero_le _, Nat.le_refl _, rfl, ?_, ?_, ?_, Grd.start _ _ _ _ _⟩
            · exact ((Own2.lit w4 w4.heap.size (Nat.le_refl _)).mono (below_alloc _ _)).rd
            · exact OwnI.litAt (by simp) (by have := BB4.size; omega)
            · exact (BB4.alloc BB4.size _).alloc (by have := BB4.size; simp; omega) _
          case round =>
            clear BB4
            obtain ⟨q, p, R, val, hq, hpq, rfl, RR, OV, Bl, HG⟩ := hrel
            by_cases hqk : q < k
            · have hqk' : (q : Int) < (k : Int) := by omega
              obtain ⟨_, _, u, e1, hcw, hu⟩ := HN.out.at_ (k := q) (by rw [matL_length]; omega)
              cases e1
              rw [matL_row _ _ _ _ hqk] at hu
              obtain ⟨aou, capu, rfl, hcu, -⟩ := hu.formL
              have lcw := World.block_lt_of_cell? _ _ hcw
              have HCW := hid hcw
              have HU := hid hu
              have hcell := (Bl.cell (p := ⟨b0, off0 + q, none⟩) lcw).trans hcw
              obtain ⟨ao9, cap9, rfl, -, -⟩ := RR.formM
              have HRR := hid RR
              have HOV := hid OV
              have hl1 : (matL p n R).length < 1048576 := by rw [matL_length]; omega
              have hpos := hid (matL_pos p n R (by omega))
              clear hu hcw RR OV
              go_upto_region 17 with fail
              go_cut [12] (fun r wx => Rob wr.heap.size w wx r (matL p n R ++ [lst n (A q)]) ∧ Below wr.heap.size wr wx)
              case first =>
                go_region_held3 (fun w' => w'.cell? ⟨b0, off0 + q, none⟩ = some (.slice aou n capu))
                  (first
                    | go_keep
                    | exact ((nx Bl RB.2).cell (p := ⟨b0, off0 + q, none⟩) lcw).trans HCW.out
                    | exact ((nx Bl BU2).cell (p := ⟨b0, off0 + q, none⟩) lcw).trans HCW.out
                    | exact (((nx Bl BU2).alloc (nx Bl BU2).size _).cell (p := ⟨b0, off0 + q, none⟩) lcw).trans HCW.out)
                  (first
                    | (go_at_call 48; refine (l01Own2_any _ (matL p n R) _ (by first | exact HRR.out.mono (below_drew _) | exact (HRR.out.mono (below_alloc _ _)).mono (below_drew _)) hpos.out).mono ?_; rintro e w5 ⟨r5, rfl, ⟨us5, O5⟩, B5⟩; have BU2 : Below wr.heap.size wr w5 := (by first | exact (below_drew wr).trans B5 | exact ((below_alloc wr (.cells #[.slice aou n capu] 32)).drew).trans (B5.mono (by simp))); have O6 : Own2 wr.heap.size w5 r5 us5 (matL p n R) := O5.lower (by simp))
                    | (refine step_app_where (by rfl) _ _ _ (by rfl) 32 Try.underlying22 (.slice none 0 0) 24 infoLL' rfl (by rfl) us5.length us5 (O6.mono (below_alloc _ _)).1 ⟨w5.heap.size, 0, none⟩ 1 (.slice aou n capu) (by rfl) (cell_new1 _ _ _) (by rfl) (by have := O6.len; rw [matL_length] at this; omega) (by decide) (by have := BU2.size; simp; omega) ?_; intro v' W1 h1 h2 h3; clear h3; have RB := more_rob (O6.mono (below_alloc w5 (.cells #[.slice aou n capu] 32))) h1 h2 HU.out hl1 (BU2.alloc BU2.size _) Bl; clear h1 h2)
                    | (refine step_app_where (by rfl) _ _ _ (by rfl) 32 Try.underlying22 (.slice none 0 0) 24 infoLL' rfl (by rfl) us5.length us5 O6.1 ⟨wr.heap.size, 0, none⟩ 1 (.slice aou n capu) (by rfl) ((B5.cell (p := ⟨wr.heap.size, 0, none⟩) (by simp)).trans (cell_new1 _ _ _)) (by rfl) (by have := O6.len; rw [matL_length] at this; omega) (by decide) BU2.size ?_; intro v' W1 h1 h2 h3; clear h3; have RB := more_rob O6 h1 h2 HU.out hl1 BU2 Bl; clear h1 h2))
                all_goals (go_wp2_with fail; go_meet)
                all_goals exact RB
              case rest =>
                obtain ⟨RB, BC⟩ := hcut
                rw [matL_more] at RB
                obtain ⟨ao12, cap12, rfl, -, -⟩ := RB.1.formM
                have HRB := hid RB
                obtain ⟨rk, hrk'⟩ : ∃ rk, rk = rkC (p + 1) n (setR R p (A q)) := ⟨_, rfl⟩
                have HRK := hid hrk'
                have HCK := hid (l01Rank_any (p + 1) n (setR R p (A q)) _ _ RB.1 (by omega) hr1 (by omega))
                rw [← hrk'] at HCK
                clear RB hrk' hcell
                go_wp2_with fail
                refine HCK.out.mono ?_
                rintro e w6 ⟨rfl, B6⟩
                have BW6 := nx BC B6
                have BU6 := nx Bl BW6
                by_cases hrk : rk = p + 1
                · have hbk : ((rk : Int) == (p : Int) + 1) = true := by simp; omega
                  have HG2 := hid (HG.out.take (x q) (by rw [← HRK.out]; exact hrk) (HKS.out.2 q hqk))
                  obtain ⟨br, offr, rfl, hpw⟩ := HN'.out.at_ (k := q) (by rw [lst_length]; exact hqk)
                  rw [lst_el _ _ _ hqk] at hpw
                  have hpr := (BU6.cell (p := ⟨br, offr + q, none⟩) (World.block_lt_of_cell? _ _ hpw)).trans hpw
                  have OV6 := HOV.out.mono BW6
                  have hlv : (lst p val).length < 1048576 := by rw [lst_length]; omega
                  have bs6 := BU6.size
                  clear hpw hrk
                  go_wp2_with (at_builtin; refine wpl_app rfl _ _ _ rfl Try.underlying32 info_i64 rfl (OV6.mono (below_alloc _ _)) ⟨w6.heap.size, 0, none⟩ 1 _ rfl (cell_new1 _ _ _) hlv (by simp; omega) ?_; intro v' W1 O7 G7 B7)
                  rw [lst_more] at O7
                  have B8 := (BU6.alloc bs6 (.cells #[.int .i64 (vI (x q))] 2)).trans B7
                  have R8 := HRB.out.2 _ W1 _ (B6.alloc B6.size (.cells #[.int .i64 (vI (x q))] 2)) G7 (fun b hb => (HOV.out.own_lt b hb).2) B8
                  go_roundw
                  case rel => exact ⟨q + 1, p + 1, _, _, by omega, by omega, by go_num, R8, O7, B8, HG2⟩
                  case measure => simp [intOf]; omega
                · have hbk : ((rk : Int) == (p : Int) + 1) = false := by simp; omega
                  have HG2 := hid (HG.out.skip (by rw [← HRK.out]; exact hrk))
                  clear hrk
                  go_wp2_with fail
                  go_roundw
                  case rel => exact ⟨q + 1, p, R, val, by omega, by omega, by go_num, HRR.out.mono BW6, HOV.out.mono BW6, BU6, HG2⟩
                  case measure => simp [intOf]; omega
            · obtain rfl : q = k := by omega
              have hd2 : decide ((q : Int) < (q : Int)) = false := by simp
              obtain ⟨hpn, hdet, hval⟩ := HG.out.done HKS.out.1
              have HDT := hid hdet
              have HVAL := hid hval
              clear hdet hval
              subst hpn
              obtain ⟨ao9, cap9, rfl, -, -⟩ := RR.formM
              obtain ⟨ao10, cap10, rfl, -, -⟩ := OV.rd.formL
              have HCS := hid (l01Solve_any p R val _ _ _ RR OV.rd hr1 (by omega))
              clear RR OV
              go_wp2_with fail
              refine HCS.out.mono ?_
              rintro e w7 ⟨r, b, rfl, hb7, hr7, B7⟩
              have hbt := hb7.2 HDT.out
              subst hbt
              have R1 := hr7 rfl
              rw [lst_congr (g := sol) HVAL.out] at R1
              have HR7 := hid R1
              clear hb7 hr7 R1
              go_wp2
              go_ret2
              rw [HE.out]
              exact ⟨_, rfl, HR7.out.lower Bl.size, nx Bl B7⟩
end Go.Proofs.Ytmhcpaffdchboaa
