/-
  The walk of the inverse of a matrix.
-/
import Derived.Test.YtmhcpaffdchboaaConcat
import Derived.Deep.OwnRows
namespace Go.Proofs.Ytmhcpaffdchboaa
open Go.RowKit
set_option maxRecDepth 100000
theorem lst_cat (n m : Nat) (f g : Nat → F) : lst n f ++ lst m g = lst (n + m) (fun c => if c < n then f c else g (c - n)) := by
  apply List.ext_getElem (by simp)
  intro i h1 h2
  have hi : i < n + m := by simpa using h2
  rw [el_at _ i h2, lst_el _ _ _ hi]
  by_cases hin : i < n
  · rw [List.getElem_append_left (by simpa using hin), el_at _ i (by simpa using hin), lst_el _ _ _ hin, if_pos hin]
  · rw [List.getElem_append_right (by simp; omega), el_at _ _ (by simp; omega), lst_el _ _ _ (by simp; omega), if_neg hin, lst_length]
theorem lst_zeros0 (n : Nat) : (lst n (fun _ => 0)).map (Value.int .i64) = List.replicate n (Value.int .i64 0) := by
  apply List.ext_getElem (by simp)
  intro i h1 h2
  have hi : i < n := by simpa using h2
  rw [List.getElem_map, el_at _ i (by simpa using hi), lst_el _ _ _ hi, vI_zero]; simp
theorem OwnI.madeL (w : World) (n : Nat) (hn : n ≤ 1048576) (base m : Nat) (hm : w.heap.size = m) (hb : base ≤ m) :
    OwnI base (w.alloc (.cells (madeCells #[Value.int .i64 0] n) 2)) (.slice (some ⟨m, 0, none⟩) n n) (lst n (fun _ => 0)) := by
  subst hm
  exact OwnI.mk (World.ownsRow_lit w _ n hb (by simp [maxLen]; omega) (by rw [size_madeCells, Nat.mul_one])) (by rw [toList_madeCells_one, lst_zeros0]) (by simpa using hn)
theorem lst_setL (n j : Nat) (f : Nat → F) (x : F) : (lst n f).set j (vI x) = lst n (fun i => if i = j then x else f i) := by
  apply List.ext_getElem (by simp)
  intro i h1 h2
  have hi : i < n := by simpa using h2
  rw [List.getElem_set, el_at _ i (by simpa using hi), el_at _ i h2, lst_el _ _ _ hi, lst_el _ _ _ hi]
  by_cases h : j = i
  · rw [if_pos h, if_pos h.symm]
  · rw [if_neg h, if_neg (Ne.symm h)]
theorem OwnI.putL {base : Nat} {w : World} {g m cap n : Nat} {f : PS} (h : OwnI base w (.slice (some ⟨g, 0, none⟩) m cap) (lst n f)) (j : Nat) (x : F) :
    OwnI base (w.setCell ⟨g, j, none⟩ (.int .i64 (vI x))) (.slice (some ⟨g, 0, none⟩) m cap) (lst n (fun i => if i = j then x else f i)) ∧ w.grownBy (w.setCell ⟨g, j, none⟩ (.int .i64 (vI x))) (some g) := by
  have := h.set j (vI x)
  rwa [lst_setL] at this
theorem OwnI.cellL {base : Nat} {w : World} {g m cap n : Nat} {f : PS} (h : OwnI base w (.slice (some ⟨g, 0, none⟩) m cap) (lst n f)) (j : Nat) (hj : j < n) : w.cell? ⟨g, j, none⟩ = some (.int .i64 (vI (f j))) := by
  rw [h.cell j (by simpa using hj), lst_el _ _ _ hj]
/-- The first rows of an own list of rows, read. -/
theorem Own2.rdTake {base g n cap t : Nat} {w : World} {us : List Value} {m c : Nat} {M : Mt} (h : Own2 base w (.slice (some ⟨g, 0, none⟩) n cap) us (matL m c M)) (ht : t ≤ m) : RdII w (.slice (some ⟨g, 0, none⟩) t cap) (matL t c M) := by
  have hn := h.len'
  rw [matL_length] at hn
  subst hn
  have hl := h.len
  rw [matL_length] at hl
  have hc : n ≤ cap := by
    rcases h.1.2 with ⟨e, _⟩ | ⟨_, _, _, e, _, _, h, _⟩
    · simp at e
    · simp at e; omega
  have hlim := h.lim
  rw [matL_length] at hlim
  refine ⟨_, cap, vat us, by rw [matL_length], by rw [matL_length]; omega, by rw [matL_length]; omega, fun j hj => ?_⟩
  rw [matL_length] at hj
  have h1 := h.cell j (by rw [matL_length]; omega)
  have h2 := (h.own j (by rw [matL_length]; omega)).rd
  rw [matL_row _ _ _ _ (by omega)] at h2
  rw [matL_row _ _ _ _ hj]
  exact ⟨⟨g, 0, rfl, by rw [Nat.zero_add]; exact h1⟩, h2⟩
set_option maxHeartbeats 4000000 in
theorem inverseOf_any (n : Nat) (A : Mt) (v : Value) (w : World) (h : RdII w v (matL n n A)) (h1 : 1 ≤ n) (h2 : n ≤ 32) :
    Calls Try.prog 44 #[v] w fun e w' => ∃ r b, e = .returned (.tuple #[r, .bool b]) ∧ (b = true ↔ okI n A) ∧ (b = true → OwnII w.heap.size w' r (matL n n (invMt n A))) ∧ Below w.heap.size w w' := by
  have H := hid h
  obtain ⟨ao, cap, rfl, hcap, hmax⟩ := h.formM
  clear h
  have hmk := fun W => run_make_row' (P := Try.prog) 32 2 (.int .i64 0) 8 Try.underlying32 info_i64 rfl .i64 .i64 n (by omega) (by omega) W
  go_enter Try.func44, Try.ntmps44
  go_wp2
  go_loopw [4, 16] (fun r i wr => ∃ (k : Nat) (us : List Value), k ≤ n ∧ i = .int .i64 k ∧ Own2 w.heap.size wr r us (matL k (n + n) (wideI n A)) ∧ Below w.heap.size w wr) (fun _ i _ => n - (intOf i).toNat)
  case atStart => exact ⟨0, [], Nat.zero_le _, rfl, Own2.lit w _ (Nat.le_refl _), below_alloc _ _⟩
  case round =>
    obtain ⟨k, us, hk, rfl, O, Bl⟩ := hrel
    by_cases hlt : k < n
    · obtain ⟨b, off, u, rfl, hcell, hu⟩ := (H.out.mono Bl).at_ (k := k) (by rw [matL_length]; omega)
      rw [matL_row _ _ _ _ hlt] at hu
      obtain ⟨aou, capu, rfl, hcu, -⟩ := hu.formL
      have O1 := OwnI.madeL wr n (by omega) wr.heap.size wr.heap.size rfl (Nat.le_refl _)
      have k1 := O1.cellL k hlt
      have f1 := O1.free k
      obtain ⟨O2, G2⟩ := O1.putL k 1
      have A1 := below_alloc wr (.cells (madeCells #[Value.int .i64 0] n) 2)
      have hsz : (wr.alloc (.cells (madeCells #[Value.int .i64 0] n) 2)).heap.size = wr.heap.size + 1 := by simp
      have A2 : Below wr.heap.size wr ((wr.alloc (.cells (madeCells #[Value.int .i64 0] n) 2)).setCell ⟨wr.heap.size, k, none⟩ (.int .i64 (vI 1))) := A1.grown G2 (by simp) (by simp)
      have hsz2 := G2.size
      rw [vI_one] at O2 A2 hsz2
      rw [vI_zero] at k1
      have hset : (wr.alloc (.cells (madeCells #[Value.int .i64 0] n) 2)).setCell ⟨wr.heap.size, k, none⟩ (.int .i64 1) = wr.alloc (.cells ((madeCells #[Value.int .i64 0] n).setIfInBounds k (.int .i64 1)) 2) := World.setCell_alloc_at _ _ _ _ _ rfl
      rw [hset] at O2 A2 hsz2
      have hsz3 : (wr.alloc (.cells ((madeCells #[Value.int .i64 0] n).setIfInBounds k (.int .i64 1)) 2)).heap.size = wr.heap.size + 1 := by simp
      have HR2 := RdII_lit2 (wr.alloc (.cells ((madeCells #[Value.int .i64 0] n).setIfInBounds k (.int .i64 1)) 2)) _ _ _ _ 32 (hu.mono A2) O2.rd
      have HA3 := nx A2 (below_alloc _ (.cells #[.slice aou n capu, .slice (some ⟨wr.heap.size, 0, none⟩) n n] 32))
      rw [hsz3] at HR2
      have HRR := hid HR2
      have HA := hid HA3
      have HO := hid O
      have bw0 := Bl.size
      have ht1 : (matL k (n + n) (wideI n A)).length < 1048576 := by rw [matL_length]; omega
      have hmem : Hid (∀ x ∈ us, ∀ b, x.ownBlock = some b → b < wr.heap.size) := O.memb
      have HROW : Hid ([lst n (A k), lst n (fun i => if i = k then 1 else 0)].flatten = lst (n + n) (wideI n A k)) := by
        simp only [Hid, List.flatten_cons, List.flatten_nil, List.append_nil]; rw [lst_cat]; rfl
      clear hset O2 G2 A1 A2 hsz2 hsz3 HR2 HA3 O1 O hu
      go_wp2_with fail
      refine (concat_any _ _ _ HRR.out (by intro z hz; simp at hz; rcases hz with rfl | rfl <;> simp <;> omega) (by simp) (by simp [tot]; omega)).mono ?_
      rintro e w2 ⟨r2, rfl, O2, B2⟩
      rw [HROW.out] at O2
      obtain ⟨ao2, cap2, rfl, -, -⟩ := O2.rd.formL
      have B3 := nx HA.out B2
      have OB := HO.out.mono B3
      have hszA := HA.out.size
      go_wp2_with (at_builtin; refine wpl_app2 (v := u4) (u := .slice ao2 (n + n) cap2) rfl _ _ _ rfl Try.underlying22 infoLL' rfl (OB.mono (below_alloc _ _)) ⟨w2.heap.size, 0, none⟩ 1 (lst (n + n) (wideI n A k)) rfl (cell_new1 _ _ _) ((O2.lower (Nat.le_trans bw0 hszA)).mono (below_alloc _ _)) (parted_lt wr.heap.size (fun b hb => Nat.le_trans hszA (O2.own_lt b hb).1) (fun b hb => (HO.out.lt b hb).2)) (fun j' hj' => parted_lt wr.heap.size (fun b hb => Nat.le_trans hszA (O2.own_lt b hb).1) (fun b hb => hmem.out _ (by rw [← vat_at us j' hj']; exact List.getElem_mem hj') b hb)) ht1 (by have := B3.size; simp; omega) ?_; intro v' W1 O4 G4 B4 P4; clear G4 P4; have B5 := (((nx Bl B3).alloc (Nat.le_trans bw0 B3.size) (.cells #[.slice ao2 (n + n) cap2] 32)).trans B4))
      rw [← matL_snoc] at O4
      go_roundw
      case rel => exact ⟨k + 1, _, by omega, by go_num, O4, B5⟩
      case measure => simp [intOf]; omega
    · obtain rfl : k = n := by omega
      have hd : decide ((k : Int) < (k : Int)) = false := by simp
      have HW := hid O.rd
      have HB := hid Bl
      obtain ⟨ao4, cap4, rfl⟩ := O.form
      rw [matL_length] at HW ⊢
      clear O Bl hmk
      have HOK : Hid (okI k A ↔ (∀ j, j < (reduceR k (k + k) (wideI k A)).2.2 → leadF ((reduceR k (k + k) (wideI k A)).1 j) 0 (k + k) < k) ∧ (reduceR k (k + k) (wideI k A)).2.2 = k) := Iff.rfl
      have HINV : Hid (∀ r c, invMt k A r c = (reduceR k (k + k) (wideI k A)).1 r (k + c)) := fun _ _ => rfl
      go_wp2_with fail
      refine (reduce_any k (k + k) (wideI k A) _ _ HW.out h1 (by omega) (by omega) (by omega)).mono ?_
      rintro e w1 ⟨g, cap1, us1, rfl, O1, ht, B1⟩
      generalize (reduceR k (k + k) (wideI k A)).2.2 = t at HOK ht O1 ⊢
      generalize (reduceR k (k + k) (wideI k A)).1 = R at HOK HINV O1 ⊢
      have HRT := hid (O1.rdTake ht)
      have BW := nx HB.out B1
      obtain ⟨wA, hwA⟩ : ∃ wA, wA = w1 := ⟨_, rfl⟩
      clear O1
      go_wp2
      go_loopw [10, 43] (fun r i wr => ∃ (q : Nat) (us : List Value), q ≤ t ∧ i = .int .i64 q ∧ Own2 w1.heap.size wr r us (matL q k (invMt k A)) ∧ Below w1.heap.size w1 wr ∧ Hid (∀ j, j < q → leadF (R j) 0 (k + k) < k)) (fun _ i _ => t - (intOf i).toNat)
      case atStart => exact ⟨0, [], Nat.zero_le _, rfl, Own2.litAt rfl (Nat.le_refl _), below_alloc _ _, fun j hj => by omega⟩
      case round =>
        obtain ⟨q, us, hq, rfl, O, Bl, HL⟩ := hrel
        by_cases hlt : q < t
        · obtain ⟨_, _, u, e1, hcell, hu⟩ := (HRT.out.mono Bl).at_ (k := q) (by rw [matL_length]; omega)
          cases e1
          rw [Nat.zero_add] at hcell
          rw [matL_row _ _ _ _ hlt] at hu
          obtain ⟨aou, capu, rfl, hcu, -⟩ := hu.formL
          obtain ⟨b', off', rfl, -⟩ := hu.at_ (k := 0) (by rw [lst_length]; omega)
          have HU := hid hu
          have hnc : ¬ capu = k := by omega
          obtain ⟨L, hL⟩ : ∃ L, L = leadF (R q) 0 (k + k) := ⟨_, rfl⟩
          have HLD := hid hL
          have HC1 : Hid (Calls Try.prog 70 #[.slice (some ⟨b', off', none⟩) (k + k) capu] wr fun e w' => e = .returned (.int .i64 (L : Int)) ∧ wr = w') := by
            simp only [Hid]; rw [hL]; exact lead_any (k + k) (R q) _ _ hu
          clear hL
          by_cases hld : L < k
          · have hge : decide ((k : Int) ≤ (L : Int)) = false := by simp; omega
            have hge2 : decide ((L : Int) ≥ (k : Int)) = false := by simp; omega
            have hge3 : ¬ ((k : Int) ≤ (L : Int)) := by omega
            have HL2 : Hid (∀ j, j < q + 1 → leadF (R j) 0 (k + k) < k) := fun j hj => by
              by_cases hjq : j = q
              · rw [hjq, ← HLD.out]; exact hld
              · exact HL.out j (by omega)
            have P2 : Hid (RdI wr (.slice (some ⟨b', off' + k, none⟩) k (capu - k)) (lst k (fun i => R q (i + k)))) := by
              have := hu.suf k (by omega); rw [show k + k - k = k by omega] at this; exact this
            have HROW : Hid (lst k (fun i => R q (i + k)) = lst k (invMt k A q)) := lst_congr fun c _ => by rw [HINV.out, Nat.add_comm]
            have HO := hid O
            have bw0 := BW.size
            have bw1 := Bl.size
            have ht1 : (matL q k (invMt k A)).length < 1048576 := by rw [matL_length]; omega
            have hmem : Hid (∀ x ∈ us, ∀ b, x.ownBlock = some b → b < wr.heap.size) := O.memb
            have s1 : (k : Int) ≤ ((k + k : Nat) : Int) := by omega
            have s2 : (k : Int) ≤ (k : Int) + (k : Int) := by omega
            have s3 : k + k - k = k := by omega
            clear O hu hld
            go_wp2_with fail
            refine HC1.out.mono ?_
            rintro e w' ⟨rfl, rfl⟩
            go_wp2_with fail
            refine (clone_any _ _ _ P2.out (by simp; omega)).mono ?_
            rintro e w2 ⟨r2, rfl, O2, B2⟩
            rw [HROW.out] at O2
            obtain ⟨ao2, cap2, rfl, -, -⟩ := O2.rd.formL
            have OB := HO.out.mono B2
            have bw2 := B2.size
            go_wp2_with (at_builtin; refine wpl_app2 (v := u10) (u := .slice ao2 k cap2) rfl _ _ _ rfl Try.underlying22 infoLL' rfl (OB.mono (below_alloc _ _)) ⟨w2.heap.size, 0, none⟩ 1 (lst k (invMt k A q)) rfl (cell_new1 _ _ _) ((O2.lower (by omega)).mono (below_alloc _ _)) (parted_lt wr.heap.size (fun b hb => (O2.own_lt b hb).1) (fun b hb => (HO.out.lt b hb).2)) (fun j' hj' => parted_lt wr.heap.size (fun b hb => (O2.own_lt b hb).1) (fun b hb => hmem.out _ (by rw [← vat_at us j' hj']; exact List.getElem_mem hj') b hb)) ht1 (by simp; omega) ?_; intro v' W1 O4 G4 B4 P4; clear G4 P4; have B5 := (((nx Bl B2).alloc (Nat.le_trans bw1 bw2) (.cells #[.slice ao2 k cap2] 32)).trans B4))
            rw [← matL_snoc] at O4
            go_roundw
            case rel => exact ⟨q + 1, _, by omega, by go_num, O4, B5, HL2⟩
            case measure => simp [intOf]; omega
          · have hge : (k : Int) ≤ (L : Int) := by omega
            have HN : Hid (¬ okI k A) := fun ho => by
              have := (HOK.out.1 ho).1 q hlt
              rw [← HLD.out] at this; omega
            have BB := nx BW Bl
            go_wp2_with fail
            refine HC1.out.mono ?_
            rintro e w' ⟨rfl, rfl⟩
            go_wp2_with fail
            go_ret2
            exact ⟨_, _, rfl, ⟨fun h => (by cases h), fun h => absurd h HN.out⟩, fun h => (by cases h), BB⟩
        · obtain rfl : q = t := by omega
          have hd : decide ((q : Int) < (q : Int)) = false := by simp
          have BB := nx BW Bl
          by_cases htk : q = k
          · have hb : ((q : Int) == (k : Int)) = true := by simp; omega
            have HY : Hid (okI k A) := HOK.out.2 ⟨HL.out, htk⟩
            have HO := hid O
            obtain ⟨ao5, cap5, rfl⟩ := O.form
            rw [matL_length] at HO ⊢
            have HTK := hid htk
            clear htk O
            go_wp2_with fail
            go_ret2
            exact ⟨_, _, rfl, ⟨fun _ => HY.out, fun _ => rfl⟩, fun _ => by have := HO.out; rw [HTK.out] at this; rw [HTK.out]; exact ⟨us, this.lower BW.size⟩, BB⟩
          · have hb : ((q : Int) == (k : Int)) = false := by simp; omega
            have HN : Hid (¬ okI k A) := fun ho => htk (HOK.out.1 ho).2
            obtain ⟨ao5, cap5, rfl⟩ := O.form
            rw [matL_length]
            clear htk O
            go_wp2_with fail
            go_ret2
            exact ⟨_, _, rfl, ⟨fun h => (by cases h), fun h => absurd h HN.out⟩, fun h => (by cases h), BB⟩
end Go.Proofs.Ytmhcpaffdchboaa
