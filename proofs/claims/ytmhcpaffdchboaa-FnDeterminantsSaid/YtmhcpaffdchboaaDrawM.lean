/-
  The draws of matrices.
-/
import Derived.Test.YtmhcpaffdchboaaDraw
import Derived.Test.YtmhcpaffdchboaaDrawL
import Derived.Test.YtmhcpaffdchboaaMinor
import Derived.Deep.DeepCutAuto
import Derived.Deep.RegionHeld3
namespace Go.Proofs.Ytmhcpaffdchboaa
open Go.RowKit
set_option maxRecDepth 100000
/-- Small integers, in every row. -/
def Ent (zss : List (List Int)) : Prop := ∀ z ∈ zss, ∀ x ∈ z, -1 ≤ x ∧ x ≤ 10007
theorem ent_nums {z : List Int} (h : Nums z) : ∀ x ∈ z, -1 ≤ x ∧ x ≤ 10007 := fun x hx => by
  have := isNum_yes (List.all_eq_true.1 h x hx); omega
theorem Own2.away {base b : Nat} {w w' : World} {v : Value} {us : List Value} {zss : List (List Int)} (h : Own2 base w v us zss) (g : w.grownBy w' (some b)) (hb : b < base) : Own2 base w' v us zss := by
  refine h.kept g ?_ (fun j hj => ?_)
  · cases e : v.ownBlock with
    | none => exact .inl rfl
    | some r => right; intro e'; cases e'; have := (h.lt b e).1; omega
  · cases e : (vat us j).ownBlock with
    | none => exact .inl rfl
    | some r => right; intro e'; cases e'; have := ((h.2.2.2.1 j hj).own_lt b e).1; omega
set_option maxHeartbeats 2000000 in
theorem l01Square_any (b : Nat) (cv : Value) (n m : Nat) (w : World) (S : Src 81 b cv w) (hn : n ≤ 100) (hm1 : 1 ≤ m) (hm : m ≤ 100) :
    Calls Try.prog 77 #[.pointer (some ⟨b, 0, none⟩), .int .i64 n, .int .i64 m] w fun e w' => ∃ r us zss, e = .returned r ∧ Own2 w.heap.size w' r us zss ∧ zss.length = n ∧ (∀ z ∈ zss, z.length = m ∧ Nums z) ∧ Src 81 b cv w' ∧ w.grownBy w' (some b) := by
  have hb := S.lt
  have S0 := S.alloc (.cells #[] 32)
  go_enter Try.func77, Try.ntmps77
  go_wp2
  go_loopw [7, 8] (fun o i wr => ∃ (k : Nat) (us : List Value) (zss : List (List Int)), k ≤ n ∧ i = .int .i64 k ∧ zss.length = k ∧ Hid (∀ z ∈ zss, z.length = m ∧ Nums z) ∧ Own2 w.heap.size wr o us zss ∧ Src 81 b cv wr ∧ w.grownBy wr (some b)) (fun _ i _ => n - (intOf i).toNat)
  case atStart => exact ⟨0, [], [], Nat.zero_le _, rfl, rfl, (fun z hz => by cases hz), Own2.lit w _ (Nat.le_refl _), S0, gb_alloc (grown_refl _ _) _⟩
  case round =>
    clear S S0
    obtain ⟨k, us, zss, hk, rfl, hz, HZ, O, S, G⟩ := hrel
    have HZL := hid hz
    by_cases hlt : k < n
    · have hlt' : (k : Int) < (n : Int) := by omega
      have hG := G.size
      have HO := hid O
      have hl1 : zss.length < 1048576 := by omega
      clear O hz
      go_wp2_with fail
      refine (l01List_any b cv m _ S (by omega)).mono ?_
      rintro e w1 ⟨r1, xs, rfl, O1, hx, hxl, S1, G1⟩
      have O2 := HO.out.away G1 hb
      have hG1 := G1.size
      have HX := hid hx
      have HXL := hid hxl
      have GG := grown_trans G G1
      clear hx hxl
      by_cases hk0 : k = 0
      · subst hk0
        obtain ⟨ao1, cap1, rfl⟩ := O1.form
        have hpr : Parted (.slice ao1 xs.length cap1) u7 := parted_lt wr.heap.size (fun b hb => (O1.own_lt b hb).1) (fun b hb => (HO.out.lt b hb).2)
        have hpv : Hid (∀ j, j < us.length → Parted (.slice ao1 xs.length cap1) (vat us j)) := fun j hj => parted_lt wr.heap.size (fun b hb => (O1.own_lt b hb).1) (fun b hb => ((HO.out.own j (by have := HO.out.len; omega)).own_lt b hb).2)
        go_wp2_with (at_builtin; refine wpl_app2 (v := u7) (u := .slice ao1 xs.length cap1) rfl _ _ _ rfl Try.underlying22 infoLL' rfl (O2.mono (below_alloc _ _)) ⟨w1.heap.size, 0, none⟩ 1 xs rfl (cell_new1 _ _ _) ((O1.lower hG).mono (below_alloc _ _)) hpr hpv.out hl1 (by simp; omega) ?_; intro v' W1 O4 G4 B4 P4; clear P4)
        have hlt4 := O2.lt
        have S4 := (S1.alloc (.cells #[.slice ao1 xs.length cap1] 32)).grown G4 (fun r hr => by have := hlt4 r hr; omega)
        have G5 := gb_then (gb_alloc GG (.cells #[.slice ao1 xs.length cap1] 32)) G4 (fun r hr => .inl (hlt4 r hr).1)
        clear G4 B4 hlt4
        go_roundw
        case rel => exact ⟨0 + 1, _, _, by omega, by go_num, by rw [List.length_append, HZL.out]; rfl, (fun z hz => by
          rcases List.mem_append.1 hz with h | h
          · exact HZ.out z h
          · simp at h; subst h; exact ⟨HXL.out, HX.out⟩), O4, S4, G5⟩
        case measure => simp [intOf]; omega
      · have h0 : (0 : Int) < (k : Int) := by omega
        go_wp2_with fail
        refine (l01Next_any b cv 5 _ S1 (by omega)).mono ?_
        rintro e w2 ⟨x, rfl, ⟨hx0, hx1, -⟩, S2, G2⟩
        replace O2 := O2.away G2 hb
        replace GG := grown_trans GG G2
        have hG2 := G2.size
        clear hx1 S1
        by_cases hx : x = 0
        · subst hx
          clear O1
          obtain ⟨ao7, cap7, rfl⟩ := O2.form
          obtain ⟨g7, rfl⟩ := O2.addr (by have := HZL.out; omega)
          have hk1 : k - 1 < zss.length := by have := HZL.out; omega
          have hcp := O2.cell (k - 1) hk1
          have hwp := O2.own (k - 1) hk1
          have hrow := HZ.out _ (rowAt_in zss (k - 1) hk1)
          obtain ⟨aop, capp, hvp⟩ := hwp.form
          have hrp := hwp.rd
          rw [hvp] at hcp hrp
          have HRP := hid hrp
          have HROW := hid hrow
          have hlen0 : 0 < (rowAt zss (k - 1)).length := by omega
          have i1 : IntKind.i64.wrap ((k : Int) - 1) = (k : Int) - 1 := IntWalk.i64_in _ (by omega)
          have i2 : (0 : Int) ≤ (k : Int) - 1 := by omega
          have i5 : ((k : Int) - 1).toNat = k - 1 := by omega
          have i6 : (1 : Int) ≤ (k : Int) := by omega
          have i4 : (k : Int) - 1 < (zss.length : Int) := by have := HZL.out; omega
          have HO2 := hid O2
          clear hwp hvp hrp hrow hk1 O2
          go_wp2_with fail
          refine (l01Own_any _ (rowAt zss (k - 1)) _ HRP.out hlen0).mono ?_
          rintro e w3 ⟨r3, rfl, O1, B3⟩
          have O2 := HO2.out.mono B3
          have SX := S2.mono B3
          replace GG := gb_below GG B3
          have hG3 := B3.size
          obtain ⟨xs, hxs⟩ : ∃ xs, xs = rowAt zss (k - 1) := ⟨_, rfl⟩
          rw [← hxs] at O1 HROW
          have HX := hid HROW.out.2
          have HXL := hid HROW.out.1
          clear hxs hcp i1 i2 i4 i5 i6 hlen0
          obtain ⟨ao1, cap1, rfl⟩ := O1.form
          have hpr : Parted (.slice ao1 xs.length cap1) (Value.slice (some ⟨g7, 0, none⟩) zss.length cap7) := parted_lt w2.heap.size (fun b hb => (O1.own_lt b hb).1) (fun b hb => (HO2.out.lt b hb).2)
          have hpv : Hid (∀ j, j < us.length → Parted (.slice ao1 xs.length cap1) (vat us j)) := fun j hj => parted_lt w2.heap.size (fun b hb => (O1.own_lt b hb).1) (fun b hb => ((HO2.out.own j (by have := HO2.out.len; omega)).own_lt b hb).2)
          go_wp2_with (at_builtin; refine wpl_app2 (v := (Value.slice (some ⟨g7, 0, none⟩) zss.length cap7)) (u := .slice ao1 xs.length cap1) rfl _ _ _ rfl Try.underlying22 infoLL' rfl (O2.mono (below_alloc _ _)) ⟨w3.heap.size, 0, none⟩ 1 xs rfl (cell_new1 _ _ _) ((O1.lower (by omega)).mono (below_alloc _ _)) hpr hpv.out hl1 (by simp; omega) ?_; intro v' W1 O4 G4 B4 P4; clear P4)
          have hlt4 := O2.lt
          have S4 := (SX.alloc (.cells #[.slice ao1 xs.length cap1] 32)).grown G4 (fun r hr => by have := hlt4 r hr; omega)
          have G5 := gb_then (gb_alloc GG (.cells #[.slice ao1 xs.length cap1] 32)) G4 (fun r hr => .inl (hlt4 r hr).1)
          clear G4 B4 hlt4
          go_roundw
          case rel => exact ⟨k + 1, _, _, by omega, by go_num, by rw [List.length_append, HZL.out]; rfl, (fun z hz => by
            rcases List.mem_append.1 hz with h | h
            · exact HZ.out z h
            · simp at h; subst h; exact ⟨HXL.out, HX.out⟩), O4, S4, G5⟩
          case measure => simp [intOf]; omega
        · have hx' : ¬ x = 0 := hx
          replace O1 := O1.away G2 (by omega)
          have SX := S2
          obtain ⟨ao1, cap1, rfl⟩ := O1.form
          have hpr : Parted (.slice ao1 xs.length cap1) u7 := parted_lt wr.heap.size (fun b hb => (O1.own_lt b hb).1) (fun b hb => (HO.out.lt b hb).2)
          have hpv : Hid (∀ j, j < us.length → Parted (.slice ao1 xs.length cap1) (vat us j)) := fun j hj => parted_lt wr.heap.size (fun b hb => (O1.own_lt b hb).1) (fun b hb => ((HO.out.own j (by have := HO.out.len; omega)).own_lt b hb).2)
          go_wp2_with (at_builtin; refine wpl_app2 (v := u7) (u := .slice ao1 xs.length cap1) rfl _ _ _ rfl Try.underlying22 infoLL' rfl (O2.mono (below_alloc _ _)) ⟨w2.heap.size, 0, none⟩ 1 xs rfl (cell_new1 _ _ _) ((O1.lower hG).mono (below_alloc _ _)) hpr hpv.out hl1 (by simp; omega) ?_; intro v' W1 O4 G4 B4 P4; clear P4)
          have hlt4 := O2.lt
          have S4 := (SX.alloc (.cells #[.slice ao1 xs.length cap1] 32)).grown G4 (fun r hr => by have := hlt4 r hr; omega)
          have G5 := gb_then (gb_alloc GG (.cells #[.slice ao1 xs.length cap1] 32)) G4 (fun r hr => .inl (hlt4 r hr).1)
          clear G4 B4 hlt4
          go_roundw
          case rel => exact ⟨k + 1, _, _, by omega, by go_num, by rw [List.length_append, HZL.out]; rfl, (fun z hz => by
            rcases List.mem_append.1 hz with h | h
            · exact HZ.out z h
            · simp at h; subst h; exact ⟨HXL.out, HX.out⟩), O4, S4, G5⟩
          case measure => simp [intOf]; omega
    · obtain rfl : k = n := by omega
      have hd : decide ((k : Int) < (k : Int)) = false := by simp
      go_wp2_with fail
      go_ret
      exact ⟨_, us, zss, rfl, O, hz, HZ.out, S, G⟩
theorem tot_le {zss : List (List Int)} {q : Nat} (h : ∀ z ∈ zss, z.length ≤ q) : tot zss ≤ zss.length * q := by
  induction zss with
  | nil => simp [tot]
  | cons z zs ih =>
    have h1 := h z (by simp)
    have h2 := ih (fun y hy => h y (by simp [hy]))
    simp only [tot, List.map_cons, List.sum_cons, List.length_cons, Nat.succ_mul] at h2 ⊢
    omega
/-- Rows as they are drawn. -/
def Drawn (zss : List (List Int)) : Prop := zss.length ≤ 9 ∧ (∀ z ∈ zss, 1 ≤ z.length ∧ z.length ≤ 9) ∧ Ent zss
theorem Drawn.tot {zss : List (List Int)} (h : Drawn zss) : tot zss ≤ 1000 := by
  have h1 := tot_le (q := 9) (fun z hz => (h.2.1 z hz).2)
  have h2 := h.1
  omega
theorem drawn_of {zss : List (List Int)} {n m : Nat} (hl : zss.length = n) (hn : n ≤ 8) (hm1 : 1 ≤ m) (hm : m ≤ 8) (h : ∀ z ∈ zss, z.length = m ∧ Nums z) : Drawn zss :=
  ⟨by omega, fun z hz => by have := (h z hz).1; omega, fun z hz => ent_nums (h z hz).2⟩
set_option maxHeartbeats 4000000 in
theorem l01Rows_any (b : Nat) (cv : Value) (w : World) (S : Src 81 b cv w) :
    Calls Try.prog 51 #[.pointer (some ⟨b, 0, none⟩)] w fun e w' => ∃ r us zss, e = .returned r ∧ Own2 w.heap.size w' r us zss ∧ Drawn zss ∧ Src 81 b cv w' ∧ w.grownBy w' (some b) := by
  have hb := S.lt
  go_enter Try.func51, Try.ntmps51
  go_wp2_with fail
  refine (l01Next_any b cv 5 _ S (by omega)).mono ?_
  rintro e w1 ⟨x, rfl, ⟨hx0, hx1, -⟩, S1, G1⟩
  have hx2 := hx1 (by omega)
  obtain ⟨n0, rfl⟩ := Int.eq_ofNat_of_zero_le hx0
  clear hx1 hx0
  go_wp2_with fail
  refine (l01Next_any b cv 8 _ S1 (by omega)).mono ?_
  rintro e w2 ⟨y, rfl, ⟨hy0, -, -⟩, S2, G2⟩
  have GG := grown_trans G1 G2
  clear S S1
  go_upto_if 10 with fail
  go_cut [3] (fun v wx => ∃ n : Nat, v = .int .i64 n ∧ 1 ≤ n ∧ n ≤ 8 ∧ Src 81 b cv wx ∧ w.grownBy wx (some b))
  case first =>
    by_cases hy : y = 0
    · have hb2 := S2.lt
      go_wp2_with fail
      refine (l01Pick_any b cv _ [8, 7, 6] _ (S2.alloc _) (RdI_lits [8, 7, 6] w2 2 (by simp)) (.inr (by simp [Value.ownBlock]; omega)) (by simp) (by simp)).mono ?_
      rintro e w3 ⟨z, rfl, hz, S3, G3⟩
      go_wp2_with fail
      go_meet
      have hz8 : 6 ≤ z ∧ z ≤ 8 := by simp at hz; omega
      exact ⟨z.toNat, by rw [Int.toNat_of_nonneg (by omega)], by omega, by omega, S3, grown_trans (gb_alloc GG _) G3⟩
    · go_wp2_with fail
      go_meet
      exact ⟨n0 + 1, by go_num, by omega, by omega, S2, GG⟩
  case rest =>
    clear GG G1 G2 S2 hx2 hy0
    obtain ⟨n, rfl, hn1, hn8, S, G⟩ := hcut
    have hG := G.size
    go_wp2_with fail
    refine (l01Square_any b cv n n _ S (by omega) hn1 (by omega)).mono ?_
    rintro e w3 ⟨r, us, zss, rfl, O, hl, hz, S3, G3⟩
    obtain ⟨ao, cap, rfl⟩ := O.form
    obtain ⟨g, rfl⟩ := O.addr (by omega)
    have HL := hid hl
    have HZ := hid hz
    clear hl hz S
    go_wp2_with fail
    refine (l01Next_any b cv 20 _ S3 (by omega)).mono ?_
    rintro e w4 ⟨x, rfl, ⟨hx0, -, -⟩, S4, G4⟩
    replace O := (O.away G4 (by omega)).lower hG
    have GG := grown_trans (grown_trans G G3) G4
    have HO := hid O
    have hg1 := O.glt
    have hpos : 0 < zss.length := by have := HL.out; omega
    have hrow := HZ.out _ (rowAt_in zss 0 hpos)
    have hpos' : (0 : Int) < (zss.length : Int) := by omega
    have hwG := GG.size
    clear S3 G3 G4 O G
    by_cases c0 : x = 0
    · subst c0
      go_wp2_with fail
      refine (l01List_any b cv n _ S4 (by omega)).mono ?_
      rintro e w5 ⟨r5, xs, rfl, O5, hx, hxl, S5, G5⟩
      have HX := hid hx
      have HXL := hid hxl
      have O2 := HO.out.away G5 hb
      have GG5 := grown_trans GG G5
      have hG5 := G5.size
      obtain ⟨ao1, cap1, rfl⟩ := O5.form
      have hpr : Parted (.slice ao1 xs.length cap1) (.slice (some ⟨g, 0, none⟩) zss.length cap) := parted_lt w4.heap.size (fun b hb => (O5.own_lt b hb).1) (fun b hb => (HO.out.lt b hb).2)
      have hpv : Hid (∀ j, j < us.length → Parted (.slice ao1 xs.length cap1) (vat us j)) := fun j hj => parted_lt w4.heap.size (fun b hb => (O5.own_lt b hb).1) (fun b hb => ((HO.out.own j (by have := HO.out.len; omega)).own_lt b hb).2)
      have hl1 : zss.length < 1048576 := by have := HL.out; omega
      clear hx hxl
      go_wp2_with (at_builtin; refine wpl_app2 (v := .slice (some ⟨g, 0, none⟩) zss.length cap) (u := .slice ao1 xs.length cap1) rfl _ _ _ rfl Try.underlying22 infoLL' rfl (O2.mono (below_alloc _ _)) ⟨w5.heap.size, 0, none⟩ 1 xs rfl (cell_new1 _ _ _) ((O5.lower (by omega)).mono (below_alloc _ _)) hpr hpv.out hl1 (by simp; omega) ?_; intro v' W1 O7 G7 B7 P7; clear P7)
      have hlt4 := O2.lt
      have S7 := (S5.alloc (.cells #[.slice ao1 xs.length cap1] 32)).grown G7 (fun r hr => by have := hlt4 r hr; omega)
      have G8 := gb_then (gb_alloc GG5 (.cells #[.slice ao1 xs.length cap1] 32)) G7 (fun r hr => .inl (hlt4 r hr).1)
      clear G7 B7 hlt4
      go_wp2
      go_ret
      refine ⟨_, _, _, rfl, O7, ⟨by rw [List.length_append, HL.out]; simp; omega, fun z hz => ?_, fun z hz => ?_⟩, S7, G8⟩
      · rcases List.mem_append.1 hz with h | h
        · have := (HZ.out z h).1; omega
        · simp at h; subst h; have := HXL.out; omega
      · rcases List.mem_append.1 hz with h | h
        · exact ent_nums (HZ.out z h).2
        · simp at h; subst h; exact ent_nums HX.out
    by_cases c1 : x = 1
    · subst c1
      have hco := HO.out.cell 0 hpos
      have hvo := HO.out.own 0 hpos
      obtain ⟨ao1, cap1, hv⟩ := hvo.form
      have hv2 := hvo
      rw [hv] at hco hv2
      have HV := hid hv
      have HROW := hid hrow
      have hl1 : (rowAt zss 0).length < 1048576 := by omega
      have HOV := hid (hv2.mono (below_alloc w4 (.cells #[.int .i64 1] 2)))
      have HOX := hid (HO.out.mono (below_alloc w4 (.cells #[.int .i64 1] 2)))
      have hlo := hvo.own_lt
      rw [hv] at hlo
      have HLO := hid hlo
      clear hvo hv hv2 hrow hlo
      go_wp2_with (at_builtin; refine wpl_appW (v := .slice ao1 (rowAt zss 0).length cap1) rfl _ _ _ rfl Try.underlying32 info_i64 rfl HOV.out ⟨w4.heap.size, 0, none⟩ 1 1 rfl (cell_new1 _ _ _) hl1 (by simp; omega) ?_; intro v' W1 O7 G7 B7 P7; have hf7 := O7.form; simp only [List.length_append, List.length_singleton] at hf7; obtain ⟨ao7, cap7, rfl⟩ := hf7; have h3 := HOX.out.outer 0 hpos (by rw [HV.out]; exact G7); have c3 := h3.1; have f3 := h3.2.1; have g3 := h3.2.2; clear h3; have HG7 := hid G7; have HO7 := hid O7; have HP7 := hid P7; clear G7 O7 P7 B7)
      obtain ⟨E8, G8⟩ := HOX.out.put 0 hpos (by rw [HV.out]; exact HG7.out) HO7.out (by rw [HV.out]; exact HP7.out.imp id (fun h b hb => by rw [h] at hb; exact Nat.le_of_eq (Option.some.inj hb)))
      have S7 := ((S4.alloc (.cells #[.int .i64 1] 2)).grown HG7.out (fun r hr => by have := HLO.out r hr; omega)).grown G8 (fun r hr => by cases hr; omega)
      have G9 := gb_then (gb_then (gb_alloc GG (.cells #[.int .i64 1] 2)) HG7.out (fun r hr => .inl (HLO.out r hr).1)) G8 (fun r hr => by cases hr; exact .inl hg1.1)
      go_ret
      refine ⟨_, _, _, rfl, E8, ⟨by rw [List.length_set]; have := HL.out; omega, fun z hz => ?_, fun z hz => ?_⟩, S7, G9⟩
      · rcases List.mem_or_eq_of_mem_set hz with h | h
        · have := (HZ.out z h).1; omega
        · rw [h]; have := HROW.out.1; simp; omega
      · rcases List.mem_or_eq_of_mem_set hz with h | h
        · exact ent_nums (HZ.out z h).2
        · rw [h]; intro y hy
          rcases List.mem_append.1 hy with h2 | h2
          · exact ent_nums HROW.out.2 y h2
          · simp at h2; omega
    by_cases c2 : x = 2
    · subst c2
      have hb4 := S4.lt
      have hco := HO.out.cell 0 hpos
      have hvo := HO.out.own 0 hpos
      obtain ⟨ao1, cap1, hv⟩ := hvo.form
      have hv2 := hvo
      rw [hv] at hco hv2
      obtain ⟨g0, rfl⟩ := hv2.addr (by omega)
      have hgn : ¬ g0 = g := fun e => HO.out.2.2.2.2.1 0 (by have := HO.out.len; omega) g0 (by rw [hv]; rfl) (by rw [e]; rfl)
      have hgn' : ¬ g = g0 := fun e => hgn e.symm
      have HV := hid hv
      have HROW := hid hrow
      have hlen0 : 0 < (rowAt zss 0).length := by omega
      have hO1 := hid ((HO.out.mono (below_alloc w4 (.cells #[.int .i64 (-1), .int .i64 10007] 2))).mono (below_drew _))
      clear hvo hv hv2 hrow
      go_wp2_with fail
      go_region_held3 (fun w' => w'.cell? ⟨g, 0, none⟩ = some (.slice (some ⟨g0, 0, none⟩) (rowAt zss 0).length cap1))
        (first
          | go_keep
          | (simp [World.cell?_setCell_far, *]; done))
        (first
          | (go_at_call 76; refine (l01Pick_any b cv _ [-1, 10007] _ ((S4.alloc _).drew) ((RdI_lits [-1, 10007] w4 2 (by simp)).mono (below_drew _)) (.inr (by simp [Value.ownBlock]; omega)) (by simp) (by simp)).mono ?_; rintro e w5 ⟨y, rfl, hy, S5, G5⟩; have O5 := hO1.out.away G5 (by omega); have hc5 := O5.cell 0 hpos; have ho5 := O5.own 0 hpos; rw [HV.out] at hc5 ho5; have hk5 := ho5.cell 0 hlen0; have hf5 := ho5.free 0; have hgl5 := ho5.glt; have HO5 := hid O5; have HV5 := hid ho5; have HG5 := hid G5; clear O5 ho5 G5))
      obtain ⟨E8, G8⟩ := HV5.out.set 0 y
      have E9 := HO5.out.turned 0 hpos (by rw [HV.out]; exact G8) (by rw [HV.out]; exact E8)
      have S9 := S5.grown G8 (fun r hr => by cases hr; omega)
      have G9 := gb_then (grown_trans (grown_drew (gb_alloc GG _)) HG5.out) G8 (fun r hr => by cases hr; exact .inl hgl5.1)
      go_wp2
      go_ret
      refine ⟨_, _, _, rfl, E9, ⟨by rw [List.length_set]; have := HL.out; omega, fun z hz => ?_, fun z hz => ?_⟩, S9, G9⟩
      · rcases List.mem_or_eq_of_mem_set hz with h | h
        · have := (HZ.out z h).1; omega
        · rw [h]; have := HROW.out.1; simp; omega
      · rcases List.mem_or_eq_of_mem_set hz with h | h
        · exact ent_nums (HZ.out z h).2
        · rw [h]; intro q hq
          rcases List.mem_or_eq_of_mem_set hq with h2 | h2
          · exact ent_nums HROW.out.2 q h2
          · rw [h2]; simp at hy; omega
    by_cases c3 : x = 3
    · subst c3
      go_wp2_with fail
      refine (l01Next_any b cv 8 _ S4 (by omega)).mono ?_
      rintro e w5 ⟨y, rfl, ⟨hy0, hy1, -⟩, S5, G5⟩
      have hy2 := hy1 (by omega)
      obtain ⟨m0, rfl⟩ := Int.eq_ofNat_of_zero_le hy0
      have e1 : IntKind.i64.wrap (1 + (m0 : Int)) = ((m0 + 1 : Nat) : Int) := by rw [IntWalk.i64_in _ (by omega)]; omega
      have GG5 := grown_trans GG G5
      have hG5 := G5.size
      clear hy1 hy0
      go_wp2_with fail
      refine (l01Square_any b cv n (m0 + 1) _ S5 (by omega) (by omega) (by omega)).mono ?_
      rintro e w6 ⟨r6, us6, zss6, rfl, O6, hl6, hz6, S6, G6⟩
      have HL6 := hid hl6
      have HZ6 := hid hz6
      clear hl6 hz6
      go_wp2
      go_ret
      exact ⟨_, us6, zss6, rfl, O6.lower (by omega), drawn_of HL6.out hn8 (by omega) (by omega) HZ6.out, S6, grown_trans GG5 G6⟩
    by_cases c4 : x = 4
    · subst c4
      go_wp2
      go_ret
      exact ⟨_, [], [], rfl, Own2.litAt rfl (by omega), ⟨by simp, fun z hz => (by cases hz), fun z hz => (by cases hz)⟩, S4.alloc _, gb_alloc GG _⟩
    · go_wp2
      go_ret
      exact ⟨_, us, zss, rfl, HO.out, drawn_of HL.out hn8 hn1 hn8 HZ.out, S4, GG⟩
theorem drawDeterminant_any (cv : Value) (m : Nat) (w : World) (h : RdB w.heap.size w cv m) :
    Calls Try.prog 27 #[cv] w fun e w' => ∃ r zss, e = .returned r ∧ RdII w' r zss ∧ Drawn zss ∧ Below w.heap.size w w' := by
  go_enter Try.func27, Try.ntmps27
  go_wp2_with fail
  refine (l01From_any cv m _ h).mono ?_
  rintro e w1 ⟨rfl, S1, B1⟩
  have hb1 := B1.size
  go_wp2_with fail
  refine (l01Rows_any _ cv _ S1).mono ?_
  rintro e w2 ⟨r, us, zss, rfl, O2, hD, S2, G2⟩
  go_wp2
  go_ret
  exact ⟨_, zss, rfl, O2.rd, hD, below_of_grow B1 G2 (Nat.le_refl _) hb1⟩
theorem likeRows5_same (v u : Value) (zss : List (List Int)) (w : World) (h : RdII w v zss) (h' : RdII w u zss) :
    Calls Try.prog 31 #[v, u] w fun e w' => e = .returned (.bool true) ∧ Dr w w' := by
  have H := hid h
  have H' := hid h'
  obtain ⟨ao, cap, vs, rfl, hcap, hmax, -⟩ := h
  obtain ⟨ao', cap', vs', rfl, hcap', hmax', -⟩ := h'
  go_enter Try.func31, Try.ntmps31
  go_wp2
  go_loopw [5] (fun i wr => ∃ k : Nat, k ≤ zss.length ∧ i = .int .i64 k ∧ Dr w wr) (fun i _ => zss.length - (intOf i).toNat)
  case atStart => exact ⟨0, Nat.zero_le _, rfl, Dr.refl _⟩
  case round =>
    obtain ⟨k, hk, rfl, hdr⟩ := hrel
    by_cases hlt : k < zss.length
    · obtain ⟨b, off, x, rfl, hcell, hx⟩ := (H.out.dr hdr).at_ hlt
      obtain ⟨b', off', y, rfl, hcell', hy⟩ := (H'.out.dr hdr).at_ hlt
      have HX := hid hx
      have HY := hid hy
      have HD := hid hdr
      clear hx hy hdr
      go_wp2_with fail
      go_quiet ((go_at_call 33; exact quiet_dr (likeInts_same x y (rowAt zss k) _ (HX.out.mono (below_drewN (Below.refl _ _) _)) (HY.out.mono (below_drewN (Below.refl _ _) _)))))
      go_wp2
      go_roundw
      case rel => exact ⟨k + 1, by omega, by go_num, HD.out.drewN _⟩
      case measure => simp [intOf]; omega
    · go_wp2
      go_ret
      exact ⟨rfl, hdr⟩
theorem l01MulE_any (a b : Int) (w : World) (ha : -1 ≤ a) (ha' : a ≤ 10007) (hb : 0 ≤ b) (hb' : b ≤ 10006) :
    Calls Try.prog 63 #[.int .i64 a, .int .i64 b] w fun e w' => e = .returned (.int .i64 ((a * b) % 10007)) ∧ w = w' := by
  have h1 : -10006 ≤ a * b := by
    have := Int.mul_le_mul_of_nonneg_right ha hb; omega
  have h2 : a * b ≤ 100130042 := by
    have h3 := Int.mul_le_mul_of_nonneg_right ha' hb
    have h4 := Int.mul_le_mul_of_nonneg_left hb' (show (0 : Int) ≤ 10007 by omega)
    omega
  go_enter Try.func63, Try.ntmps63
  go_wp2_with (go_at_call 80; refine (l01Mod_any _ _).mono ?_; rintro e w' ⟨rfl, rfl⟩)
  go_ret
  exact ⟨rfl, rfl⟩
theorem l01DotE_any (v u : Value) (xs ys : List Int) (w : World) (h : RdI w v xs) (h' : RdI w u ys) (hl : xs.length ≤ ys.length) (hx : ∀ x ∈ xs, -1 ≤ x ∧ x ≤ 10007) (hy : Nums ys) :
    Calls Try.prog 56 #[v, u] w fun e w' => ∃ y : Int, e = .returned (.int .i64 y) ∧ 0 ≤ y ∧ y ≤ 10006 ∧ Dr w w' := by
  have H := hid h
  have H' := hid h'
  have HX := hid hx
  obtain ⟨ao, cap, rfl, hcap, hmax, -⟩ := h
  obtain ⟨ao', cap', rfl, hcap', hmax', -⟩ := h'
  clear hx
  go_enter Try.func56, Try.ntmps56
  go_wp2
  go_loopw [5, 6] (fun s i wr => ∃ (k : Nat) (z : Int), k ≤ xs.length ∧ i = .int .i64 k ∧ s = .int .i64 z ∧ 0 ≤ z ∧ z ≤ 10006 ∧ Dr w wr) (fun _ i _ => xs.length - (intOf i).toNat)
  case atStart => exact ⟨0, 0, Nat.zero_le _, rfl, rfl, by omega, by omega, Dr.refl _⟩
  case round =>
    obtain ⟨k, z, hk, rfl, rfl, hz0, hz1, hdr⟩ := hrel
    by_cases hlt : k < xs.length
    · obtain ⟨b, off, rfl, hc⟩ := (H.out.dr hdr).at_ hlt
      obtain ⟨b', off', rfl, hc'⟩ := (H'.out.dr hdr).at_ (k := k) (by omega)
      have q1 := HX.out (el xs k) (by rw [← el_at xs k hlt]; exact List.getElem_mem _)
      have q2 := hy.at k
      have HD := hid hdr
      have hlt2 : (k : Int) < (ys.length : Int) := by omega
      have hm1 := (md_bd (el xs k * el ys k)).1
      have hm2 := (md_bd (el xs k * el ys k)).2
      have hs1 := (md_bd (z + el xs k * el ys k % 10007)).1
      have hs2 := (md_bd (z + el xs k * el ys k % 10007)).2
      clear hdr
      go_wp2_with fail
      go_quiet ((first | (go_at_call 63; exact quiet_same (l01MulE_any _ _ _ q1.1 q1.2 q2.1 q2.2)) | (go_at_call 65; exact quiet_same (l01Add_any _ _ _ hz0 hz1 hm1 hm2))))
      go_wp2
      go_roundw
      case rel => exact ⟨k + 1, _, by omega, by go_num, rfl, hs1, hs2, HD.out.drewN _⟩
      case measure => simp [intOf]; omega
    · go_wp2
      go_ret
      exact ⟨z, rfl, hz0, hz1, hdr⟩
set_option maxHeartbeats 4000000 in
theorem drawSolveLinear_any (cv : Value) (m : Nat) (w : World) (h : RdB w.heap.size w cv m) :
    Calls Try.prog 32 #[cv] w fun e w' => ∃ r u zss ys, e = .returned (.tuple #[r, u]) ∧ RdII w' r zss ∧ RdI w' u ys ∧ Drawn zss ∧ Below w.heap.size w w' := by
  go_enter Try.func32, Try.ntmps32
  go_wp2_with fail
  refine (l01From_any cv m _ h).mono ?_
  rintro e w1 ⟨rfl, S1, B1⟩
  have hb1 := B1.size
  have hbl := S1.lt
  obtain ⟨bs, hbs⟩ : ∃ bs, bs = w.heap.size := ⟨_, rfl⟩
  rw [← hbs] at S1 hbl ⊢
  have HBS := hid hbs
  clear hbs
  go_wp2_with fail
  refine (l01Rows_any _ cv _ S1).mono ?_
  rintro e w2 ⟨r, us, zss, rfl, O2, hD, S2, G2⟩
  have hB0 : w.heap.size ≤ bs := Nat.le_of_eq HBS.out.symm
  have B2 := below_of_grow B1 G2 hB0 hb1
  have HD := hid hD
  have R2 := hid O2.rd
  obtain ⟨ao, cap, rfl⟩ := O2.form
  have HO2 := hid O2
  have hb2 := G2.size
  clear S1 G2 B1 hD O2
  by_cases hz : zss.length = 0
  · have hzb : ((zss.length : Int) == 0) = true := by rw [hz]; rfl
    clear hz
    go_wp2_with fail
    refine (l01Next_any bs cv 5 _ S2 (by omega)).mono ?_
    rintro e w3 ⟨x, rfl, ⟨hx0, hx1, -⟩, S3, G3⟩
    have hx2 := hx1 (by omega)
    obtain ⟨k, rfl⟩ := Int.eq_ofNat_of_zero_le hx0
    have O3 := HO2.out.away G3 hbl
    have B3 := below_of_grow B2 G3 hB0 (by omega)
    have hb3 := G3.size
    clear hx1 hx0
    go_wp2_with fail
    refine (l01List_any bs cv k _ S3 (by omega)).mono ?_
    rintro e w4 ⟨u, ys, rfl, O4, hy, hyl, S4, G4⟩
    have O5 := O3.away G4 hbl
    go_wp2
    go_ret2
    exact ⟨_, _, zss, ys, rfl, O5.rd, O4.rd, HD.out, below_of_grow B3 G4 hB0 (by omega)⟩
  have hzb : ((zss.length : Int) == 0) = false := beq_eq_false_iff_ne.2 (by omega)
  have hz1 : 0 < zss.length := by omega
  have hz2 : (0 : Int) < (zss.length : Int) := by omega
  clear hz
  go_wp2_with fail
  refine (l01Next_any bs cv 10 _ S2 (by omega)).mono ?_
  rintro e w3 ⟨x, rfl, ⟨hx0, -, -⟩, S3, G3⟩
  have O3 := HO2.out.away G3 hbl
  have B3 := below_of_grow B2 G3 hB0 (by omega)
  have hb3 := G3.size
  have HO3 := hid O3
  clear S2 B2 O3 G3
  by_cases hx : x = 0
  · subst hx
    go_wp2_with fail
    refine (l01Next_any bs cv 5 _ S3 (by omega)).mono ?_
    rintro e w4 ⟨x, rfl, ⟨hx0, hx1, -⟩, S4, G4⟩
    have hx2 := hx1 (by omega)
    obtain ⟨k, rfl⟩ := Int.eq_ofNat_of_zero_le hx0
    have O4 := HO3.out.away G4 hbl
    have B4 := below_of_grow B3 G4 hB0 (by omega)
    have hb4 := G4.size
    clear hx1 hx0
    go_wp2_with fail
    refine (l01List_any bs cv k _ S4 (by omega)).mono ?_
    rintro e w5 ⟨u, ys, rfl, O5, hy, hyl, S5, G5⟩
    have O6 := O4.away G5 hbl
    go_wp2
    go_ret2
    exact ⟨_, _, zss, ys, rfl, O6.rd, O5.rd, HD.out, below_of_grow B4 G5 hB0 (by omega)⟩
  obtain ⟨g, rfl⟩ := HO3.out.addr hz1
  have hc0 := HO3.out.cell 0 hz1
  have hv0 := HO3.out.own 0 hz1
  obtain ⟨ao0, cap0, hv⟩ := hv0.form
  rw [hv] at hc0
  have hrow0 := HD.out.2.1 _ (rowAt_in zss 0 hz1)
  have hr9 : (rowAt zss 0).length ≤ 9 := hrow0.2
  clear hv0 hv hrow0
  go_wp2_with fail
  refine (l01List_any bs cv (rowAt zss 0).length _ S3 (by omega)).mono ?_
  rintro e w4 ⟨rx, xs, rfl, O4, hxs, hxl, S4, G4⟩
  have O5 := HO3.out.away G4 hbl
  have B5 := below_of_grow B3 G4 hB0 (by omega)
  have hb4 := G4.size
  have HRX := hid O4.rd
  have HRA := hid O5.rd
  have HO5 := hid O5
  have HXS := hid hxs
  have HB5 := hid B5
  have HS4 := hid S4
  obtain ⟨aox, capx, rfl⟩ := O4.form
  have hbs4 := S4.lt
  clear S3 hc0 O4 O5 G4 hxs hxl B5 S4
  go_wp2
  go_loopw [7, 8] (fun rr i wr => ∃ (k : Nat) (ys : List Int), k ≤ zss.length ∧ i = .int .i64 k ∧ ys.length ≤ k ∧ OwnI w4.heap.size wr rr ys ∧ Below w4.heap.size w4 wr) (fun _ i _ => zss.length - (intOf i).toNat)
  case atStart => exact ⟨0, [], Nat.zero_le _, rfl, by simp, OwnI.litAt rfl (Nat.le_refl _), below_alloc _ _⟩
  case round =>
    obtain ⟨k, ys, hk, rfl, hyl, O6, B6⟩ := hrel
    have h9 := HD.out.1
    by_cases hlt : k < zss.length
    · have hlt' : (k : Int) < (zss.length : Int) := by omega
      obtain ⟨_, _, u, e1, hcell, hu⟩ := (HRA.out.mono B6).at_ hlt
      cases e1
      obtain ⟨aou, capu, rfl⟩ := hu.form
      have HU := hid hu
      have HO6 := hid O6
      have hyl1 : ys.length < 1048576 := by omega
      rw [Nat.zero_add] at hcell
      clear hu O6
      by_cases hlen : (rowAt zss k).length = xs.length
      · have hbl2 : (((rowAt zss k).length : Int) == (xs.length : Int)) = true := by rw [hlen]; simp
        have HLE := hid hlen
        clear hlen
        go_wp2_with fail
        refine (l01DotE_any _ _ (rowAt zss k) xs _ HU.out (HRX.out.mono B6) (Nat.le_of_eq HLE.out) (HD.out.2.2 _ (rowAt_in zss k hlt)) HXS.out).mono ?_
        rintro e w7 ⟨y, rfl, hy0, hy1, D7⟩
        have B7 := D7.below wr.heap.size
        have O7 := HO6.out.mono B7
        have bs7 := B7.size
        have bs6 := B6.size
        go_wp2_with (at_builtin; refine wpl_app rfl _ _ _ rfl Try.underlying32 info_i64 rfl (O7.mono (below_alloc _ _)) ⟨w7.heap.size, 0, none⟩ 1 _ rfl (cell_new1 _ _ _) hyl1 (by simp; omega) ?_; intro v' W1 O8 G8 B8; clear G8)
        go_roundw
        case rel => exact ⟨k + 1, _, by omega, by go_num, by simp; omega, O8, (((nx B6 B7).alloc (by omega) _).trans B8)⟩
        case measure => simp [intOf]; omega
      · have hbl2 : (((rowAt zss k).length : Int) == (xs.length : Int)) = false := by simp; omega
        clear hlen
        go_wp2_with fail
        go_roundw
        case rel => exact ⟨k + 1, ys, by omega, by go_num, by omega, HO6.out, B6⟩
        case measure => simp [intOf]; omega
    · obtain rfl : k = zss.length := by omega
      have hd : decide ((zss.length : Int) < (zss.length : Int)) = false := by simp
      have S6 := HS4.out.mono B6
      have RA := HRA.out.mono B6
      have BB := nx HB5.out B6
      have bs6 := B6.size
      by_cases hy0 : ys.length = 0
      · have hyn := List.length_eq_zero_iff.1 hy0
        subst hyn
        obtain ⟨aor, capr, rfl⟩ := O6.form
        have HO6 := hid O6.rd
        clear O6
        go_wp2_with fail
        go_ret2
        exact ⟨_, _, zss, [], rfl, RA, HO6.out, HD.out, BB⟩
      · have hy1 : 0 < ys.length := by omega
        have hy2 : (0 : Int) < (ys.length : Int) := by omega
        obtain ⟨aor, capr, rfl⟩ := O6.form
        obtain ⟨gr, rfl⟩ := O6.addr hy1
        have HO6 := hid O6
        clear hy0 O6
        go_wp2_with fail
        refine (l01Next_any bs cv 8 _ S6 (by omega)).mono ?_
        rintro e w7 ⟨x7, rfl, ⟨hx70, -, -⟩, S7, G7⟩
        have O7 := HO6.out.away G7 hbs4
        have B7 := below_of_grow BB G7 hB0 (by omega)
        have hs7 := G7.size
        have A7 := (HO5.out.mono B6).away G7 hbl
        have HO7 := hid O7
        have HA7 := hid A7
        clear O7 A7 G7
        by_cases hx7 : x7 = 0
        rotate_left
        · go_wp2_with fail
          go_ret2
          exact ⟨_, _, zss, ys, rfl, HA7.out.rd, HO7.out.rd, HD.out, B7⟩
        subst hx7
        go_wp2_with fail
        refine (l01Next_any bs cv (ys.length : Int) _ S7 (by omega)).mono ?_
        rintro e w8 ⟨j, rfl, ⟨hj0, hj1, -⟩, S8, G8⟩
        have hj2 := hj1 (by omega)
        obtain ⟨q, rfl⟩ := Int.eq_ofNat_of_zero_le hj0
        have hq : q < ys.length := by omega
        have O8 := HO7.out.away G8 hbs4
        have A8 := HA7.out.away G8 hbl
        have B8 := below_of_grow B7 G8 hB0 (by omega)
        have hs8 := G8.size
        clear hj1
        go_wp2_with fail
        refine (l01Spoil_any bs cv _ S8).mono ?_
        rintro e w9 ⟨y, rfl, S9, G9⟩
        have O9 := O8.away G9 hbs4
        have A9 := A8.away G9 hbl
        have B9 := below_of_grow B8 G9 hB0 (by omega)
        have hs9 := G9.size
        have ck := O9.cell q hq
        have fk := O9.free q
        have gk := O9.glt
        obtain ⟨E9, GE⟩ := O9.set q y
        have hgg := HO5.out.glt
        have HAE := hid (A9.kept GE (.inr (by simp only [Value.ownBlock]; intro e; have := Option.some.inj e; omega)) (fun j' hj' => by
          cases e : (vat us j').ownBlock with
          | none => exact .inl rfl
          | some b' => right; intro e'; have h1 := Option.some.inj e'; have h2 := ((HO5.out.2.2.2.1 j' hj').own_lt b' e).2; omega)).rd
        have HE := hid E9.rd
        have BE := below_of_grow (b := gr) B9 GE (by omega) (by omega)
        clear E9 GE O8 O9 A8 A9
        go_wp2_with fail
        go_ret2
        exact ⟨_, _, zss, _, rfl, HAE.out, HE.out, HD.out, BE⟩
end Go.Proofs.Ytmhcpaffdchboaa
