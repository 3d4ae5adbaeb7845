/-
  The walks of the readers of decimals: l01Value, readDecimal.
-/
import Derived.Test.YtmhcpaffdchboaaDoorTxtI
import Derived.Test.YtmhcpaffdchboaaDoorDecP
import Derived.Lib.AtoiErrMem
namespace Go.Proofs.YtmhcpaffdchboaaDoor
open Go.RowKit
set_option maxRecDepth 100000
set_option linter.unusedVariables false
theorem l01Value_any (a : ByteArray) (w : World) (ha : a.size ≤ 1048576) :
    Calls Tryd.prog 21 #[.string a] w fun e w' => e = .returned (.int .i64 (valB a)) ∧ w' = w := by
  by_cases h0 : a.size = 0
  · have HV : Hid (valB a = -1) := by simp only [Hid]; rw [valB, if_pos (.inl h0)]
    have hb : ((a.size : Int) == 0) = true := by rw [h0]; rfl
    go_enter Tryd.func21, Tryd.ntmps21
    go_wp2
    go_ret
    exact ⟨by rw [HV.out]; rfl, rfl⟩
  by_cases h9 : 9 < a.size
  · have HV : Hid (valB a = -1) := by simp only [Hid]; rw [valB, if_pos (.inr (.inl h9))]
    have hb : ((a.size : Int) == 0) = false := beq_eq_false_iff_ne.2 (by omega)
    go_enter Tryd.func21, Tryd.ntmps21
    go_wp2
    go_ret
    exact ⟨by rw [HV.out]; rfl, rfl⟩
  have hb : ((a.size : Int) == 0) = false := beq_eq_false_iff_ne.2 (by omega)
  have hlt0 : 0 < a.size := by omega
  have hst0 := st_at a 0 hlt0
  obtain ⟨c0, hc0⟩ : ∃ c, c = st a 0 := ⟨_, rfl⟩
  rw [← hc0] at hst0
  by_cases h48 : 1 < a.size ∧ c0 = 48
  · have HV : Hid (valB a = -1) := by simp only [Hid]; rw [valB, if_pos (.inr (.inr ⟨h48.1, hc0 ▸ h48.2⟩))]
    obtain ⟨h1, h2⟩ := h48
    have hb2 : ((c0.toNat : Int) == 48) = true := by rw [h2]; rfl
    clear hc0 h2
    go_enter Tryd.func21, Tryd.ntmps21
    go_wp2
    go_ret
    exact ⟨by rw [HV.out]; rfl, rfl⟩
  have HV : Hid (valB a = match vTo (st a) a.size with | some n => (n : Int) | none => -1) := by
    simp only [Hid]
    rw [valB, if_neg (by
      rintro (h | h | ⟨h1, h2⟩)
      · exact h0 h
      · exact h9 h
      · exact h48 ⟨h1, hc0.trans h2⟩)]
    cases vTo (st a) a.size <;> rfl
  have main : Calls Tryd.prog 21 #[.string a] w fun e w' => e = .returned (.int .i64 (valB a)) ∧ w' = w := by
    by_cases h1 : 1 < a.size
    · have hb2 : ((c0.toNat : Int) == 48) = false := by
        have : c0 ≠ 48 := fun e => h48 ⟨h1, e⟩
        have h3 : c0.toNat ≠ 48 := fun e => this (UInt8.toNat_inj.1 e)
        simp; omega
      clear hc0 h48
      go_enter Tryd.func21, Tryd.ntmps21
      go_wp2
      go_loop [3, 4] (fun x i => ∃ (n k : Nat), x = .int .i64 n ∧ i = .int .i64 k ∧ k ≤ a.size ∧ Hid (vTo (st a) k = some n)) (fun _ i => a.size - (intOf i).toNat)
      case atStart => exact ⟨0, 0, rfl, rfl, Nat.zero_le _, rfl⟩
      case round =>
        obtain ⟨n, k, rfl, rfl, hk, HT⟩ := hrel
        clear hst0 hb
        by_cases hlt : k < a.size
        · have hst := st_at a k hlt
          have hn := vTo_lt _ _ _ HT.out
          have hn9 : n < 1000000000 := Nat.lt_of_lt_of_le hn (Nat.pow_le_pow_right (n := 10) (by omega) (show k ≤ 9 by omega))
          obtain ⟨c, hc⟩ : ∃ c, c = st a k := ⟨_, rfl⟩
          rw [← hc] at hst
          have hc8 := c.toNat_lt
          by_cases hd : 48 ≤ c.toNat ∧ c.toNat ≤ 57
          · have HB : Hid (vTo (st a) (k + 1) = some (n * 10 + (c.toNat - 48))) := by simp only [Hid]; rw [vTo, HT.out]; simp only [Option.bind_some, vStep]; rw [← hc, if_pos hd]
            obtain ⟨d0, d1⟩ := hd
            have hu8 : IntKind.u8.wrap ((c.toNat : Int) - 48) = (c.toNat : Int) - 48 := by rw [IntKind.wrap_u8]; omega
            clear hc hn
            go_wp2
            go_round
            case rel => exact ⟨n * 10 + (c.toNat - 48), k + 1, by go_num, by go_num, by omega, HB⟩
            case measure => simp [intOf]; omega
          · have HB : Hid (valB a = -1) := by
              simp only [Hid]; rw [HV.out]
              have h1 : vTo (st a) (k + 1) = none := by rw [vTo, HT.out]; simp only [Option.bind_some, vStep]; rw [← hc, if_neg hd]
              have h2 := vTo_none _ _ h1 (a.size - (k + 1))
              rw [show k + 1 + (a.size - (k + 1)) = a.size by omega] at h2
              rw [h2]
            clear hc hn
            by_cases hlo : c.toNat < 48
            · clear hd
              go_wp2
              go_ret
              exact ⟨by rw [HB.out]; rfl, rfl⟩
            · have hhi : 57 < c.toNat := by omega
              clear hd
              go_wp2
              go_ret
              exact ⟨by rw [HB.out]; rfl, rfl⟩
        · obtain rfl : k = a.size := by omega
          have HR : Hid (valB a = n) := by simp only [Hid]; rw [HV.out, HT.out]
          go_wp2
          go_ret
          exact ⟨by rw [HR.out]; rfl, rfl⟩
    · clear hc0 h48
      go_enter Tryd.func21, Tryd.ntmps21
      go_wp2
      go_loop [3, 4] (fun x i => ∃ (n k : Nat), x = .int .i64 n ∧ i = .int .i64 k ∧ k ≤ a.size ∧ Hid (vTo (st a) k = some n)) (fun _ i => a.size - (intOf i).toNat)
      case atStart => exact ⟨0, 0, rfl, rfl, Nat.zero_le _, rfl⟩
      case round =>
        obtain ⟨n, k, rfl, rfl, hk, HT⟩ := hrel
        clear hst0 hb
        by_cases hlt : k < a.size
        · have hst := st_at a k hlt
          have hn := vTo_lt _ _ _ HT.out
          have hn9 : n < 1000000000 := Nat.lt_of_lt_of_le hn (Nat.pow_le_pow_right (n := 10) (by omega) (show k ≤ 9 by omega))
          obtain ⟨c, hc⟩ : ∃ c, c = st a k := ⟨_, rfl⟩
          rw [← hc] at hst
          have hc8 := c.toNat_lt
          by_cases hd : 48 ≤ c.toNat ∧ c.toNat ≤ 57
          · have HB : Hid (vTo (st a) (k + 1) = some (n * 10 + (c.toNat - 48))) := by simp only [Hid]; rw [vTo, HT.out]; simp only [Option.bind_some, vStep]; rw [← hc, if_pos hd]
            obtain ⟨d0, d1⟩ := hd
            have hu8 : IntKind.u8.wrap ((c.toNat : Int) - 48) = (c.toNat : Int) - 48 := by rw [IntKind.wrap_u8]; omega
            clear hc hn
            go_wp2
            go_round
            case rel => exact ⟨n * 10 + (c.toNat - 48), k + 1, by go_num, by go_num, by omega, HB⟩
            case measure => simp [intOf]; omega
          · have HB : Hid (valB a = -1) := by
              simp only [Hid]; rw [HV.out]
              have h1 : vTo (st a) (k + 1) = none := by rw [vTo, HT.out]; simp only [Option.bind_some, vStep]; rw [← hc, if_neg hd]
              have h2 := vTo_none _ _ h1 (a.size - (k + 1))
              rw [show k + 1 + (a.size - (k + 1)) = a.size by omega] at h2
              rw [h2]
            clear hc hn
            by_cases hlo : c.toNat < 48
            · clear hd
              go_wp2
              go_ret
              exact ⟨by rw [HB.out]; rfl, rfl⟩
            · have hhi : 57 < c.toNat := by omega
              clear hd
              go_wp2
              go_ret
              exact ⟨by rw [HB.out]; rfl, rfl⟩
        · obtain rfl : k = a.size := by omega
          have HR : Hid (valB a = n) := by simp only [Hid]; rw [HV.out, HT.out]
          go_wp2
          go_ret
          exact ⟨by rw [HR.out]; rfl, rfl⟩
  exact main
/-- What the library's variables hold: the table of the powers of ten; its two errors, each some interface value. -/
structure Lds (w : World) : Prop where
  tab : Tab w
  syn : ∃ ev, w.cell? ⟨2, 0, none⟩ = some ev ∧ (ev = .nilIface ∨ ∃ te pe, ev = .iface te pe)
  rng : ∃ ev, w.cell? ⟨3, 0, none⟩ = some ev ∧ (ev = .nilIface ∨ ∃ te pe, ev = .iface te pe)
  len : ∃ m, w.cell? ⟨0, 0, none⟩ = some (.int .i64 m)
theorem cell_keeps {w w' : World} {a : Addr} {v : Value} (h : w.cell? a = some v) (b : Below w.heap.size w w') : w'.cell? a = some v := by
  rw [b.cell (World.block_lt_of_cell? _ _ h)]; exact h
theorem Lds.mono {w w' : World} (h : Lds w) (b : Below w.heap.size w w') : Lds w' :=
  ⟨h.tab.mono b, let ⟨ev, h1, h2⟩ := h.syn; ⟨ev, cell_keeps h1 b, h2⟩, let ⟨ev, h1, h2⟩ := h.rng; ⟨ev, cell_keeps h1 b, h2⟩, let ⟨m, h1⟩ := h.len; ⟨m, cell_keeps h1 b⟩⟩
theorem formatIntF_any (n : Int) (w : World) (h0 : -9223372036854775808 ≤ n) (h1 : n ≤ 9223372036854775807) (ht : Tab w) :
    Calls Tryd.prog 38 #[.int .i64 n, .int .i64 10] w fun e w' => e = .returned (.string ⟨(Lib.itoa n).toArray⟩) ∧ Below w.heap.size w w' :=
  (Any.strconv_FormatInt_10 shelf_laysM173 n (by omega) (by omega) w ht).mono fun e w' ⟨he, k, os, hw⟩ => ⟨he, by subst hw; exact Lib.below_grow _ w (Nat.le_refl _) k os⟩
theorem parseInt_bd {l : List UInt8} {v : Int} (h : Lib.parseIntB 64 l = .ok v) : -9223372036854775808 ≤ v ∧ v ≤ 9223372036854775807 := by
  cases l with
  | nil => cases h
  | cons c r =>
    simp only [Lib.parseIntB] at h
    split at h
    · cases h
    · cases h
    · rename_i u hu
      split at h
      · cases h
      · split at h
        · cases h
        · injection h with h
          subst h
          split <;> omega
theorem parseInt_any (a : ByteArray) (w : World) (ha : a.size ≤ 1048576) (L : Lds w) :
    Calls Tryd.prog 43 #[.string a, .int .i64 10, .int .i64 64] w fun e w' => (∃ v x, e = .returned (.tuple #[.int .i64 v, x]) ∧
      ((x = .nilIface ∧ Lib.parseIntB 64 (bL a) = .ok v) ∨ ((∃ N, x = .iface 75 (.pointer (some ⟨N, 0, none⟩))) ∧ ∀ v, Lib.parseIntB 64 (bL a) ≠ .ok v))) ∧ Below w.heap.size w w' := by
  rcases h : Lib.parseIntB 64 (bL a) with v | _ | _
  · refine (Any.strconv_ParseInt_10_at64_ok shelf_laysC174 a (by omega) v h w).mono fun e w' ⟨he, hw⟩ => ⟨⟨v, _, he, .inl ⟨rfl, rfl⟩⟩, ?_⟩
    rcases hw with rfl | ⟨t, rfl⟩
    · exact Below.refl _ _
    · exact Lib.bytesWorld_below _ _ _
  · obtain ⟨ev, hv, hev⟩ := L.syn
    exact (Any.strconv_ParseInt_10_at64_syntax shelf_laysC174 a (by omega) h ev w hv hev).mono fun e w' ⟨N, he, _, _, hb⟩ => ⟨⟨_, _, he, .inr ⟨⟨N, rfl⟩, fun v h => by cases h⟩⟩, hb⟩
  · obtain ⟨ev, hv, hev⟩ := L.rng
    exact (Any.strconv_ParseInt_10_at64_range shelf_laysC174 a (by omega) h ev w hv hev).mono fun e w' ⟨N, he, _, _, hb⟩ => ⟨⟨_, _, he, .inr ⟨⟨N, rfl⟩, fun v h => by cases h⟩⟩, hb⟩
theorem readDecimal_any (a : ByteArray) (w : World) (ha : a.size ≤ 1048576) (L : Lds w) :
    Calls Tryd.prog 25 #[.string a] w fun e w' => e = .returned (.tuple #[.int .i64 (readR (bL a)).1, .bool (readR (bL a)).2]) ∧ Below w.heap.size w w' := by
  go_enter Tryd.func25, Tryd.ntmps25
  go_wp2_with fail
  refine (parseInt_any a _ ha L).mono ?_
  rintro e w1 ⟨⟨v, x, rfl, ⟨rfl, hp⟩ | ⟨⟨N, rfl⟩, hn⟩⟩, B1⟩
  · obtain ⟨v0, v1⟩ := parseInt_bd hp
    have HR : Hid (readR (bL a) = if v < 0 ∨ 9 < (bL a).length ∨ Lib.itoa v ≠ bL a then (0, false) else (v, true)) := by simp only [Hid, readR, hp]
    clear hp
    by_cases hneg : v < 0
    · have HF : Hid (readR (bL a) = (0, false)) := by simp only [Hid]; rw [HR.out, if_pos (.inl hneg)]
      go_wp2
      go_ret2
      exact ⟨by rw [HF.out]; rfl, B1⟩
    · by_cases hl : 9 < a.size
      · have HF : Hid (readR (bL a) = (0, false)) := by simp only [Hid]; rw [HR.out, if_pos (.inr (.inl (by rw [bL_len]; exact hl)))]
        go_wp2
        go_ret2
        exact ⟨by rw [HF.out]; rfl, B1⟩
      · go_wp2_with fail
        refine (formatIntF_any v _ v0 v1 (L.tab.mono B1)).mono ?_
        rintro e w2 ⟨rfl, B2⟩
        by_cases he : Lib.itoa v = bL a
        · have HF : Hid (readR (bL a) = (v, true)) := by
            simp only [Hid]
            rw [HR.out, if_neg]
            rintro (h | h | h)
            · exact absurd h (by omega)
            · rw [bL_len] at h; exact hl h
            · exact h he
          have hs : (⟨(Lib.itoa v).toArray⟩ : ByteArray) = a := by rw [he, bL]
          rw [hs]
          clear he hs
          go_wp2
          go_ret2
          exact ⟨by rw [HF.out]; rfl, nx B1 B2⟩
        · have HF : Hid (readR (bL a) = (0, false)) := by simp only [Hid]; rw [HR.out, if_pos (.inr (.inr he))]
          obtain ⟨S, hS⟩ : ∃ S : ByteArray, S = ⟨(Lib.itoa v).toArray⟩ := ⟨_, rfl⟩
          have hne : (S.toList == a.toList) = false := by
            rw [beq_eq_false_iff_ne, hS, ByteArray.toList_eq, ByteArray.toList_eq]
            exact he
          rw [← hS]
          clear he hS
          go_wp2
          go_ret2
          exact ⟨by rw [HF.out]; rfl, nx B1 B2⟩
  · have HF : Hid (readR (bL a) = (0, false)) := by
      simp only [Hid, readR]
    clear hn
    go_wp2
    go_ret2
    exact ⟨by rw [HF.out]; rfl, B1⟩
end Go.Proofs.YtmhcpaffdchboaaDoor
