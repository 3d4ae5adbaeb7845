/-
  The draws that the laws call, and the laws' own small functions.
-/
import Derived.Test.YtnjaalblgakgaaaDrawS
namespace Go.Proofs.Ytnjaalblgakgaaa
open Go.RowKit
set_option maxRecDepth 100000
theorem notBlock {v : Value} {b : Nat} (h : ∀ k, v.ownBlock = some k → k ≠ b) : v.ownBlock = none ∨ v.ownBlock ≠ some b := by
  cases e : v.ownBlock with
  | none => exact .inl rfl
  | some r => exact .inr (fun x => h r e (by cases x; rfl))
theorem big_any (ao : Option Addr) (n cap : Nat) (w : World) (hn : n ≤ maxLen) :
    Calls Try.prog 19 #[.slice ao n cap] w fun e w' => e = .returned (.bool (decide (4096 < n))) ∧ w = w' := by
  unfold maxLen at hn
  go_enter Try.func19, Try.ntmps19
  go_wp2
  go_ret
  exact ⟨ret_bool (by apply Bool.eq_iff_iff.2; simp; try omega), rfl⟩
theorem mod5_any (n : Int) (w : World) :
    Calls Try.prog 37 #[.int .i64 n] w fun e w' => e = .returned (.int .i64 (n % 10007)) ∧ w = w' := by
  have h := tmod_bd n
  go_enter Try.func37, Try.ntmps37
  go_wp2
  go_ret
  exact ⟨ret_int (by have e := md_eq n; rwa [Int.tmod_eq_emod_of_nonneg (by omega)] at e), rfl⟩
theorem number5_any (b : Nat) (cv : Value) (w : World) (S : Src 64 b cv w) :
    Calls Try.prog 34 #[.pointer (some ⟨b, 0, none⟩)] w fun e w' => ∃ x : Int, e = .returned (.int .i64 x) ∧ 0 ≤ x ∧ x ≤ 10006 ∧ Src 64 b cv w' ∧ w.grownBy w' (some b) := by
  go_enter Try.func34, Try.ntmps34
  go_wp2_with fail
  refine (below_any b cv 2 _ S (by omega)).mono ?_
  rintro e w1 ⟨x, rfl, -, S1, G1⟩
  by_cases c0 : x = 0
  · go_wp2_with fail
    refine (below_any b cv 10007 _ S1 (by omega)).mono ?_
    rintro e w2 ⟨y, rfl, ⟨hy0, hy1, -⟩, S2, G2⟩
    go_wp2
    go_ret
    exact ⟨y, rfl, hy0, by have := hy1 (by omega); omega, S2, grown_trans G1 G2⟩
  · go_wp2_with fail
    refine (below_any b cv 9 _ S1 (by omega)).mono ?_
    rintro e w2 ⟨y, rfl, ⟨hy0, hy1, -⟩, S2, G2⟩
    have hy2 := hy1 (by omega)
    clear hy1
    go_wp2_with fail
    refine (mod5_any _ _).mono ?_
    rintro e w3 ⟨rfl, rfl⟩
    go_wp2
    go_ret
    exact ⟨_, rfl, (md_bd _).1, (md_bd _).2, S2, grown_trans G1 G2⟩
theorem list5_any (b : Nat) (cv : Value) (n : Nat) (w : World) (S : Src 64 b cv w) (hn : n ≤ 1000) :
    Calls Try.prog 33 #[.pointer (some ⟨b, 0, none⟩), .int .i64 n] w fun e w' => ∃ r zs, e = .returned r ∧ OwnI w.heap.size w' r zs ∧ Nums zs ∧ zs.length = n ∧ Src 64 b cv w' ∧ w.grownBy w' (some b) := by
  have hb := S.lt
  have S0 := S.alloc (.cells #[] 2)
  go_enter Try.func33, Try.ntmps33
  go_wp2
  go_loopw [1, 5] (fun m o wr => ∃ (k : Nat) (zs : List Int), m = .int .i64 k ∧ zs.length + k = n ∧ Nums zs ∧ OwnI w.heap.size wr o zs ∧ Src 64 b cv wr ∧ w.grownBy wr (some b)) (fun m _ _ => (intOf m).toNat)
  case atStart => exact ⟨n, [], rfl, by simp, rfl, OwnI.lit w _ (Nat.le_refl _), S0, gb_alloc (grown_refl _ _) _⟩
  case round =>
    obtain ⟨k, zs, rfl, hz, hZ, O, S, G⟩ := hrel
    have HO := hid O
    have HZ := hid hZ
    clear O hZ
    by_cases hk : k = 0
    · subst hk
      go_wp2
      go_ret
      exact ⟨_, zs, rfl, HO.out, HZ.out, by omega, S, G⟩
    · obtain ⟨q, rfl⟩ : ∃ q, k = q + 1 := ⟨k - 1, by omega⟩
      clear hk
      have hq : (0 : Int) < ((q + 1 : Nat) : Int) := by omega
      have hl : zs.length < 1048576 := by omega
      have hG := G.size
      go_wp2_with fail
      refine (number5_any b cv _ S).mono ?_
      rintro e w1 ⟨y, rfl, hy0, hy1, S1, G1⟩
      have hG1 := G1.size
      go_wp2_with (at_builtin; refine wpl_app rfl _ _ _ rfl Try.underlying22 info_i64 rfl ((HO.out.away G1 hb).mono (below_alloc _ _)) ⟨w1.heap.size, 0, none⟩ 1 _ rfl (cell_new1 _ _ _) hl (by simp <;> omega) ?_; intro v' W1 O4 G4 B4)
      have hlt := HO.out.own_lt
      have S4 := (S1.alloc (.cells #[.int .i64 y] 2)).grown G4 (fun r hr => by have := hlt r hr; omega)
      have G5 := gb_then (gb_alloc (grown_trans G G1) (.cells #[.int .i64 y] 2)) G4 (fun r hr => .inl (hlt r hr).1)
      clear G4 B4 hlt
      go_roundw
      case rel => exact ⟨q, _, by go_num, by simp only [List.length_append, List.length_singleton]; omega, nums_snoc HZ.out hy0 hy1, O4, S4, G5⟩
      case measure => simp [intOf]
theorem likeInts_same (v u : Value) (zs : List Int) (w : World) (h : RdI w v zs) (h' : RdI w u zs) :
    Calls Try.prog 21 #[v, u] w fun e w' => e = .returned (.bool true) ∧ Dr w w' := by
  have H := hid h
  have H' := hid h'
  obtain ⟨ao, cap, rfl, hcap, hmax, -⟩ := h
  obtain ⟨ao', cap', rfl, hcap', hmax', -⟩ := h'
  go_enter Try.func21, Try.ntmps21
  go_wp2
  go_loopw [5] (fun i wr => ∃ k : Nat, k ≤ zs.length ∧ i = .int .i64 k ∧ Dr w wr) (fun i _ => zs.length - (intOf i).toNat)
  case atStart => exact ⟨0, Nat.zero_le _, rfl, Dr.refl _⟩
  case round =>
    obtain ⟨k, hk, rfl, hdr⟩ := hrel
    by_cases hlt : k < zs.length
    · obtain ⟨b, off, rfl, hcell⟩ := (H.out.dr hdr).at_ hlt
      obtain ⟨b', off', rfl, hcell'⟩ := (H'.out.dr hdr).at_ hlt
      have HD := hid hdr
      clear hdr
      go_wp2_with fail
      go_quiet (fail)
      go_wp2
      go_roundw
      case rel => exact ⟨k + 1, by omega, by go_num, HD.out.drewN _⟩
      case measure => simp [intOf]; omega
    · go_wp2
      go_ret
      exact ⟨rfl, hdr⟩
theorem l02Pair_any (cv : Value) (m : Nat) (first : Int) (w : World) (h : RdB w.heap.size w cv m) :
    Calls Try.prog 75 #[cv, .int .i64 first] w fun e w' => ∃ r u xs ys, e = .returned (.tuple #[r, u]) ∧ OwnI w.heap.size w' r xs ∧ OwnI w.heap.size w' u ys ∧ Below w.heap.size w w' := by
  go_enter Try.func75, Try.ntmps75
  go_wp2_with fail
  refine (l01From_any cv m _ h).mono ?_
  rintro e w1 ⟨rfl, S1, B1⟩
  have hb1 := B1.size
  have hb := S1.lt
  go_wp2_with fail
  refine (l02Begin_any _ cv first _ S1).mono ?_
  rintro e w2 ⟨u, ys, rfl, O2, hy, S2, G2⟩
  obtain ⟨ao, cap, rfl⟩ := O2.form
  have T2 := below_of_grow B1 G2 (Nat.le_refl _) hb1
  go_wp2_with fail
  refine (l01Next_any _ cv 24 _ S2 (by omega)).mono ?_
  rintro e w3 ⟨x, rfl, -, S3, G3⟩
  have O3 := O2.away G3 hb
  have T3 := below_of_grow T2 G3 (Nat.le_refl _) T2.size
  clear S1 S2 O2
  by_cases c0 : x = 0
  · obtain ⟨n, hn⟩ : ∃ n, n = ys.length + 1 := ⟨_, rfl⟩
    have hn0 : (ys.length : Int) + 1 = (n : Int) := by omega
    have hn1 : n ≤ 1000 := by omega
    have HN := hid hn
    clear hn
    go_wp2_with fail
    refine (l02Draw_any _ cv n _ S3 hn1).mono ?_
    rintro e w4 ⟨r, xs, rfl, O4, hz, S4, G4⟩
    have O5 := O3.away G4 hb
    have T4 := below_of_grow T3 G4 (Nat.le_refl _) T3.size
    go_wp2
    go_ret2
    exact ⟨_, _, xs, ys, rfl, O4.lower T3.size, O5.lower hb1, T4⟩
  · go_wp2_with fail
    refine (l02Draw_any _ cv ys.length _ S3 (by omega)).mono ?_
    rintro e w4 ⟨r, xs, rfl, O4, hz, S4, G4⟩
    have O5 := O3.away G4 hb
    have T4 := below_of_grow T3 G4 (Nat.le_refl _) T3.size
    have HZ := hid hz
    clear hz
    go_wp2
    go_ret2
    exact ⟨_, _, xs, ys, rfl, O4.lower T3.size, O5.lower hb1, T4⟩
theorem drawComposeSeries_any (cv : Value) (m : Nat) (w : World) (h : RdB w.heap.size w cv m) :
    Calls Try.prog 30 #[cv] w fun e w' => ∃ r u xs ys, e = .returned (.tuple #[r, u]) ∧ OwnI w.heap.size w' r xs ∧ OwnI w.heap.size w' u ys ∧ Below w.heap.size w w' := by
  go_enter Try.func30, Try.ntmps30
  go_wp2_with fail
  refine (l02Pair_any cv m 0 _ h).mono ?_
  rintro e w1 ⟨r, u, xs, ys, rfl, O1, O2, B1⟩
  go_wp2
  go_ret2
  exact ⟨_, _, xs, ys, rfl, O1, O2, B1⟩
theorem drawDivideSeries_any (cv : Value) (m : Nat) (w : World) (h : RdB w.heap.size w cv m) :
    Calls Try.prog 23 #[cv] w fun e w' => ∃ r u xs ys, e = .returned (.tuple #[r, u]) ∧ OwnI w.heap.size w' r xs ∧ OwnI w.heap.size w' u ys ∧ Below w.heap.size w w' := by
  go_enter Try.func23, Try.ntmps23
  go_wp2_with fail
  refine (l01From_any cv m _ h).mono ?_
  rintro e w1 ⟨rfl, S1, B1⟩
  go_wp2_with fail
  refine (l01Number_any _ cv _ S1).mono ?_
  rintro e w2 ⟨x, rfl, -, -, S2, G2⟩
  have T2 := below_of_grow B1 G2 (Nat.le_refl _) B1.size
  go_wp2_with fail
  refine (l02Pair_any cv m x _ ((h.mono T2).lower T2.size)).mono ?_
  rintro e w3 ⟨r, u, xs, ys, rfl, O1, O2, B3⟩
  go_wp2
  go_ret2
  exact ⟨_, _, xs, ys, rfl, O1.lower T2.size, O2.lower T2.size, nx T2 B3⟩
theorem drawExpSeries_any (cv : Value) (m : Nat) (w : World) (h : RdB w.heap.size w cv m) :
    Calls Try.prog 38 #[cv] w fun e w' => ∃ r xs, e = .returned r ∧ OwnI w.heap.size w' r xs ∧ Below w.heap.size w w' := by
  go_enter Try.func38, Try.ntmps38
  go_wp2_with fail
  refine (l01From_any cv m _ h).mono ?_
  rintro e w1 ⟨rfl, S1, B1⟩
  go_wp2_with fail
  refine (l02Begin_any _ cv 0 _ S1).mono ?_
  rintro e w2 ⟨u, ys, rfl, O2, hy, S2, G2⟩
  go_wp2
  go_ret
  exact ⟨_, ys, rfl, O2.lower B1.size, below_of_grow B1 G2 (Nat.le_refl _) B1.size⟩
theorem drawReverseSeries_any (cv : Value) (m : Nat) (w : World) (h : RdB w.heap.size w cv m) :
    Calls Try.prog 20 #[cv] w fun e w' => ∃ r xs, e = .returned r ∧ OwnI w.heap.size w' r xs ∧ Below w.heap.size w w' := by
  go_enter Try.func20, Try.ntmps20
  go_wp2_with fail
  refine (l01From_any cv m _ h).mono ?_
  rintro e w1 ⟨rfl, S1, B1⟩
  have hb := S1.lt
  go_wp2_with fail
  refine (l02Begin_any _ cv 0 _ S1).mono ?_
  rintro e w2 ⟨u, ys, rfl, O2, hy, S2, G2⟩
  have T2 := below_of_grow B1 G2 (Nat.le_refl _) B1.size
  obtain ⟨ao, cap, rfl⟩ := O2.form
  by_cases hl : 1 < ys.length
  · have hl1 : (1 : Int) < (ys.length : Int) := by omega
    go_wp2_with fail
    refine (l01Next_any _ cv 8 _ S2 (by omega)).mono ?_
    rintro e w3 ⟨x, rfl, -, S3, G3⟩
    have O3 := O2.away G3 hb
    have T3 := below_of_grow T2 G3 (Nat.le_refl _) T2.size
    clear O2
    by_cases c0 : x = 0
    · obtain ⟨g, rfl⟩ := O3.addr (by omega)
      have hfr := O3.free 1
      have hc := O3.cell 1 hl
      have hg := O3.glt
      have O4 := of_set O3 1 0
      have T4 := below_of_grow T3 (grown_set w3 g 1 (.int .i64 0)) (by have := B1.size; omega) T3.size
      have HO := hid O4
      clear O3 O4
      go_wp2
      go_ret
      exact ⟨_, _, rfl, HO.out.lower B1.size, T4⟩
    · go_wp2
      go_ret
      exact ⟨_, ys, rfl, O3.lower B1.size, T3⟩
  · have hd : decide ((1 : Int) < (ys.length : Int)) = false := by simp; omega
    go_wp2
    go_ret
    exact ⟨_, ys, rfl, O2.lower B1.size, T2⟩
theorem drawDivideNumbers_any (cv : Value) (m : Nat) (w : World) (h : RdB w.heap.size w cv m) :
    Calls Try.prog 47 #[cv] w fun e w' => ∃ a b : Int, e = .returned (.tuple #[.int .i64 a, .int .i64 b]) ∧ Below w.heap.size w w' := by
  go_enter Try.func47, Try.ntmps47
  go_wp2_with fail
  refine (l01From_any cv m _ h).mono ?_
  rintro e w1 ⟨rfl, S1, B1⟩
  go_wp2_with fail
  refine (l01Spoil_any _ cv _ S1).mono ?_
  rintro e w2 ⟨a, rfl, S2, G2⟩
  have T2 := below_of_grow B1 G2 (Nat.le_refl _) B1.size
  go_wp2_with fail
  refine (l01Spoil_any _ cv _ S2).mono ?_
  rintro e w3 ⟨b, rfl, S3, G3⟩
  have T3 := below_of_grow T2 G3 (Nat.le_refl _) T2.size
  go_wp2
  go_ret2
  exact ⟨a, b, rfl, T3⟩
theorem drawSquareRoot_any (cv : Value) (m : Nat) (w : World) (h : RdB w.heap.size w cv m) :
    Calls Try.prog 42 #[cv] w fun e w' => ∃ a : Int, e = .returned (.int .i64 a) ∧ Below w.heap.size w w' := by
  go_enter Try.func42, Try.ntmps42
  go_wp2_with fail
  refine (l01From_any cv m _ h).mono ?_
  rintro e w1 ⟨rfl, S1, B1⟩
  go_wp2_with fail
  refine (l01Spoil_any _ cv _ S1).mono ?_
  rintro e w2 ⟨a, rfl, S2, G2⟩
  have T2 := below_of_grow B1 G2 (Nat.le_refl _) B1.size
  cases hn : isNum a with
  | true =>
    have HN := hid hn
    have na := isNum_yes hn
    clear hn
    go_wp2_with fail
    refine (sIsNumber_any a _).mono ?_
    rintro e w3 ⟨rfl, rfl⟩
    rw [HN.out]
    go_wp2_with fail
    refine (l01Next_any _ cv 2 _ S2 (by omega)).mono ?_
    rintro e w3 ⟨x, rfl, -, S3, G3⟩
    have T3 := below_of_grow T2 G3 (Nat.le_refl _) T2.size
    by_cases c0 : x = 0
    · go_wp2_with fail
      refine (l01Mul_any a a _ na.1 na.2 na.1 na.2).mono ?_
      rintro e w4 ⟨rfl, rfl⟩
      go_wp2
      go_ret
      exact ⟨_, rfl, T3⟩
    · go_wp2
      go_ret
      exact ⟨_, rfl, T3⟩
  | false =>
    have HN := hid hn
    clear hn
    go_wp2_with fail
    refine (sIsNumber_any a _).mono ?_
    rintro e w3 ⟨rfl, rfl⟩
    rw [HN.out]
    go_wp2
    go_ret
    exact ⟨_, rfl, T2⟩
end Go.Proofs.Ytnjaalblgakgaaa
