/-
  The draws that the laws call, and the laws' own small functions.
-/
import Derived.Test.YtmhcpaffdchboaaDrawS
namespace Go.Proofs.Ytmhcpaffdchboaa
open Go.RowKit
set_option maxRecDepth 100000
theorem notBlock {v : Value} {b : Nat} (h : ∀ k, v.ownBlock = some k → k ≠ b) : v.ownBlock = none ∨ v.ownBlock ≠ some b := by
  cases e : v.ownBlock with
  | none => exact .inl rfl
  | some r => exact .inr (fun x => h r e (by cases x; rfl))
theorem big_any (ao : Option Addr) (n cap : Nat) (w : World) (hn : n ≤ maxLen) :
    Calls Try.prog 26 #[.slice ao n cap] w fun e w' => e = .returned (.bool (decide (4096 < n))) ∧ w = w' := by
  unfold maxLen at hn
  go_enter Try.func26, Try.ntmps26
  go_wp2
  go_ret
  exact ⟨ret_bool (by apply Bool.eq_iff_iff.2; simp; try omega), rfl⟩
theorem mod5_any (n : Int) (w : World) :
    Calls Try.prog 30 #[.int .i64 n] w fun e w' => e = .returned (.int .i64 (n % 10007)) ∧ w = w' := by
  have h := tmod_bd n
  go_enter Try.func30, Try.ntmps30
  go_wp2
  go_ret
  exact ⟨ret_int (by have e := md_eq n; rwa [Int.tmod_eq_emod_of_nonneg (by omega)] at e), rfl⟩
theorem number5_any (b : Nat) (cv : Value) (w : World) (S : Src 65 b cv w) :
    Calls Try.prog 53 #[.pointer (some ⟨b, 0, none⟩)] w fun e w' => ∃ x : Int, e = .returned (.int .i64 x) ∧ 0 ≤ x ∧ x ≤ 10006 ∧ Src 65 b cv w' ∧ w.grownBy w' (some b) := by
  go_enter Try.func53, Try.ntmps53
  go_wp2_with fail
  refine (below_any b cv 2 _ S (by omega)).mono ?_
  rintro e w1 ⟨x, rfl, -, S1, G1⟩
  by_cases c0 : x = 0
  · go_wp2_with fail
    refine (below_any b cv 10007 _ S1 (by omega)).mono ?_
    rintro e w2 ⟨y, rfl, ⟨hy0, hy1, -⟩, S2, G2⟩
    go_wp2
    go_ret
    exact ⟨y, rfl, hy0, by have := hy1 (by omega); omega, S2, grown_trans G1 G2⟩
  · go_wp2_with fail
    refine (below_any b cv 9 _ S1 (by omega)).mono ?_
    rintro e w2 ⟨y, rfl, ⟨hy0, hy1, -⟩, S2, G2⟩
    have hy2 := hy1 (by omega)
    clear hy1
    go_wp2_with fail
    refine (mod5_any _ _).mono ?_
    rintro e w3 ⟨rfl, rfl⟩
    go_wp2
    go_ret
    exact ⟨_, rfl, (md_bd _).1, (md_bd _).2, S2, grown_trans G1 G2⟩
theorem list5_any (b : Nat) (cv : Value) (n : Nat) (w : World) (S : Src 65 b cv w) (hn : n ≤ 1000) :
    Calls Try.prog 29 #[.pointer (some ⟨b, 0, none⟩), .int .i64 n] w fun e w' => ∃ r zs, e = .returned r ∧ OwnI w.heap.size w' r zs ∧ Nums zs ∧ zs.length = n ∧ Src 65 b cv w' ∧ w.grownBy w' (some b) := by
  have hb := S.lt
  have S0 := S.alloc (.cells #[] 2)
  go_enter Try.func29, Try.ntmps29
  go_wp2
  go_loopw [1, 5] (fun m o wr => ∃ (k : Nat) (zs : List Int), m = .int .i64 k ∧ zs.length + k = n ∧ Nums zs ∧ OwnI w.heap.size wr o zs ∧ Src 65 b cv wr ∧ w.grownBy wr (some b)) (fun m _ _ => (intOf m).toNat)
  case atStart => exact ⟨n, [], rfl, by simp, rfl, OwnI.lit w _ (Nat.le_refl _), S0, gb_alloc (grown_refl _ _) _⟩
  case round =>
    obtain ⟨k, zs, rfl, hz, hZ, O, S, G⟩ := hrel
    have HO := hid O
    have HZ := hid hZ
    clear O hZ
    by_cases hk : k = 0
    · subst hk
      go_wp2
      go_ret
      exact ⟨_, zs, rfl, HO.out, HZ.out, by omega, S, G⟩
    · obtain ⟨q, rfl⟩ : ∃ q, k = q + 1 := ⟨k - 1, by omega⟩
      clear hk
      have hq : (0 : Int) < ((q + 1 : Nat) : Int) := by omega
      have hl : zs.length < 1048576 := by omega
      have hG := G.size
      go_wp2_with fail
      refine (number5_any b cv _ S).mono ?_
      rintro e w1 ⟨y, rfl, hy0, hy1, S1, G1⟩
      have hG1 := G1.size
      go_wp2_with (at_builtin; refine wpl_app rfl _ _ _ rfl Try.underlying32 info_i64 rfl ((HO.out.away G1 hb).mono (below_alloc _ _)) ⟨w1.heap.size, 0, none⟩ 1 _ rfl (cell_new1 _ _ _) hl (by simp <;> omega) ?_; intro v' W1 O4 G4 B4)
      have hlt := HO.out.own_lt
      have S4 := (S1.alloc (.cells #[.int .i64 y] 2)).grown G4 (fun r hr => by have := hlt r hr; omega)
      have G5 := gb_then (gb_alloc (grown_trans G G1) (.cells #[.int .i64 y] 2)) G4 (fun r hr => .inl (hlt r hr).1)
      clear G4 B4 hlt
      go_roundw
      case rel => exact ⟨q, _, by go_num, by simp only [List.length_append, List.length_singleton]; omega, nums_snoc HZ.out hy0 hy1, O4, S4, G5⟩
      case measure => simp [intOf]
theorem likeInts_same (v u : Value) (zs : List Int) (w : World) (h : RdI w v zs) (h' : RdI w u zs) :
    Calls Try.prog 33 #[v, u] w fun e w' => e = .returned (.bool true) ∧ Dr w w' := by
  have H := hid h
  have H' := hid h'
  obtain ⟨ao, cap, rfl, hcap, hmax, -⟩ := h
  obtain ⟨ao', cap', rfl, hcap', hmax', -⟩ := h'
  go_enter Try.func33, Try.ntmps33
  go_wp2
  go_loopw [5] (fun i wr => ∃ k : Nat, k ≤ zs.length ∧ i = .int .i64 k ∧ Dr w wr) (fun i _ => zs.length - (intOf i).toNat)
  case atStart => exact ⟨0, Nat.zero_le _, rfl, Dr.refl _⟩
  case round =>
    obtain ⟨k, hk, rfl, hdr⟩ := hrel
    by_cases hlt : k < zs.length
    · obtain ⟨b, off, rfl, hcell⟩ := (H.out.dr hdr).at_ hlt
      obtain ⟨b', off', rfl, hcell'⟩ := (H'.out.dr hdr).at_ hlt
      have HD := hid hdr
      clear hdr
      go_wp2_with fail
      go_quiet (fail)
      go_wp2
      go_roundw
      case rel => exact ⟨k + 1, by omega, by go_num, HD.out.drewN _⟩
      case measure => simp [intOf]; omega
    · go_wp2
      go_ret
      exact ⟨rfl, hdr⟩
end Go.Proofs.Ytmhcpaffdchboaa
