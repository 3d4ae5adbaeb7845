/-
  The walks of the text of a number, the reference's side: the greatest common divisor by trial, the decimal.
-/
import Derived.Test.YtmhcpaffdchboaaDoorRows
import Derived.Test.YtmhcpaffdchboaaDoorTxtP
import Derived.Test.YtmhcpaffdchboaaDoorMem
import Derived.Test.YtmhcpaffdchboaaDoorField
import Derived.Test.YtmhcpaffdchboaaDoorShelf
import Derived.Lib.SlBytesRow
import Derived.Lib.ItoaLen
import Derived.Outline
namespace Go.Proofs.YtmhcpaffdchboaaDoor
open Go.RowKit
set_option maxRecDepth 100000
set_option linter.unusedVariables false
theorem str_add (l m : List UInt8) : (⟨l.toArray⟩ : ByteArray) ++ ⟨m.toArray⟩ = ⟨(l ++ m).toArray⟩ := by
  apply ByteArray.ext
  simp
theorem conv_byte (w : World) (b c : Nat) (x : Int) (hx0 : 0 ≤ x) (hx : x < 256) (hc : w.cell? ⟨b, 0, none⟩ = some (.int .u8 x)) :
    (convert 28 9 (.slice (some ⟨b, 0, none⟩) 1 c)).run Tryd.prog w = .ok (.string ⟨#[UInt8.ofNat x.toNat]⟩) w :=
  Lib.run_convert_whole w _ _ _ Tryd.underlying28 Tryd.underlying5 Tryd.underlying9 b 0 ⟨#[UInt8.ofNat x.toNat]⟩ (fun i hi => by
    have : i = 0 := by simp [ByteArray.size] at hi; omega
    subst this
    rw [hc]
    have e : (⟨#[UInt8.ofNat x.toNat]⟩ : ByteArray)[0] = UInt8.ofNat x.toNat := rfl
    have h2 : x.toNat < 256 := by omega
    rw [e, UInt8.toNat_ofNat_of_lt' (by simpa using h2)]
    congr 2; omega) c
theorem bsz (l : List UInt8) : (⟨l.toArray⟩ : ByteArray).size = l.length := by simp [ByteArray.size]
theorem dec_len (n : Nat) (hn : n ≤ 1000000000) : (Lib.decDigits n).length ≤ 21 := by
  have := Lib.itoa_length_le (n : Int) (by omega) (by omega)
  rwa [Lib.itoa_nonneg] at this
theorem kept_byte {w w1 : World} {x : Int} {t : TypeId} (B : Below (w.drew.alloc (.cells #[.int .u8 x] t)).heap.size (w.drew.alloc (.cells #[.int .u8 x] t)) w1) : w1.cell? ⟨w.heap.size, 0, none⟩ = some (.int .u8 x) := by
  rw [B.cell (by simp)]
  exact World.cell?_alloc_mark w.drew _ _ _ _
theorem divisor_any (a b : Int) (w : World) (ha : -10007 ≤ a) (ha' : a ≤ 10007) (hb : 0 ≤ b) (hb' : b ≤ 10007) :
    Calls Tryd.prog 37 #[.int .i64 a, .int .i64 b] w fun e w' => e = .returned (.int .i64 (Int.gcd a b)) ∧ Dr w w' := by
  go_enter Tryd.func37, Tryd.ntmps37
  go_wp2
  go_loopw [0, 1] (fun x y wr => ∃ (c d : Int), x = .int .i64 c ∧ y = .int .i64 d ∧ -10007 ≤ c ∧ c ≤ 10007 ∧ -10007 ≤ d ∧ d ≤ 10007 ∧ Int.gcd c d = Int.gcd a b ∧ Dr w wr) (fun _ y _ => (intOf y).natAbs)
  case atStart => exact ⟨a, b, rfl, rfl, ha, ha', by omega, hb', rfl, ⟨0, rfl⟩⟩
  case round =>
    obtain ⟨c, d, rfl, rfl, h0, h1, h2, h3, hg, hD⟩ := hrel
    by_cases hz : d = 0
    · subst hz
      have hgc : (c.natAbs : Int) = Int.gcd a b := by rw [← hg]; simp
      go_wp2
      go_ret
      exact ⟨ret_int (by show max c (-c) = _; omega), hD⟩
    · have hm := gcd_step c d
      have hm1 : (c.tmod d).natAbs < d.natAbs := by rw [Int.natAbs_tmod]; exact Nat.mod_lt _ (by omega)
      go_wp2
      go_region
      all_goals
        go_roundw
        case rel => exact ⟨_, _, _, _, _, _, _, _, ⟨d, c.tmod d, rfl, rfl, h2, h3, by omega, by omega, hm.trans hg, hD.drew⟩, rfl⟩
        case measure => simp only [intOf]; exact hm1
theorem l01Common_any (p q : Int) (w : World) (hp : -70 ≤ p) (hp' : p ≤ 70) (hq : 1 ≤ q) (hq' : q ≤ 70) :
    Calls Tryd.prog 35 #[.int .i64 p, .int .i64 q] w fun e w' => (∃ b : Int, e = .returned (.int .i64 b) ∧ (b ≤ 1 ↔ Int.gcd p q = 1)) ∧ w' = w := by
  go_enter Tryd.func35, Tryd.ntmps35
  go_wp2
  go_loop [5, 6] (fun x y => ∃ (b d : Int), x = .int .i64 b ∧ y = .int .i64 d ∧ 1 ≤ d ∧ d ≤ q + 1 ∧ 1 ≤ b ∧ b ∣ p ∧ b ∣ q ∧ ∀ e : Int, 1 ≤ e → e < d → e ∣ p → e ∣ q → e ≤ b) (fun _ y => (q + 1 - intOf y).toNat)
  case atStart => exact ⟨1, 1, rfl, rfl, by omega, by omega, by omega, Int.one_dvd _, Int.one_dvd _, fun e h1 h2 _ _ => by omega⟩
  case round =>
    obtain ⟨b, d, rfl, rfl, h0, h1, h2, h3, h4, h5⟩ := hrel
    by_cases hlt : d ≤ q
    · by_cases hdp : d ∣ p
      · by_cases hdq : d ∣ q
        · have e1 := (tmod_zero_iff p d).2 hdp
          have e2 := (tmod_zero_iff q d).2 hdq
          go_wp2
          go_round
          case rel => exact ⟨d, d + 1, rfl, by go_num, by omega, by omega, by omega, hdp, hdq, fun e _ he _ _ => by omega⟩
          case measure => simp [intOf]; omega
        · have e1 := (tmod_zero_iff p d).2 hdp
          have e2 : ¬ (q.tmod d = 0) := fun e => hdq ((tmod_zero_iff q d).1 e)
          go_wp2
          go_round
          case rel => exact ⟨b, d + 1, rfl, by go_num, by omega, by omega, h2, h3, h4, fun e h6 he h7 h8 => by rcases Int.lt_or_eq_of_le (show e ≤ d by omega) with h | h; exact h5 e h6 h h7 h8; exact absurd (h ▸ h8) hdq⟩
          case measure => simp [intOf]; omega
      · have e1 : ¬ (p.tmod d = 0) := fun e => hdp ((tmod_zero_iff p d).1 e)
        go_wp2
        go_round
        case rel => exact ⟨b, d + 1, rfl, by go_num, by omega, by omega, h2, h3, h4, fun e h6 he h7 h8 => by rcases Int.lt_or_eq_of_le (show e ≤ d by omega) with h | h; exact h5 e h6 h h7 h8; exact absurd (h ▸ h7) hdp⟩
        case measure => simp [intOf]; omega
    · obtain rfl : d = q + 1 := by omega
      go_wp2
      go_ret
      exact ⟨⟨b, rfl, best_gcd p q b hq h2 h3 h4 (fun e h6 he h7 h8 => h5 e h6 (by omega) h7 h8)⟩, rfl⟩
theorem l01Dec_any (n : Nat) : ∀ (w : World), n ≤ 1000000000 →
    Calls Tryd.prog 36 #[.int .i64 n] w fun e w' => e = .returned (.string ⟨(Lib.decDigits n).toArray⟩) ∧ Below w.heap.size w w' := by
  induction n using Nat.strongRecOn with
  | ind n ih =>
    intro w hn
    by_cases h : n < 10
    · have hc := conv_byte (w.alloc (.cells #[.int .u8 (48 + (n : Int))] 5)) w.heap.size 1 (48 + (n : Int)) (by omega) (by omega) (by rw [World.cell?_alloc_mark]; rfl)
      go_enter Tryd.func36, Tryd.ntmps36
      go_wp2
      go_ret
      refine ⟨?_, below_alloc _ _⟩
      rw [dec_small n h]; rfl
    · have hb : ¬ (n : Int) < 10 := by omega
      have hq0 : 0 ≤ (n : Int) / 10 := by omega
      have hq1 : (n : Int) / 10 ≤ 1000000000 := by omega
      have hr0 : 0 ≤ (n : Int) % 10 := by omega
      have hr1 : (n : Int) % 10 < 10 := by omega
      have e2 : (n : Int).tmod 10 = (n : Int) % 10 := Int.tmod_eq_emod_of_nonneg (by omega)
      have hw1 : IntKind.i64.wrap ((n : Int) / 10) = (n : Int) / 10 := IntWalk.i64_in _ (by omega)
      have hw2 : IntKind.i64.wrap (48 + (n : Int) % 10) = 48 + (n : Int) % 10 := IntWalk.i64_in _ (by omega)
      have hw3 : IntKind.u8.wrap (48 + (n : Int) % 10) = 48 + (n : Int) % 10 := by simp [IntKind.wrap, IntKind.bits, IntKind.signed]; omega
      obtain ⟨S1, hS1⟩ : ∃ S1 : ByteArray, S1 = ⟨(Lib.decDigits (n / 10)).toArray⟩ := ⟨_, rfl⟩
      obtain ⟨S2, hS2⟩ : ∃ S2 : ByteArray, S2 = ⟨#[UInt8.ofNat (48 + (n : Int) % 10).toNat]⟩ := ⟨_, rfl⟩
      have hz1' : (S1.size : Int) ≤ 8388608 := by rw [hS1, bsz]; have := dec_len (n / 10) (by omega); omega
      have hz2' : (S2.size : Int) ≤ 8388608 := by rw [hS2]; simp [ByteArray.size]
      have hz1 : S1.size ≤ 21 := by rw [hS1, bsz]; exact dec_len _ (by omega)
      have hz2 : S2.size ≤ 1 := by rw [hS2]; simp [ByteArray.size]
      have HB : Hid (S1 ++ S2 = ⟨(Lib.decDigits n).toArray⟩) := by
        simp only [Hid]
        rw [hS1, hS2, dec_big n h, show (48 + (n : Int) % 10).toNat = 48 + n % 10 by omega]
        exact str_add _ [_]
      have IH : Hid (∀ w : World, Calls Tryd.prog 36 #[.int .i64 ((n : Int) / 10)] w fun e w' => e = .returned (.string S1) ∧ Below w.heap.size w w') := fun w => by have := ih (n / 10) (by omega) w (by omega); rwa [Int.natCast_ediv, ← hS1] at this
      have HS2 := hid hS2
      clear ih hS1 hS2
      go_enter Tryd.func36, Tryd.ntmps36
      go_wp2
      have hcv0 : ∀ W : World, (convert 28 9 (.slice (some ⟨W.heap.size, 0, none⟩) 1 1)).run Tryd.prog (W.alloc (.cells #[.int .u8 (48 + (n : Int) % 10)] 5)) = .ok (.string S2) (W.alloc (.cells #[.int .u8 (48 + (n : Int) % 10)] 5)) := fun W => by rw [HS2.out]; exact conv_byte (W.alloc (.cells #[.int .u8 (48 + (n : Int) % 10)] 5)) W.heap.size 1 (48 + (n : Int) % 10) (by omega) (by omega) (by rw [World.cell?_alloc_mark]; rfl)
      have hcv1 : (convert 28 9 (.slice (some ⟨w.heap.size, 0, none⟩) 1 1)).run Tryd.prog (w.alloc (.cells #[.int .u8 (48 + (n : Int) % 10)] 5)).drew = .ok (.string S2) (w.alloc (.cells #[.int .u8 (48 + (n : Int) % 10)] 5)).drew := hcv0 w.drew
      go_region_with (first | (go_at_call 36; refine (IH.out _).mono ?_; rintro e w1 ⟨rfl, B1⟩; try (have hcv := conv_byte w1 w.heap.size 1 (48 + (n : Int) % 10) (by omega) (by omega) (kept_byte B1); rw [← HS2.out] at hcv)))
      all_goals
        go_wp2
        go_ret
        refine ⟨by rw [← HB.out]; rfl, ?_⟩
        first
          | exact nx (below_alloc w _).drew B1
          | exact (nx (below_drew w) B1).alloc B1.size _
end Go.Proofs.YtmhcpaffdchboaaDoor
