/-
  Plain laws of numbers for the laws of the first layer.
-/
import Derived.Test.YtmhcpaffdchboaaDoorRootFns
import Derived.Test.YtmhcpaffdchboaaDoorNumFns
import Derived.Test.YtmhcpaffdchboaaDoorNumLaws
import Derived.Test.YtmhcpaffdchboaaDoorFermat
import Derived.Test.YtmhcpaffdchboaaDoorFld
namespace Go.Proofs.YtmhcpaffdchboaaDoor
theorem okR_yes {a b v : Int} (ha : isNum a = true) (hb : isNum b = true) : okR (two a b) v = (v, 0) := by simp [okR, two, ha, hb]
theorem divR_zero {a b : Int} (h : (divR a b).2 = 0) : isNum a = true ∧ isNum b = true ∧ b ≠ 0 ∧ divR a b = (a * invM b % 10007, 0) := by
  unfold divR at h ⊢
  split at h
  · rename_i h2
    split at h
    · cases h
    · rename_i hb
      simp only [two, Bool.and_eq_true] at h2
      exact ⟨h2.1, h2.2, hb, by rw [if_pos (by simp [two, h2.1, h2.2]), if_neg hb]⟩
  · cases h
/-- A number as an element, and back. -/
theorem num_F {a : Int} (h : isNum a = true) : ∃ A : F, a = vI A := ⟨fI a, (vI_fI_num h).symm⟩
theorem md_num (n : Int) : isNum (n % 10007) = true := by rw [isNum_iff]; exact md_bd n
theorem div_back {a b : Int} (ha : isNum a = true) (hb : isNum b = true) (h0 : b ≠ 0) : a * invM b % 10007 * b % 10007 = a := by
  obtain ⟨A, rfl⟩ := num_F ha
  obtain ⟨B, rfl⟩ := num_F hb
  have hB : B ≠ 0 := fun e => h0 (by rw [e, vI_zero])
  have h := mul_fi hB
  rw [← vI_fi, ← vI_mul, ← vI_mul]
  congr 1
  grind
theorem dist_law {a b c : Int} (ha : isNum a = true) (hb : isNum b = true) (hc : isNum c = true) : (a + b) % 10007 * c % 10007 = (a * c % 10007 + b * c % 10007) % 10007 := by
  obtain ⟨A, rfl⟩ := num_F ha
  obtain ⟨B, rfl⟩ := num_F hb
  obtain ⟨C, rfl⟩ := num_F hc
  rw [← vI_add, ← vI_mul, ← vI_mul, ← vI_mul, ← vI_add]
  congr 1
  grind
theorem sub_law {p r : Int} (hp : isNum p = true) (hr : isNum r = true) : ((p + r) % 10007 - r) % 10007 = p := by
  have := isNum_yes hp; have := isNum_yes hr; omega
/-- The power of an element with an exponent that may be negative. -/
def zp (B : F) (m : Int) : F := if 0 ≤ m then B ^ m.toNat else fi B ^ (-m).toNat
theorem powF_add (B : F) (i j : Nat) : B ^ (i + j) = B ^ i * B ^ j := by
  induction j with
  | zero => rw [Nat.add_zero, show B ^ 0 = 1 by grind]; grind
  | succ j ih => rw [← Nat.add_assoc, show B ^ (i + j + 1) = B ^ (i + j) * B by grind, ih, show B ^ (j + 1) = B ^ j * B by grind]; grind
theorem powF_inv {B : F} (hB : B ≠ 0) (k : Nat) : fi B ^ k * B ^ k = 1 := by
  induction k with
  | zero => rw [show fi B ^ 0 = 1 by grind, show B ^ 0 = 1 by grind]; grind
  | succ k ih =>
    have h := mul_fi hB
    rw [show fi B ^ (k + 1) = fi B ^ k * fi B by grind, show B ^ (k + 1) = B ^ k * B by grind]
    grind
theorem zp_shift {B : F} (hB : B ≠ 0) (m : Int) (N : Nat) (h : 0 ≤ m + N) : zp B m * B ^ N = B ^ (m + N).toNat := by
  unfold zp
  split
  · rw [← powF_add]; congr 1; omega
  · obtain ⟨k, hk⟩ : ∃ k, k = (-m).toNat := ⟨_, rfl⟩
    rw [← hk, show N = k + (m + N).toNat by omega, powF_add, show fi B ^ k * (B ^ k * B ^ (m + N).toNat) = fi B ^ k * B ^ k * B ^ (m + N).toNat by grind, powF_inv hB]
    rw [show ((m : Int) + ((k + (m + N).toNat : Nat) : Int)).toNat = (m + N).toNat by omega]
    grind
theorem zp_add {B : F} (hB : B ≠ 0) (m n : Int) (hm : -20 ≤ m) (hn : -20 ≤ n) : zp B m * zp B n = zp B (m + n) := by
  have h1 := zp_shift hB m 20 (by omega)
  have h2 := zp_shift hB n 20 (by omega)
  have h3 := zp_shift hB (m + n) (20 + 20) (by omega)
  have h4 := powF_inv hB (20 + 20)
  rw [show (m + n + ((20 + 20 : Nat) : Int)).toNat = (m + (20 : Nat)).toNat + (n + (20 : Nat)).toNat by omega, powF_add B (m + (20 : Nat)).toNat (n + (20 : Nat)).toNat, ← h1, ← h2] at h3
  have h5 := powF_add B 20 20
  have : zp B m * zp B n * B ^ (20 + 20) = zp B (m + n) * B ^ (20 + 20) := by rw [h3, h5]; grind
  have e : ∀ x : F, x = x * B ^ (20 + 20) * fi B ^ (20 + 20) := fun x => by
    rw [show x * B ^ (20 + 20) * fi B ^ (20 + 20) = x * (fi B ^ (20 + 20) * B ^ (20 + 20)) by grind, h4]; grind
  rw [e (zp B m * zp B n), this, ← e]
theorem powerR_zp {b : Int} (hb : isNum b = true) (h0 : b ≠ 0) (m : Int) (h1 : -1000000000 ≤ m) (h2 : m ≤ 1000000000) : powerR b m = (vI (zp (fI b) m), 0) := by
  unfold powerR
  rw [if_pos ⟨hb, by rw [inR_iff]; exact ⟨h1, h2⟩⟩]
  unfold zp
  split
  · rw [vI_pow, vI_fI_num hb]
  · first | rw [if_neg h0, vI_pow, vI_fi, vI_fI_num hb] | rw [vI_pow, vI_fi, vI_fI_num hb]
theorem pow_law {b : Int} (hb : isNum b = true) (h0 : b ≠ 0) (m n : Int) (hm : -20 ≤ m) (hn : -20 ≤ n) : vI (zp (fI b) m) * vI (zp (fI b) n) % 10007 = vI (zp (fI b) (m + n)) := by
  have hB : fI b ≠ 0 := fun e => h0 (by rw [← vI_fI_num hb, e, vI_zero])
  rw [← vI_mul, zp_add hB m n hm hn]
theorem leastB_spec (p : Nat → Bool) (n : Nat) (h : 0 ≤ leastB p n) : ∃ k : Nat, leastB p n = k ∧ k < n ∧ p k = true := by
  induction n with
  | zero => simp [leastB] at h
  | succ n ih =>
    rw [leastB] at h ⊢
    split
    · split
      · exact ⟨n, rfl, by omega, by assumption⟩
      · rename_i h1 h2
        rw [if_pos h1, if_neg h2] at h; omega
    · rename_i h1
      rw [if_neg h1] at h
      obtain ⟨k, a, b, c⟩ := ih h
      exact ⟨k, a, by omega, c⟩
theorem sqrtR_zero {a : Int} (h : (sqrtR a).2 = 0) : ∃ r : Int, sqrtR a = (r, 0) ∧ 0 ≤ r ∧ r ≤ 10006 ∧ r * r % 10007 = a := by
  unfold sqrtR at h ⊢
  split at h
  · rename_i hn
    split at h
    · cases h
    · rename_i h2
      rw [if_pos hn, if_neg h2]
      have h3 : 0 ≤ rootI a 2 := by omega
      unfold rootI at h3
      obtain ⟨k, a1, b, c⟩ := leastB_spec _ _ h3
      refine ⟨rootI a 2, rfl, by omega, ?_, ?_⟩
      · unfold rootI; omega
      · have e : rootI a 2 = k := by unfold rootI; exact a1
        rw [e]
        unfold isRoot at c
        rw [decide_eq_true_iff, powM_two] at c
        exact c
  · cases h
theorem sq_eq {j b : Int} (hj : 0 ≤ j) (hj' : j ≤ 10006) (hb : 0 ≤ b) (hb' : b ≤ 10006) (h : j * j % 10007 = b * b % 10007) : j = b ∨ j = (-b) % 10007 := by
  by_cases hjb : j = b
  · exact .inl hjb
  right
  have h1 : (j - b) * (j + b) % 10007 = 0 := by
    have e : (j - b) * (j + b) = j * j - b * b := by grind
    rw [e]; omega
  rcases Int.lt_or_gt_of_ne hjb with hl | hl
  · have h2 : (b - j) * (j + b) % 10007 = 0 := by
      have e : (b - j) * (j + b) = -((j - b) * (j + b)) := by grind
      rw [e]; omega
    have := mul_zero_cancel (a := b - j) (by omega) (by omega) h2
    omega
  · have := mul_zero_cancel (a := j - b) (by omega) (by omega) h1
    omega
/-- The least root of a square. -/
theorem root_sq {b : Int} (hb : isNum b = true) : rootI (powM b 2) 2 = if b ≤ (-b) % 10007 then b else (-b) % 10007 := by
  have nb := isNum_yes hb
  have hn := md_bd (-b)
  obtain ⟨r, hr⟩ : ∃ r, r = if b ≤ (-b) % 10007 then b else (-b) % 10007 := ⟨_, rfl⟩
  rw [← hr]
  have hr1 : r ≤ b ∧ r ≤ (-b) % 10007 ∧ 0 ≤ r ∧ r ≤ 10006 := by rw [hr]; split <;> omega
  have hrr : r * r % 10007 = b * b % 10007 := by
    rw [hr]; split
    · rfl
    · rw [Int.mul_emod, Int.emod_emod_of_dvd _ (Int.dvd_refl _), ← Int.mul_emod]; congr 1; grind
  obtain ⟨k, hk⟩ := Int.eq_ofNat_of_zero_le hr1.2.2.1
  refine (rootI_hit (r := r) (m := k) hk (by omega) ?_ fun j hj => ?_).symm
  · unfold isRoot; rw [decide_eq_true_iff, powM_two, powM_two, ← hk]; exact hrr
  · unfold isRoot
    rw [decide_eq_false_iff_not, powM_two, powM_two]
    intro e
    rcases sq_eq (by omega) (by omega) nb.1 nb.2 e with h | h <;> omega
theorem sqrt_sq {b : Int} (hb : isNum b = true) : sqrtR (powM b 2) = (if b ≤ (-b) % 10007 then b else (-b) % 10007, 0) := by
  have nb := isNum_yes hb
  have hn := md_bd (-b)
  unfold sqrtR
  rw [if_pos (by rw [isNum_iff]; exact powM_bd _ _), root_sq hb, if_neg (by split <;> omega)]
theorem root_cube {b : Int} (hb : isNum b = true) : rootR (powM b 3) 3 = (b, 0) := by
  have hc : isNum (powM b 3) = true := by rw [isNum_iff]; exact powM_bd _ _
  unfold rootR
  rw [if_pos ⟨hc, isK_three⟩, show (3 : Int).toNat = 3 from rfl, root_eq hc 3 6671 2 (by decide), powM_mul, show 3 * 6671 = 10006 * 2 + 1 from rfl, powM_wrap hb]
theorem root_fifth {b : Int} (hb : isNum b = true) : rootR (powM b 5) 5 = (b, 0) := by
  have hc : isNum (powM b 5) = true := by rw [isNum_iff]; exact powM_bd _ _
  unfold rootR
  rw [if_pos ⟨hc, isK_five⟩, show (5 : Int).toNat = 5 from rfl, root_eq hc 5 8005 4 (by decide), powM_mul, show 5 * 8005 = 10006 * 4 + 1 from rfl, powM_wrap hb]
theorem powerR_nat {b : Int} (hb : isNum b = true) (k : Nat) (hk : k ≤ 1000) : powerR b k = (powM b k, 0) := by
  unfold powerR
  rw [if_pos ⟨hb, by rw [inR_iff]; omega⟩, if_pos (by omega), Int.toNat_natCast]
end Go.Proofs.YtmhcpaffdchboaaDoor
