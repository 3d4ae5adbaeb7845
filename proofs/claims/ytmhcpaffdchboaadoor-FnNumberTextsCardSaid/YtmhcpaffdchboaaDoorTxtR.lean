/-
  The text of a number is parsed to it: the plain law.
-/
import Derived.Test.YtmhcpaffdchboaaDoorParN
import Derived.Test.YtmhcpaffdchboaaDoorSplP
import Derived.Test.YtmhcpaffdchboaaDoorTxtS
import Derived.Test.YtmhcpaffdchboaaDoorFermat
namespace Go.Proofs.YtmhcpaffdchboaaDoor
set_option linter.unusedVariables false
theorem dec_dig (n : Nat) : ∀ c ∈ Lib.decDigits n, 48 ≤ c.toNat ∧ c.toNat ≤ 57 := by
  induction n using Nat.strongRecOn with
  | ind n ih =>
    have e : ∀ d, d < 10 → (UInt8.ofNat (48 + d)).toNat = 48 + d := fun d hd => UInt8.toNat_ofNat_of_lt' (by show _ < 256; omega)
    by_cases h : n < 10
    · rw [dec_small n h]
      intro c hc
      simp only [List.mem_singleton] at hc
      subst hc
      rw [e n h]; omega
    · rw [dec_big n h]
      intro c hc
      rcases List.mem_append.1 hc with hc | hc
      · exact ih (n / 10) (by omega) c hc
      · simp only [List.mem_singleton] at hc
        subst hc
        rw [e _ (by omega)]; omega
theorem dec_no47 (n : Nat) : ∀ c ∈ Lib.decDigits n, c ≠ 47 := fun c hc e => by
  have := dec_dig n c hc
  rw [e] at this
  have h47 : (47 : UInt8).toNat = 47 := rfl
  omega
theorem valB_dec (n : Nat) (hn : n < 1000000000) : valB (bA (Lib.decDigits n)) = n := by
  have h1 := readR_eq (bA (Lib.decDigits n))
  rw [bL_bA] at h1
  unfold readR at h1
  rw [parseInt_dec n hn] at h1
  have h2 : (Lib.decDigits n).length ≤ 9 := dec_length 8 n (by simpa using hn)
  have h3 : (if (n : Int) < 0 ∨ 9 < (Lib.decDigits n).length ∨ Lib.itoa n ≠ Lib.decDigits n then ((0 : Int), false) else ((n : Int), true)) = ((n : Int), true) := if_neg (by
    rintro (h | h | h)
    · omega
    · omega
    · exact h (Lib.itoa_nonneg n))
  have h4 : ((n : Int), true) = if valB (bA (Lib.decDigits n)) = -1 then (0, false) else (valB (bA (Lib.decDigits n)), true) := h3.symm.trans h1
  split at h4
  · cases h4
  · injection h4 with h5 _
    exact h5.symm
theorem itoa_no47 (p : Int) : ∀ c ∈ Lib.itoa p, c ≠ 47 := by
  by_cases h : p < 0
  · rw [itoa_neg p h]
    intro c hc
    rcases List.mem_cons.1 hc with rfl | hc
    · decide
    · exact dec_no47 _ c hc
  · rw [itoa_nn p (by omega)]; exact dec_no47 _
theorem st_bA (l : List UInt8) (k : Nat) : st (bA l) k = l.getD k 0 := by rw [← bL_at, bL_bA]
theorem negB_itoa (p : Int) : negB (bA (Lib.itoa p)) = decide (p < 0) := by
  by_cases h : p < 0
  · rw [itoa_neg p h, negB, bA_size, st_bA]; simp [h]
  · rw [itoa_nn p (by omega), negB, bA_size, st_bA]
    have := dec_head_dig p.toNat
    have h2 : ((Lib.decDigits p.toNat).getD 0 0 == 45) = false := by
      rw [beq_eq_false_iff_ne]
      intro e
      rw [e] at this
      have h45 : (45 : UInt8).toNat = 45 := rfl
      omega
    rw [h2]; simp; omega
theorem strip_itoa (p : Int) : strip (bA (Lib.itoa p)) = bA (Lib.decDigits p.natAbs) := by
  by_cases h : p < 0
  · have h1 := strip_neg (bA (Lib.itoa p)) (by rw [negB_itoa]; simpa using h)
    rw [bL_bA, itoa_neg p h, show (-p).toNat = p.natAbs by omega] at h1
    injection h1 with _ h2
    rw [itoa_neg p h, show (-p).toNat = p.natAbs by omega]
    exact (congrArg bA h2).symm
  · rw [strip, if_neg (by rw [negB_itoa]; simpa using h), itoa_nn p (by omega), show p.toNat = p.natAbs by omega]
theorem finR_itoa (p q : Int) (hp : -1000000 ≤ p) (hp' : p ≤ 1000000) (hq : 1 ≤ q) : finR (decide (p < 0)) (p.natAbs : Int) q = numberOfR p q := by
  by_cases h : p < 0
  · rw [show decide (p < 0) = true by simpa using h, finR_good _ _ _ (by omega) hq (fun h2 => by omega), if_pos rfl, show -(p.natAbs : Int) = p by omega]
  · rw [show decide (p < 0) = false by simpa using h, finR_good _ _ _ (by omega) hq (fun h2 => by cases h2.1), if_neg (by simp), show (p.natAbs : Int) = p by omega]
theorem parse_int (p : Int) (hp : -1000000 ≤ p) (hp' : p ≤ 1000000) : parseR (Lib.itoa p) = numberOfR p 1 := by
  have := parse_one (bA (Lib.itoa p)) (bA (Lib.itoa p)) rfl (by rw [bL_bA]; exact itoa_no47 p)
  rw [bL_bA, negB_itoa, strip_itoa, valB_dec _ (by omega)] at this
  rw [this, finR_itoa p 1 hp hp' (by omega)]
theorem parse_frac (p q : Int) (hp : -1000000 ≤ p) (hp' : p ≤ 1000000) (hq : 1 ≤ q) (hq' : q ≤ 1000000) : parseR (Lib.itoa p ++ 47 :: Lib.itoa q) = numberOfR p q := by
  have := parse_two (bA (Lib.itoa p ++ 47 :: Lib.itoa q)) (bA (Lib.itoa p)) (bA (Lib.itoa q)) (by rw [bL_bA, bL_bA, bL_bA]) (by rw [bL_bA]; exact itoa_no47 p)
  rw [bL_bA, negB_itoa, strip_itoa, valB_dec _ (by omega), itoa_nn q (by omega), valB_dec _ (by omega), Int.toNat_of_nonneg (by omega)] at this
  rw [itoa_nn q (by omega), this, finR_itoa p q hp hp' hq]
theorem frac_back (a p q : Int) (ha : 0 ≤ a) (ha' : a ≤ 10006) (hq : 1 ≤ q) (hq' : q ≤ 70) (h : p % 10007 = a * q % 10007) : frac p q = a := by
  unfold frac
  have hqm : q % 10007 = q := by omega
  have hm := mul_inv (a := q) hq (by omega)
  rw [hqm, h]
  have e : a * q % 10007 * invM q % 10007 = a * (q * invM q % 10007) % 10007 := by
    rw [Int.mul_emod (a * q % 10007), Int.emod_emod_of_dvd _ (Int.dvd_refl _), ← Int.mul_emod, Int.mul_assoc, Int.mul_emod a (q * invM q), Int.mul_emod a (q * invM q % 10007), Int.emod_emod_of_dvd _ (Int.dvd_refl _)]
  rw [e, hm]
  omega
theorem numberOfR_back (a p q : Int) (ha : 0 ≤ a) (ha' : a ≤ 10006) (hp : -1000000 ≤ p) (hp' : p ≤ 1000000) (hq : 1 ≤ q) (hq' : q ≤ 70) (h : p % 10007 = a * q % 10007) : numberOfR p q = (a, 0) := by
  rw [numberOfR_in p q (by omega) (by omega) hq (by omega), if_neg (by omega), frac_back a p q ha ha' hq hq' h]
theorem txtFrom_back (a : Int) (ha : 0 ≤ a) (ha' : a ≤ 10006) : ∀ (n : Nat) (q : Int), 1 ≤ q → q + n ≤ 71 → parseR (txtFrom a q n) = (a, 0)
  | 0, q, _, _ => by
    rw [txtFrom, parse_int a (by omega) (by omega)]
    exact numberOfR_back a a 1 ha ha' (by omega) (by omega) (by omega) (by omega) (by rw [Int.mul_one])
  | n + 1, q, h1, h2 => by
    have bd := cen_bd (a * q)
    have hh := cen_hits (a * q)
    have hc : cen (a * q % 10007) % 10007 = a * q % 10007 := by omega
    by_cases h : okq a q = true
    · rw [txtFrom_hit a q n h, fracT]
      by_cases hq1 : q = 1
      · rw [if_pos hq1, parse_int _ (by omega) (by omega)]
        subst hq1
        exact numberOfR_back a _ 1 ha ha' (by omega) (by omega) (by omega) (by omega) hc
      · rw [if_neg hq1, parse_frac _ q (by omega) (by omega) h1 (by omega)]
        exact numberOfR_back a _ q ha ha' (by omega) (by omega) h1 (by omega) hc
    · rw [txtFrom_miss a q n (by simpa using h)]
      exact txtFrom_back a ha ha' n (q + 1) (by omega) (by omega)
theorem numT_back (a : Int) (ha : 0 ≤ a) (ha' : a ≤ 10006) : parseR (numT a) = (a, 0) := txtFrom_back a ha ha' 70 1 (by omega) (by omega)
theorem txtFrom_len (a : Int) (ha : 0 ≤ a) (ha' : a ≤ 10006) : ∀ (n : Nat) (q : Int), 1 ≤ q → q + n ≤ 71 → (txtFrom a q n).length ≤ 43
  | 0, q, _, _ => by
    rw [txtFrom]
    have := Lib.itoa_length_le a (by omega) (by omega)
    omega
  | n + 1, q, h1, h2 => by
    have bd := cen_bd (a * q)
    have l1 := Lib.itoa_length_le (cen (a * q % 10007)) (by omega) (by omega)
    have l2 := Lib.itoa_length_le q (by omega) (by omega)
    by_cases h : okq a q = true
    · rw [txtFrom_hit a q n h, fracT]
      split
      · omega
      · rw [List.length_append, List.length_cons]; omega
    · rw [txtFrom_miss a q n (by simpa using h)]
      exact txtFrom_len a ha ha' n (q + 1) (by omega) (by omega)
theorem numT_len (a : Int) (ha : 0 ≤ a) (ha' : a ≤ 10006) : (numT a).length ≤ 43 := txtFrom_len a ha ha' 70 1 (by omega) (by omega)
end Go.Proofs.YtmhcpaffdchboaaDoor
