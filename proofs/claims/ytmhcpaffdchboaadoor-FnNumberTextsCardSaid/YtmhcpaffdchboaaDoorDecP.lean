/-
  Numbers in decimal without leading zeros, read and written: the plain law.
-/
import Derived.Lib.ItoaMem
import Derived.Lib.ParseIntB
import Derived.Test.YtmhcpaffdchboaaDoorTxtP
namespace Go.Proofs.YtmhcpaffdchboaaDoor
set_option linter.unusedVariables false
/-- The byte k of a text. -/
def st (a : ByteArray) (k : Nat) : UInt8 := if h : k < a.size then a[k] else 0
theorem st_at (a : ByteArray) (k : Nat) (h : k < a.size) : a[k] = st a k := by rw [st, dif_pos h]
def vStep (n : Nat) (c : UInt8) : Option Nat := if 48 ≤ c.toNat ∧ c.toNat ≤ 57 then some (n * 10 + (c.toNat - 48)) else none
def vTo (s : Nat → UInt8) : Nat → Option Nat
  | 0 => some 0
  | k + 1 => (vTo s k).bind fun n => vStep n (s k)
def vL (l : List UInt8) : Option Nat := vTo (fun k => l.getD k 0) l.length
def valB (a : ByteArray) : Int := if a.size = 0 ∨ 9 < a.size ∨ (1 < a.size ∧ st a 0 = 48) then -1 else match vTo (st a) a.size with | some n => (n : Int) | none => -1
theorem vTo_none (s : Nat → UInt8) (k : Nat) (h : vTo s k = none) : ∀ m, vTo s (k + m) = none
  | 0 => h
  | m + 1 => by rw [← Nat.add_assoc, vTo, vTo_none s k h m]; rfl
theorem vTo_lt (s : Nat → UInt8) : ∀ (k n : Nat), vTo s k = some n → n < 10 ^ k
  | 0, n, h => by simp only [vTo, Option.some.injEq] at h; omega
  | k + 1, n, h => by
    rw [vTo] at h
    cases e : vTo s k with
    | none => rw [e] at h; cases h
    | some m =>
      have := vTo_lt s k m e
      rw [e] at h
      simp only [Option.bind_some, vStep] at h
      split at h
      · rename_i hd
        simp only [Option.some.injEq] at h
        rw [Nat.pow_succ]; omega
      · cases h
theorem vTo_congr (s t : Nat → UInt8) : ∀ (k : Nat), (∀ j, j < k → s j = t j) → vTo s k = vTo t k
  | 0, _ => rfl
  | k + 1, h => by rw [vTo, vTo, vTo_congr s t k (fun j hj => h j (by omega)), h k (by omega)]
theorem vL_snoc (xs : List UInt8) (c : UInt8) : vL (xs ++ [c]) = (vL xs).bind fun n => vStep n c := by
  unfold vL
  rw [List.length_append, List.length_singleton, vTo]
  rw [vTo_congr _ (fun k => xs.getD k 0) xs.length (fun j hj => by simp [List.getD, List.getElem?_append_left hj])]
  simp [List.getD]
theorem vL_one (c : UInt8) : vL [c] = vStep 0 c := vL_snoc [] c
theorem vStep_dig (n d : Nat) (hd : d < 10) : vStep n (UInt8.ofNat (48 + d)) = some (n * 10 + d) := by
  have e : (UInt8.ofNat (48 + d)).toNat = 48 + d := UInt8.toNat_ofNat_of_lt' (by show _ < 256; omega)
  unfold vStep
  rw [if_pos (by rw [e]; omega), e]
  congr 1; omega
/-- What is written reads back. -/
theorem vL_dec (n : Nat) : vL (Lib.decDigits n) = some n := by
  induction n using Nat.strongRecOn with
  | ind n ih =>
    by_cases h : n < 10
    · rw [dec_small n h, vL_one, vStep_dig 0 n h]; congr 1; omega
    · rw [dec_big n h, vL_snoc, ih (n / 10) (by omega)]
      simp only [Option.bind_some]
      rw [vStep_dig _ _ (by omega)]; congr 1; omega
theorem dec_ne (n : Nat) : Lib.decDigits n ≠ [] := by
  by_cases h : n < 10
  · rw [dec_small n h]; simp
  · rw [dec_big n h]; simp
theorem dec_head (n : Nat) (h1 : 1 ≤ n) : (Lib.decDigits n).getD 0 0 ≠ 48 := by
  induction n using Nat.strongRecOn with
  | ind n ih =>
    by_cases h : n < 10
    · rw [dec_small n h]
      intro e
      have := congrArg UInt8.toNat e
      rw [show ([UInt8.ofNat (48 + n)].getD 0 0) = UInt8.ofNat (48 + n) from rfl, UInt8.toNat_ofNat_of_lt' (by show _ < 256; omega)] at this
      have h48 : (48 : UInt8).toNat = 48 := rfl
      omega
    · rw [dec_big n h]
      have h2 := ih (n / 10) (by omega) (by omega)
      have h3 := List.length_pos_iff.2 (dec_ne (n / 10))
      rw [List.getD_eq_getElem?_getD, List.getElem?_append_left h3, ← List.getD_eq_getElem?_getD]; exact h2
theorem dec_length (k : Nat) : ∀ n, n < 10 ^ (k + 1) → (Lib.decDigits n).length ≤ k + 1 := by
  induction k with
  | zero => intro n h; rw [dec_small n (by simpa using h)]; simp
  | succ k ih =>
    intro n h
    by_cases h9 : n < 10
    · rw [dec_small n h9]; simp
    · rw [dec_big n h9]
      have := ih (n / 10) (by rw [Nat.pow_succ] at h; omega)
      simp; omega
theorem dec_length_lt (n k : Nat) (h : (Lib.decDigits n).length ≤ k) : n < 10 ^ k := by
  have h1 := vL_dec n
  have h2 := vTo_lt _ _ _ h1
  exact Nat.lt_of_lt_of_le h2 (Nat.pow_le_pow_right (by omega) h)
/-- What reads without a leading zero is what is written. -/
theorem dec_of_vL (m : Nat) : ∀ (l : List UInt8), l.length = m → ∀ n, l ≠ [] → l.getD 0 0 ≠ 48 → vL l = some n → 1 ≤ n ∧ Lib.decDigits n = l := by
  induction m with
  | zero => intro l hl n h; exact absurd (List.length_eq_zero_iff.1 hl) h
  | succ m ih =>
    intro l hl n hne hh hv
    obtain h0 | ⟨xs, c, rfl⟩ := List.eq_nil_or_concat l
    · exact absurd h0 hne
    rw [List.concat_eq_append] at *
    have hlx : xs.length = m := by simpa using hl
    by_cases hx : xs = []
    · subst hx
      rw [List.nil_append, vL_one, vStep] at hv
      split at hv
      · rename_i hd
        simp only [Option.some.injEq] at hv
        have hc : c ≠ 48 := hh
        have hc2 : c.toNat ≠ 48 := fun e => hc (UInt8.toNat_inj.1 e)
        refine ⟨by omega, ?_⟩
        rw [dec_small n (by omega), show 48 + n = c.toNat by omega]
        simp
      · cases hv
    · have h3 := List.length_pos_iff.2 hx
      have hh' : xs.getD 0 0 ≠ 48 := by rwa [List.getD_eq_getElem?_getD, List.getElem?_append_left h3, ← List.getD_eq_getElem?_getD] at hh
      rw [vL_snoc] at hv
      cases e : vL xs with
      | none => rw [e] at hv; cases hv
      | some m' =>
        obtain ⟨m1, m2⟩ := ih xs hlx m' hx hh' e
        rw [e] at hv
        simp only [Option.bind_some, vStep] at hv
        split at hv
        · rename_i hd
          simp only [Option.some.injEq] at hv
          refine ⟨by omega, ?_⟩
          rw [dec_big n (by omega), show n / 10 = m' by omega, m2, show 48 + n % 10 = c.toNat by omega]
          simp
        · cases hv
/-- The plain reading of the library's numeral. -/
def readR (l : List UInt8) : Int × Bool :=
  match Lib.parseIntB 64 l with
  | .ok v => if v < 0 ∨ 9 < l.length ∨ Lib.itoa v ≠ l then (0, false) else (v, true)
  | _ => (0, false)
def bL (a : ByteArray) : List UInt8 := a.data.toList
theorem bL_len (a : ByteArray) : (bL a).length = a.size := Array.length_toList
theorem bL_at (a : ByteArray) (k : Nat) : (bL a).getD k 0 = st a k := by
  unfold st bL
  by_cases h : k < a.size
  · rw [dif_pos h, List.getD_eq_getElem?_getD, List.getElem?_eq_getElem (show k < a.data.toList.length by rw [Array.length_toList]; exact h)]
    rfl
  · rw [dif_neg h, List.getD_eq_getElem?_getD, List.getElem?_eq_none (by rw [Array.length_toList]; exact Nat.le_of_not_lt h)]; rfl
theorem vL_bL (a : ByteArray) : vL (bL a) = vTo (st a) a.size := by
  unfold vL
  rw [bL_len]
  exact vTo_congr _ _ _ (fun j _ => bL_at a j)
theorem parse_snoc (M : Nat) (c : UInt8) : ∀ (xs : List UInt8) (acc u : Nat), Lib.parseUintM M acc xs = .ok u → Lib.parseUintM M acc (xs ++ [c]) = Lib.parseUintM M u [c]
  | [], acc, u, h => by
    rw [Lib.parseUintM] at h
    cases h; rfl
  | x :: r, acc, u, h => by
    rw [Lib.parseUintM] at h
    rw [List.cons_append, Lib.parseUintM]
    split at h
    · rename_i h1
      rw [if_pos h1]
      split at h
      · cases h
      · rename_i h2
        rw [if_neg h2]
        split at h
        · cases h
        · rename_i h3
          rw [if_neg h3]
          exact parse_snoc M c r _ u h
    · cases h
theorem parse_digit (M u d : Nat) (hd : d < 10) (hu : u < 1000000000) (hM : 100000000000 ≤ M) : Lib.parseUintM M u [UInt8.ofNat (48 + d)] = .ok (u * 10 + d) := by
  have e : (UInt8.ofNat (48 + d)).toNat = 48 + d := UInt8.toNat_ofNat_of_lt' (by show _ < 256; omega)
  rw [Lib.parseUintM, e, if_pos (by omega), if_neg (by omega), if_neg (by omega), Lib.parseUintM]
  congr 1; omega
theorem parse_dec (M n : Nat) (hn : n < 1000000000) (hM : 100000000000 ≤ M) : Lib.parseUintM M 0 (Lib.decDigits n) = .ok n := by
  induction n using Nat.strongRecOn with
  | ind n ih =>
    by_cases h : n < 10
    · rw [dec_small n h, parse_digit M 0 n h (by omega) hM]; congr 1; omega
    · rw [dec_big n h, parse_snoc M _ _ 0 (n / 10) (ih (n / 10) (by omega) (by omega)), parse_digit M _ _ (by omega) (by omega) hM]
      congr 1; omega
theorem dec_head_dig (n : Nat) : 48 ≤ ((Lib.decDigits n).getD 0 0).toNat ∧ ((Lib.decDigits n).getD 0 0).toNat ≤ 57 := by
  induction n using Nat.strongRecOn with
  | ind n ih =>
    by_cases h : n < 10
    · rw [dec_small n h, show ([UInt8.ofNat (48 + n)].getD 0 0) = UInt8.ofNat (48 + n) from rfl, UInt8.toNat_ofNat_of_lt' (by show _ < 256; omega)]
      omega
    · rw [dec_big n h]
      have h2 := ih (n / 10) (by omega)
      have h3 := List.length_pos_iff.2 (dec_ne (n / 10))
      rw [List.getD_eq_getElem?_getD, List.getElem?_append_left h3, ← List.getD_eq_getElem?_getD]; exact h2
theorem parseInt_dec (n : Nat) (hn : n < 1000000000) : Lib.parseIntB 64 (Lib.decDigits n) = .ok (n : Int) := by
  have hh := dec_head_dig n
  have hp := parse_dec (2 ^ 64 - 1) n hn (by decide)
  cases h : Lib.decDigits n with
  | nil => exact absurd h (dec_ne n)
  | cons c r =>
    rw [h] at hh hp
    have hc : (c :: r).getD 0 0 = c := rfl
    rw [hc] at hh
    have h1 : ¬ (c.toNat = 43 ∨ c.toNat = 45) := by omega
    have h2 : ¬ (c.toNat = 45) := by omega
    simp only [Lib.parseIntB, if_neg h1, Lib.parseUintB, if_neg (List.cons_ne_nil c r), hp]
    rw [if_neg (by omega), if_neg (by omega), if_neg h2]
/-- Both readings agree. -/
theorem readR_eq (a : ByteArray) : readR (bL a) = if valB a = -1 then (0, false) else (valB a, true) := by
  by_cases hv : valB a = -1
  · rw [if_pos hv]
    unfold readR
    rcases e : Lib.parseIntB 64 (bL a) with v | _ | _
    rotate_left
    · rfl
    · rfl
    · show (if v < 0 ∨ 9 < (bL a).length ∨ Lib.itoa v ≠ bL a then (0, false) else (v, true)) = _
      by_cases h : v < 0 ∨ 9 < (bL a).length ∨ Lib.itoa v ≠ bL a
      · rw [if_pos h]
      · exfalso
        have h0 : 0 ≤ v := by omega
        have h9 : (bL a).length ≤ 9 := by omega
        have hi : Lib.itoa v = bL a := Classical.byContradiction fun hc => h (.inr (.inr hc))
        rw [itoa_nn v h0] at hi
        have h1 := vL_dec v.toNat
        rw [hi, vL_bL] at h1
        rw [bL_len] at h9
        have h2 : a.size ≠ 0 := by rw [← bL_len, ← hi]; exact fun e => dec_ne _ (List.length_eq_zero_iff.1 e)
        have h3 : ¬ (1 < a.size ∧ st a 0 = 48) := by
          rintro ⟨h4, h5⟩
          rw [← bL_at, ← hi] at h5
          have h6 : v.toNat < 1 := by
            rcases Nat.lt_or_ge v.toNat 1 with h | h
            · exact h
            · exact absurd h5 (dec_head _ h)
          rw [← bL_len, ← hi, dec_small _ (by omega)] at h4
          simp at h4
        rw [valB, if_neg (fun h => by rcases h with h | h | h; exact h2 h; omega; exact h3 h), h1] at hv
        simp at hv; omega
  · rw [if_neg hv]
    unfold valB at hv
    split at hv
    · exact absurd rfl hv
    · rename_i hb
      cases e : vTo (st a) a.size with
      | none => rw [e] at hv; exact absurd rfl hv
      | some n =>
        have hval : valB a = n := by rw [valB, if_neg hb, e]
        have h9 : a.size ≤ 9 := by omega
        have hn9 : n < 1000000000 := Nat.lt_of_lt_of_le (vTo_lt _ _ _ e) (Nat.pow_le_pow_right (by omega) h9)
        have hl : Lib.decDigits n = bL a := by
          by_cases h48 : st a 0 = 48
          · have hs : a.size = 1 := by
              have : ¬ (1 < a.size) := fun h => hb (.inr (.inr ⟨h, h48⟩))
              omega
            have hl1 : (bL a).length = 1 := by rw [bL_len, hs]
            obtain ⟨c, hc⟩ := List.length_eq_one_iff.1 hl1
            have h5 : (bL a).getD 0 0 = 48 := by rw [bL_at]; exact h48
            rw [hc] at h5
            have h6 : c = 48 := h5
            subst h6
            rw [← vL_bL, hc, vL_one] at e
            have h7 : vStep 0 48 = some 0 := by decide
            rw [h7] at e
            cases e
            rw [hc, dec_small 0 (by omega)]; rfl
          · refine (dec_of_vL _ (bL a) rfl n ?_ (by rw [bL_at]; exact h48) (by rw [vL_bL]; exact e)).2
            intro h; have := bL_len a; rw [h] at this; simp at this; omega
        rw [hval]
        unfold readR
        rw [← hl, parseInt_dec n hn9]
        show (if (n : Int) < 0 ∨ 9 < (Lib.decDigits n).length ∨ Lib.itoa n ≠ Lib.decDigits n then ((0 : Int), false) else ((n : Int), true)) = _
        rw [if_neg]
        rintro (h | h | h)
        · omega
        · rw [hl, bL_len] at h; omega
        · exact h (Lib.itoa_nonneg n)
theorem valB_bd (a : ByteArray) : -1 ≤ valB a ∧ valB a < 1000000000 := by
  unfold valB
  split
  · omega
  · rename_i hb
    cases e : vTo (st a) a.size with
    | none => exact ⟨by simp, by simp⟩
    | some n =>
      have h9 : a.size ≤ 9 := by omega
      have hn9 : n < 1000000000 := Nat.lt_of_lt_of_le (vTo_lt _ _ _ e) (Nat.pow_le_pow_right (by omega) h9)
      show -1 ≤ (n : Int) ∧ (n : Int) < 1000000000
      omega
end Go.Proofs.YtmhcpaffdchboaaDoor
