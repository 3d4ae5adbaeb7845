/-
  What the functions on series return at lists of series; plain laws of series for the laws of the second layer.
-/
import Derived.Test.YtnjaalblgakgaaaSerRev
import Derived.Test.YtnjaalblgakgaaaSerDivE
import Derived.Test.YtnjaalblgakgaaaSerPowE
import Derived.Test.YtnjaalblgakgaaaSerEval
import Derived.Test.YtnjaalblgakgaaaSerCompE
import Derived.Test.YtnjaalblgakgaaaSerLogE
namespace Go.Proofs.Ytnjaalblgakgaaa
open Go.RowKit
theorem isSer_lst {n : Nat} (A : PS) (h1 : 1 ≤ n) (h2 : n ≤ 16) : isSer (lst n A) = true := by
  rw [isSer, Bool.and_eq_true, inR_iff, lst_length]
  exact ⟨by omega, lst_nums n A⟩
theorem ser_lst {n : Nat} (A : PS) (i : Nat) (h : i < n) : ser (lst n A) i = A i := by
  unfold ser; rw [lst_el _ _ _ h, fI_vI]
theorem code2_lst {n : Nat} (A B : PS) (h1 : 1 ≤ n) (h2 : n ≤ 16) : code2 (lst n A) (lst n B) = 0 := by
  unfold code2; rw [if_pos ⟨isSer_lst A h1 h2, isSer_lst B h1 h2, by rw [lst_length, lst_length]⟩]
theorem code1_lst {n : Nat} (A : PS) (k : Int) (h1 : 1 ≤ n) (h2 : n ≤ 16) (hk : isNum k = true) : code1 (lst n A) k = 0 := by
  unfold code1; rw [if_pos (isSer_lst A h1 h2), hk]; rfl
theorem el0_lst {n : Nat} (A : PS) (h1 : 1 ≤ n) : el (lst n A) 0 = vI (A 0) := lst_el _ _ _ (by omega)
section
variable {n : Nat} (h1 : 1 ≤ n) (h2 : n ≤ 16)
include h1 h2
theorem mulRS (A B : PS) : ser2R PS.mul (lst n A) (lst n B) = (lst n (PS.mul A B), 0) := by
  unfold ser2R; rw [if_pos (code2_lst A B h1 h2), lst_length]
  congr 1
  exact lst_congr fun i hi => PS.mul_congr (fun j hj => ser_lst A j (by omega)) (fun j hj => ser_lst B j (by omega))
theorem addRS (A B : PS) : ser2R PS.add (lst n A) (lst n B) = (lst n (PS.add A B), 0) := by
  unfold ser2R; rw [if_pos (code2_lst A B h1 h2), lst_length]
  congr 1
  exact lst_congr fun i hi => by simp only [PS.add]; rw [ser_lst A i hi, ser_lst B i hi]
theorem cmpRS (A B : PS) (hB : B 0 = 0) : cmpR (lst n A) (lst n B) = (lst n (PS.comp A B), 0) := by
  unfold cmpR ser2Q; rw [if_pos (code2_lst A B h1 h2), if_pos (by rw [el0_lst B h1, hB, vI_zero]; rfl), lst_length]
  congr 1
  exact lst_congr fun i hi => PS.comp_congr (fun j hj => ser_lst A j (by omega)) (fun j hj => ser_lst B j (by omega)) (by rw [ser_lst B 0 (by omega), hB])
theorem divRS (A B : PS) (hB : B 0 ≠ 0) : divR2 (lst n A) (lst n B) = (lst n (PS.div A B), 0) := by
  have hb : decide (el (lst n B) 0 = 0) = false := by
    rw [el0_lst B h1, decide_eq_false_iff_not]; exact fun e => hB (vI_eq_zero.1 e)
  unfold divR2 ser2Q; rw [if_pos (code2_lst A B h1 h2), if_pos hb, lst_length]
  congr 1
  exact lst_congr fun i hi => PS.div_congr (fun j hj => ser_lst A j (by omega)) (fun j hj => ser_lst B j (by omega)) (by rw [ser_lst B 0 (by omega)]; exact hB)
theorem derRS (A : PS) : ser1R derTo (lst n A) = (lst n (derTo n A), 0) := by
  unfold ser1R; rw [if_pos (isSer_lst A h1 h2), lst_length]
  congr 1
  exact lst_congr fun i hi => by
    simp only [derTo]
    split
    · simp only [PS.D]; rw [ser_lst A (i + 1) (by omega)]
    · rfl
theorem intRS (A : PS) : ser1R intTo (lst n A) = (lst n (intTo n A), 0) := by
  unfold ser1R; rw [if_pos (isSer_lst A h1 h2), lst_length]
  congr 1
  exact lst_congr fun i hi => by
    simp only [intTo]
    rw [if_pos hi, if_pos hi]
    exact PS.int_congr fun j hj => ser_lst A j (by omega)
theorem expRS (B : PS) (hB : B 0 = 0) : expR (lst n B) = (lst n (PS.exp B), 0) := by
  unfold expR serQR; rw [if_pos (isSer_lst B h1 h2), if_pos (by rw [el0_lst B h1, hB, vI_zero]), lst_length]
  congr 1
  exact lst_congr fun i hi => PS.exp_congr fun j hj => ser_lst B j (by omega)
theorem logRS (A : PS) (hA : A 0 = 1) : logR (lst n A) = (lst n (PS.log A), 0) := by
  unfold logR serQR; rw [if_pos (isSer_lst A h1 h2), if_pos (by rw [el0_lst A h1, hA, vI_one]), lst_length]
  congr 1
  exact lst_congr fun i hi => PS.log_congr (fun j hj => ser_lst A j (by omega)) (by rw [ser_lst A 0 (by omega), hA]; exact one_ne)
theorem powRS (A : PS) (k : Int) (hk : isNum k = true) (hA : A 0 = 1) : powR (lst n A) k = (lst n (pwrS (fI k) A), 0) := by
  unfold powR; rw [if_pos (code1_lst A k h1 h2 hk), if_pos (by rw [el0_lst A h1, hA, vI_one]), lst_length]
  congr 1
  exact lst_congr fun i hi => PS.exp_congr fun j hj => by
    simp only [PS.smul]
    rw [PS.log_congr (a := ser (lst n A)) (a' := A) (fun q hq => ser_lst A q (by omega)) (by rw [ser_lst A 0 (by omega), hA]; exact one_ne)]
theorem revRS (A : PS) (hn : 2 ≤ n) (hA : A 0 = 0) (hA1 : A 1 ≠ 0) : revR (lst n A) = (lst n (PS.rev A), 0) := by
  unfold revR; rw [if_pos (isSer_lst A h1 h2), if_pos (by
    rw [el0_lst A h1, hA, vI_zero, lst_length, lst_el _ _ _ (by omega)]
    simp only [Bool.and_eq_true, decide_eq_true_iff, Bool.not_eq_true', decide_eq_false_iff_not]
    exact ⟨⟨trivial, hn⟩, fun e => hA1 (vI_eq_zero.1 e)⟩), lst_length]
  congr 1
  refine lst_congr fun i hi => ?_
  have hs : ∀ j, j < n → ser (lst n A) j = A j := fun j hj => ser_lst A j hj
  have h0 : ser (lst n A) 0 = 0 := by rw [hs 0 (by omega), hA]
  have e1 : ser (lst n A) 1 = A 1 := hs 1 (by omega)
  -- both reverses, coefficient by coefficient
  have key : ∀ k, k < n → PS.revT (ser (lst n A)) k = PS.revT A k := by
    intro k
    induction k with
    | zero => intro _; rfl
    | succ k ih =>
      intro hk
      have e := ih (by omega)
      funext i
      simp only [PS.revT]
      rw [e, e1, PS.comp_congr (a' := A) (c' := PS.revT A k) (fun j hj => hs j (by omega)) (fun _ _ => rfl) (by rw [PS.revT_low A k 0 (Nat.zero_le _)]; rfl)]
  exact congrFun (key i hi) i
theorem scRS (A : PS) (k : Int) (hk : isNum k = true) : scR (lst n A) k = (lst n (scS (fI k) A), 0) := by
  unfold scR serKR; rw [if_pos (code1_lst A k h1 h2 hk), lst_length]
  congr 1
  exact lst_congr fun i hi => by simp only [scS]; rw [ser_lst A i hi]
theorem evRS (A : PS) (k : Int) (hk : isNum k = true) : evalR (lst n A) k = (vI (evS (fI k) A n), 0) := by
  unfold evalR; rw [if_pos (code1_lst A k h1 h2 hk), lst_length]
  congr 2
  exact PS.sm_congr n fun i hi => by rw [ser_lst A i hi]
end
/-- What a code of 0 tells. -/
theorem list_ser {zs : List Int} (h : isSer zs = true) : ∃ (n : Nat) (A : PS), zs = lst n A ∧ 1 ≤ n ∧ n ≤ 16 := by
  obtain ⟨a, b, c⟩ := isSer_yes h
  exact ⟨zs.length, ser zs, (lst_ser c).symm, a, b⟩
theorem revR_zero {zs : List Int} (h : (revR zs).2 = 0) : ∃ (n : Nat) (A : PS), zs = lst n A ∧ 2 ≤ n ∧ n ≤ 16 ∧ A 0 = 0 ∧ A 1 ≠ 0 := by
  unfold revR at h
  split at h
  · rename_i hs
    split at h
    · rename_i hc
      obtain ⟨n, A, rfl, a, b⟩ := list_ser hs
      simp only [Bool.and_eq_true, decide_eq_true_iff, Bool.not_eq_true', decide_eq_false_iff_not, lst_length] at hc
      obtain ⟨⟨c1, c2⟩, c3⟩ := hc
      rw [el0_lst A a] at c1
      rw [lst_el _ _ _ (by omega)] at c3
      exact ⟨n, A, rfl, c2, b, vI_eq_zero.1 c1, fun e => c3 (vI_eq_zero.2 e)⟩
    · cases h
  · cases h
theorem two_ser {xs ys : List Int} (h : code2 xs ys = 0) : ∃ (n : Nat) (A B : PS), xs = lst n A ∧ ys = lst n B ∧ 1 ≤ n ∧ n ≤ 16 := by
  obtain ⟨a, b, c⟩ := code2_zero h
  obtain ⟨n, A, rfl, h1, h2⟩ := list_ser a
  obtain ⟨m, B, rfl, _, _⟩ := list_ser b
  simp only [lst_length] at c
  subst c
  exact ⟨n, A, B, rfl, rfl, h1, h2⟩
theorem divR2_zero {xs ys : List Int} (h : (divR2 xs ys).2 = 0) : ∃ (n : Nat) (A B : PS), xs = lst n A ∧ ys = lst n B ∧ 1 ≤ n ∧ n ≤ 16 ∧ B 0 ≠ 0 := by
  unfold divR2 ser2Q at h
  split at h
  · rename_i hs
    split at h
    · rename_i hc
      obtain ⟨n, A, B, rfl, rfl, h1, h2⟩ := two_ser hs
      rw [el0_lst B h1, decide_eq_false_iff_not] at hc
      exact ⟨n, A, B, rfl, rfl, h1, h2, fun e => hc (vI_eq_zero.2 e)⟩
    · cases h
  · cases h
theorem cmpR_zero {xs ys : List Int} (h : (cmpR xs ys).2 = 0) : ∃ (n : Nat) (A B : PS), xs = lst n A ∧ ys = lst n B ∧ 1 ≤ n ∧ n ≤ 16 ∧ B 0 = 0 := by
  unfold cmpR ser2Q at h
  split at h
  · rename_i hs
    split at h
    · rename_i hc
      obtain ⟨n, A, B, rfl, rfl, h1, h2⟩ := two_ser hs
      rw [el0_lst B h1, decide_eq_true_iff] at hc
      exact ⟨n, A, B, rfl, rfl, h1, h2, vI_eq_zero.1 hc⟩
    · cases h
  · cases h
theorem expR_zero {zs : List Int} (h : (expR zs).2 = 0) : ∃ (n : Nat) (A : PS), zs = lst n A ∧ 1 ≤ n ∧ n ≤ 16 ∧ A 0 = 0 := by
  unfold expR serQR at h
  split at h
  · rename_i hs
    split at h
    · rename_i hc
      obtain ⟨n, A, rfl, h1, h2⟩ := list_ser hs
      rw [el0_lst A h1] at hc
      exact ⟨n, A, rfl, h1, h2, vI_eq_zero.1 hc⟩
    · cases h
  · cases h
/-! ### Laws -/
theorem rev_laws {n : Nat} {A : PS} (h0 : A 0 = 0) (h1 : A 1 ≠ 0) : lst n (PS.comp A (PS.rev A)) = lst n PS.X ∧ lst n (PS.comp (PS.rev A) A) = lst n PS.X ∧ lst n (PS.rev (PS.rev A)) = lst n A :=
  ⟨lst_congr fun i _ => PS.comp_rev h0 h1 i, lst_congr fun i _ => PS.rev_comp h0 h1 i, lst_congr fun i _ => PS.rev_rev h0 h1 i⟩
theorem fi_ne' {p : F} (h : p ≠ 0) : fi p ≠ 0 := fun e => by
  have := mul_fi h; rw [e] at this; exact absurd this (by grind)
theorem prod_back {n : Nat} {A B : PS} (hB : B 0 ≠ 0) : lst n (PS.mul (PS.div A B) B) = lst n A := lst_congr fun i _ => PS.div_mul hB A i
theorem prod_rule (n : Nat) (A B : PS) : lst (n - 1) (derTo n (PS.mul A B)) = lst (n - 1) (PS.add (PS.mul (derTo n A) B) (PS.mul A (derTo n B))) := lst_congr fun i hi => by
  have hd : ∀ (Z : PS) (j : Nat), j ≤ i → derTo n Z j = PS.D Z j := fun Z j hj => by simp only [derTo]; rw [if_pos (by omega)]
  rw [hd _ i (Nat.le_refl _), PS.D_mul]
  simp only [PS.add]
  rw [PS.mul_congr (f' := PS.D A) (g' := B) (fun j hj => hd A j hj) (fun _ _ => rfl), PS.mul_congr (f := A) (f' := A) (g' := PS.D B) (fun _ _ => rfl) (fun j hj => hd B j hj)]
theorem int_der {n : Nat} (hn : n ≤ 16) (A : PS) (i : Nat) (h1 : 1 ≤ i) (hi : i < n) : intTo n (derTo n A) i = A i := by
  simp only [intTo]
  rw [if_pos hi, PS.int_congr (g := PS.D A) (fun j hj => by simp only [derTo]; rw [if_pos (by omega)])]
  cases i with
  | zero => omega
  | succ k =>
    have h := mul_fi (nF_ne (n := k + 1) (by omega) (by omega))
    simp only [PS.int, PS.D]
    grind
theorem int_tail {n : Nat} (hn : n ≤ 16) (A : PS) : lst (n - 1) (fun i => intTo n (derTo n A) (i + 1)) = lst (n - 1) (fun i => A (i + 1)) := lst_congr fun i hi => int_der hn A (i + 1) (by omega) (by omega)
/-- The first part of a list. -/
theorem RdI.front {w : World} {ao : Option Addr} {n cap m : Nat} {f : PS} (h : RdI w (.slice ao n cap) (lst n f)) (hm : m ≤ n) : RdI w (.slice ao m cap) (lst m f) := by
  obtain ⟨ao', cap', e, h1, h2, h3⟩ := h
  simp only [lst_length, Value.slice.injEq] at e h1 h2 h3
  obtain ⟨rfl, -, rfl⟩ := e
  refine ⟨ao, cap, by rw [lst_length], by rw [lst_length]; omega, by rw [lst_length]; omega, fun j hj => ?_⟩
  rw [lst_length] at hj
  obtain ⟨b, off, e1, e2⟩ := h3 j (by omega)
  rw [lst_el _ _ _ (by omega)] at e2
  exact ⟨b, off, e1, by rw [lst_el _ _ _ hj]; exact e2⟩
/-- A list without its first element. -/
theorem RdI.tail {w : World} {b off n cap : Nat} {x : Option Nat} {f : PS} (h : RdI w (.slice (some ⟨b, off, x⟩) n cap) (lst n f)) (hn : 1 ≤ n) (A : Option Addr) (hA : n = 1 ∨ A = some ⟨b, off + 1, none⟩) : RdI w (.slice A (n - 1) (cap - 1)) (lst (n - 1) (fun i => f (i + 1))) := by
  obtain ⟨ao', cap', e, h1, h2, h3⟩ := h
  simp only [lst_length, Value.slice.injEq] at e h1 h2 h3
  obtain ⟨rfl, -, rfl⟩ := e
  refine ⟨A, cap - 1, by rw [lst_length], by rw [lst_length]; omega, by rw [lst_length]; omega, fun j hj => ?_⟩
  rw [lst_length] at hj
  rcases hA with hA | hA
  · omega
  · subst hA
    obtain ⟨b', off', e1, e2⟩ := h3 (j + 1) (by omega)
    cases e1
    rw [lst_el _ _ _ (by omega)] at e2
    exact ⟨b, off + 1, rfl, by rw [lst_el _ _ _ hj, show off + 1 + j = off + (j + 1) by omega]; exact e2⟩
theorem int_zero {n : Nat} (h : 1 ≤ n) (A : PS) : intTo n A 0 = 0 := by simp only [intTo]; rw [if_pos (by omega)]; rfl
theorem cmp_assoc {n : Nat} {A B E : PS} (hB : B 0 = 0) (hE : E 0 = 0) : lst n (PS.comp A (PS.comp B E)) = lst n (PS.comp (PS.comp A B) E) := lst_congr fun i _ => (PS.comp_assoc hB hE A i).symm
theorem chain_rule (n : Nat) {A B : PS} (hB : B 0 = 0) : lst (n - 1) (PS.mul (PS.comp (derTo n A) B) (derTo n B)) = lst (n - 1) (derTo n (PS.comp A B)) := lst_congr fun i hi => by
  have hd : ∀ (Z : PS) (j : Nat), j ≤ i → derTo n Z j = PS.D Z j := fun Z j hj => by simp only [derTo]; rw [if_pos (by omega)]
  rw [hd _ i (Nat.le_refl _), PS.D_comp hB]
  exact PS.mul_congr (fun j hj => PS.comp_congr (fun q hq => hd A q (by omega)) (fun _ _ => rfl) hB) (fun j hj => hd B j hj)
theorem mul_pow_F (a b : F) (i : Nat) : (a * b) ^ i = a ^ i * b ^ i := by
  induction i with
  | zero => rw [pow_zero, pow_zero, pow_zero]; grind
  | succ i ih => rw [pow_succ, pow_succ, pow_succ, ih]; grind
theorem ev_scaled (k z : F) (A : PS) (n : Nat) : evS z (scS k A) n = evS (k * z) A n := PS.sm_congr n fun i _ => by simp only [scS]; rw [mul_pow_F]; grind
theorem fI_mul (a b : Int) : fI (a * b % 10007) = fI a * fI b := vI_inj (by
  rw [vI_mul, vI_fI, vI_fI, vI_fI, Int.emod_emod_of_dvd _ (Int.dvd_refl _), ← Int.mul_emod])
theorem fI_add (a b : Int) : fI ((a + b) % 10007) = fI a + fI b := vI_inj (by
  rw [vI_add, vI_fI, vI_fI, vI_fI, Int.emod_emod_of_dvd _ (Int.dvd_refl _), ← Int.add_emod])
theorem log_of_exp {n : Nat} (hn : n ≤ 16) {B : PS} (hB : B 0 = 0) : lst n (PS.log (PS.exp B)) = lst n B := lst_congr fun i hi => PS.log_exp B hB i (by omega)
theorem exp_of_add {n : Nat} (hn : n ≤ 16) (B C : PS) : lst n (PS.exp (PS.add B C)) = lst n (PS.mul (PS.exp B) (PS.exp C)) := lst_congr fun i hi => PS.exp_add B C i (by omega)
theorem pow_add_law {n : Nat} (hn : n ≤ 16) (k m : Int) (E : PS) : lst n (PS.mul (pwrS (fI k) E) (pwrS (fI m) E)) = lst n (pwrS (fI ((k + m) % 10007)) E) := lst_congr fun i hi => by
  unfold pwrS
  rw [← PS.exp_add _ _ i (by omega), fI_add]
  exact PS.exp_congr fun j _ => by simp only [PS.add, PS.smul]; grind
end Go.Proofs.Ytnjaalblgakgaaa
