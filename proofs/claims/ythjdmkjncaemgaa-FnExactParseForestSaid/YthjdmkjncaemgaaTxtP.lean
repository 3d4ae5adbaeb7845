/-
  Texts of trees and forests, and how they are read, without a program.
-/
import Derived.Test.YthjdmkjncaemgaaTreeC
namespace Go.Proofs.Ythjdmkjncaemgaa
/-- The text of a canonical list. -/
def txtF : Nat → List Int → List UInt8
  | 0, _ => []
  | n + 1, t => 91 :: ((parts t).flatMap (txtF n) ++ [93])
def txtTo (f : List Int → List UInt8) (zss : List (List Int)) (k : Nat) : List UInt8 := (zss.take k).flatMap f
theorem txtTo_succ (f : List Int → List UInt8) (zss : List (List Int)) (k : Nat) (h : k < zss.length) : txtTo f zss (k + 1) = txtTo f zss k ++ f (rowAt zss k) := by
  unfold txtTo
  rw [List.take_succ_eq_append_getElem h, List.flatMap_append, rowAt_at zss k h]; simp
theorem txtTo_all (f : List Int → List UInt8) (zss : List (List Int)) : txtTo f zss zss.length = zss.flatMap f := by simp [txtTo]
theorem flatMap_length_le (f : List Int → List UInt8) (zss : List (List Int)) (h : ∀ z ∈ zss, (f z).length = 2 * z.length) : (zss.flatMap f).length = 2 * tot zss := by
  induction zss with
  | nil => rfl
  | cons a r ih =>
    rw [List.flatMap_cons, List.length_append, ih (fun z hz => h z (List.mem_cons_of_mem _ hz)), h a (List.mem_cons_self ..)]
    simp only [tot, List.map_cons, List.sum_cons]; omega
theorem txtF_length (n : Nat) (t : List Int) (h : IsL t) (hn : t.length ≤ n) : (txtF n t).length = 2 * t.length := by
  induction n generalizing t with
  | zero => have := h.1; omega
  | succ n ih =>
    rw [txtF, List.length_cons, List.length_append, flatMap_length_le (txtF n) (parts t) (fun z hz => ih z (parts_IsL h z hz).1 (by have := (parts_IsL h z hz).2; omega)), tot_parts h]
    have := h.1
    simp; omega
/-- The lists so far and the level, while a text of brackets is read. -/
def rdStep (p : List (List Int) × Nat) (c : UInt8) : Option (List (List Int) × Nat) :=
  if c = 91 then
    let out := if p.2 = 0 then p.1 ++ [[]] else p.1
    some (out.set (out.length - 1) (rowAt out (out.length - 1) ++ [(p.2 : Int)]), p.2 + 1)
  else if c = 93 ∧ 0 < p.2 then some (p.1, p.2 - 1) else none
def rdTo (s : Nat → UInt8) : Nat → Option (List (List Int) × Nat)
  | 0 => some ([], 0)
  | k + 1 => (rdTo s k).bind fun p => rdStep p (s k)
/-- What a text of n brackets reads as. -/
def rdR (s : Nat → UInt8) (n : Nat) : Option (List (List Int)) :=
  match rdTo s n with
  | some (out, 0) => some out
  | _ => none
theorem tot_set (zss : List (List Int)) (j : Nat) (h : j < zss.length) (x : Int) : tot (zss.set j (rowAt zss j ++ [x])) = tot zss + 1 := by
  induction zss generalizing j with
  | nil => simp at h
  | cons a r ih =>
    cases j with
    | zero => simp [tot, rowAt]; omega
    | succ j =>
      have := ih j (by simpa using h)
      have e : rowAt (a :: r) (j + 1) = rowAt r j := by simp [rowAt]
      rw [e, List.set_cons_succ]
      simp only [tot, List.map_cons, List.sum_cons] at this ⊢
      omega
theorem rowAt_put (zss : List (List Int)) (i j : Nat) (z : List Int) : rowAt (zss.set i z) j = if i = j ∧ i < zss.length then z else rowAt zss j := by
  unfold rowAt
  rw [List.getD_eq_getElem?_getD, List.getElem?_set, List.getD_eq_getElem?_getD]
  by_cases h : i = j
  · subst h
    by_cases hl : i < zss.length
    · simp [hl]
    · simp [hl]
  · simp [h]
/-- Facts on the way of reading. -/
theorem rdTo_facts (s : Nat → UInt8) (k : Nat) (out : List (List Int)) (l : Nat) (h : rdTo s k = some (out, l)) :
    2 * tot out = k + l ∧ l ≤ k ∧ (0 < l → 0 < out.length) ∧ (∀ z ∈ out, 0 < z.length ∧ z.length ≤ k) ∧ out.length ≤ k := by
  induction k generalizing out l with
  | zero => simp only [rdTo, Option.some.injEq, Prod.mk.injEq] at h; obtain ⟨rfl, rfl⟩ := h; simp [tot]
  | succ k ih =>
    rw [rdTo, Option.bind_eq_some_iff] at h
    obtain ⟨⟨o, m⟩, h1, h2⟩ := h
    obtain ⟨i1, i2, i3, i4, i5⟩ := ih o m h1
    unfold rdStep at h2
    split at h2
    · simp only [Option.some.injEq, Prod.mk.injEq] at h2
      obtain ⟨e1, e2⟩ := h2
      by_cases hm : m = 0
      · subst hm
        rw [if_pos rfl] at e1
        have hl : (o ++ [[]]).length = o.length + 1 := by simp
        rw [hl, Nat.add_sub_cancel, rowAt_snoc, List.set_append_right _ _ (Nat.le_refl _), Nat.sub_self] at e1
        simp only [List.set_cons_zero, List.nil_append] at e1
        subst e1
        rw [tot_append]
        simp only [tot, List.map_cons, List.map_nil, List.sum_cons, List.sum_nil, List.length_cons, List.length_nil] at i1 ⊢
        refine ⟨by omega, by omega, fun _ => by simp, fun z hz => ?_, by simp; omega⟩
        rcases List.mem_append.1 hz with hz | hz
        · have := i4 z hz; omega
        · simp at hz; subst hz; simp
      · rw [if_neg hm] at e1
        have ho := i3 (by omega)
        have ht := tot_set o (o.length - 1) (by omega) (m : Int)
        subst e1
        refine ⟨by omega, by omega, fun _ => by simpa using ho, fun z hz => ?_, by simp; omega⟩
        obtain ⟨j, hj, rfl⟩ := List.getElem_of_mem hz
        rw [rowAt_at _ j hj]
        have hj' : j < o.length := by simpa using hj
        have hmm := i4 _ (rowAt_mem o j hj')
        rw [rowAt_put]
        split
        · have hml := i4 _ (rowAt_mem o (o.length - 1) (by omega))
          rw [List.length_append]; simp only [List.length_cons, List.length_nil]; omega
        · omega
    · split at h2
      · rename_i h3
        simp only [Option.some.injEq, Prod.mk.injEq] at h2
        obtain ⟨rfl, rfl⟩ := h2
        refine ⟨by omega, by omega, fun _ => i3 (by omega), fun z hz => by have := i4 z hz; omega, by omega⟩
      · cases h2
theorem rdR_tot (s : Nat → UInt8) (n : Nat) (out : List (List Int)) (h : rdR s n = some out) : 2 * tot out = n ∧ (∀ z ∈ out, 0 < z.length) := by
  unfold rdR at h
  split at h
  · rename_i o he
    simp only [Option.some.injEq] at h
    subst h
    have := rdTo_facts s n _ _ he
    exact ⟨by omega, fun z hz => (this.2.2.2.1 z hz).1⟩
  · cases h
end Go.Proofs.Ythjdmkjncaemgaa
