/-
  The branches of a level list, its canonical list, and the orders of lists; no program in sight.
-/
import Derived.Test.YtmhcpaffdchboaaTreeP
namespace Go.Proofs.Ytmhcpaffdchboaa
theorem rowAt_mem (zss : List (List Int)) (k : Nat) (h : k < zss.length) : rowAt zss k ∈ zss := by rw [← rowAt_at zss k h]; exact List.getElem_mem h
/-- A level list of any length. -/
def IsL (p : List Int) : Prop := 0 < p.length ∧ el p 0 = 0 ∧ ∀ i, 0 < i → i < p.length → 1 ≤ el p i ∧ el p i ≤ el p (i - 1) + 1
theorem levTo_of {zs : List Int} (k : Nat) (h0 : el zs 0 = 0) (h : ∀ i, 0 < i → i < k → 1 ≤ el zs i ∧ el zs i ≤ el zs (i - 1) + 1) : levTo zs k = true := by
  induction k with
  | zero => rfl
  | succ k ih =>
    rw [levTo, ih (fun i hi hk => h i hi (by omega))]
    by_cases hk : k = 0
    · subst hk; simp [h0]
    · rw [if_neg hk, levAt, Bool.true_and, inR_iff]; exact h k (by omega) (by omega)
theorem IsL.of_lev {zs : List Int} (h0 : 0 < zs.length) (h : levTo zs zs.length = true) : IsL zs := ⟨h0, levTo_zero h h0, fun i hi hk => levTo_at h i hi hk⟩
theorem IsL.lev {zs : List Int} (h : IsL zs) : levTo zs zs.length = true := levTo_of _ h.2.1 h.2.2
theorem IsL.bd {zs : List Int} (h : IsL zs) (i : Nat) (hi : i < zs.length) : 0 ≤ el zs i ∧ el zs i ≤ i := levTo_bd h.lev i hi
theorem isLev_IsL {zs : List Int} (h : isLev zs = true) : IsL zs ∧ zs.length ≤ 8 := ⟨IsL.of_lev (isLev_yes h).1 (isLev_yes h).2.2, (isLev_yes h).2.1⟩
theorem isLev_of {zs : List Int} (h : IsL zs) (h8 : zs.length ≤ 8) : isLev zs = true := by simp [isLev, h.1, h8, h.lev]
theorem el_append_left (xs ys : List Int) (i : Nat) (h : i < xs.length) : el (xs ++ ys) i = el xs i := by simp [el, List.getElem?_append_left h]
theorem el_append_right (xs ys : List Int) (i : Nat) (h : xs.length ≤ i) : el (xs ++ ys) i = el ys (i - xs.length) := by simp [el, List.getElem?_append_right h]
theorem el_cons_zero (x : Int) (xs : List Int) : el (x :: xs) 0 = x := rfl
theorem el_cons_succ (x : Int) (xs : List Int) (i : Nat) : el (x :: xs) (i + 1) = el xs i := by simp [el]
theorem IsL.single : IsL [0] := ⟨by simp, rfl, fun i hi hk => by simp at hk; omega⟩
theorem IsL.snoc {p : List Int} {x : Int} (h : IsL p) (h1 : 1 ≤ x) (h2 : x ≤ el p (p.length - 1) + 1) : IsL (p ++ [x]) := by
  refine ⟨by simp, by rw [el_append_left _ _ _ h.1]; exact h.2.1, fun i hi hk => ?_⟩
  simp at hk
  by_cases hl : i < p.length
  · rw [el_append_left _ _ _ hl, el_append_left _ _ _ (by omega)]; exact h.2.2 i hi hl
  · obtain rfl : i = p.length := by omega
    rw [el_append_right _ _ _ (Nat.le_refl _), el_append_left _ _ _ (by omega), Nat.sub_self]
    exact ⟨h1, h2⟩
/-! The branches. -/
def stepA (out : List (List Int)) (x : Int) : List (List Int) := if x = 1 then out ++ [[]] else out
def stepB (out : List (List Int)) (x : Int) : List (List Int) := out.set (out.length - 1) (rowAt out (out.length - 1) ++ [x - 1])
def partsTo (zs : List Int) : Nat → List (List Int)
  | 0 => []
  | k + 1 => if k = 0 then [] else stepB (stepA (partsTo zs k) (el zs k)) (el zs k)
theorem partsTo_succ (zs : List Int) (k : Nat) (h : 0 < k) : partsTo zs (k + 1) = stepB (stepA (partsTo zs k) (el zs k)) (el zs k) := by rw [partsTo, if_neg (by omega)]
def parts (zs : List Int) : List (List Int) := partsTo zs zs.length
def tot (zss : List (List Int)) : Nat := (zss.map List.length).sum
theorem tot_append (a b : List (List Int)) : tot (a ++ b) = tot a + tot b := by simp [tot]
theorem tot_mem {zss : List (List Int)} {p : List Int} (h : p ∈ zss) : p.length ≤ tot zss := by
  induction zss with
  | nil => cases h
  | cons a r ih =>
    simp only [tot, List.map_cons, List.sum_cons]
    rcases List.mem_cons.1 h with rfl | h
    · omega
    · have := ih h; simp only [tot] at this; omega
theorem rowAt_snoc (init : List (List Int)) (p : List Int) : rowAt (init ++ [p]) init.length = p := by simp [rowAt]
theorem stepB_snoc (init : List (List Int)) (p : List Int) (x : Int) : stepB (init ++ [p]) x = init ++ [p ++ [x - 1]] := by
  simp only [stepB, List.length_append, List.length_cons, List.length_nil, Nat.zero_add, Nat.add_sub_cancel]
  rw [rowAt_snoc]
  rw [List.set_append_right _ _ (Nat.le_refl _), Nat.sub_self]; rfl
/-- What is true of the branches on the way. -/
theorem partsTo_inv {zs : List Int} (h : IsL zs) (k : Nat) (hk : k ≤ zs.length) :
    (∀ p ∈ partsTo zs k, IsL p) ∧ tot (partsTo zs k) = k - 1 ∧ (k < 2 → partsTo zs k = []) ∧
    (2 ≤ k → ∃ init p, partsTo zs k = init ++ [p] ∧ el p (p.length - 1) = el zs (k - 1) - 1) := by
  induction k with
  | zero => exact ⟨fun p hp => by simp [partsTo] at hp, rfl, fun _ => rfl, fun h => by omega⟩
  | succ k ih =>
    obtain ⟨i1, i2, i3, i4⟩ := ih (by omega)
    by_cases h0 : k = 0
    · subst h0
      exact ⟨fun p hp => by simp [partsTo] at hp, rfl, fun _ => rfl, fun h => by omega⟩
    · have hx := h.2.2 k (by omega) (by omega)
      rw [partsTo, if_neg h0]
      simp only [Nat.add_sub_cancel]
      by_cases h1 : el zs k = 1
      · rw [stepA, if_pos h1, stepB_snoc, h1]
        refine ⟨fun p hp => ?_, ?_, fun h => by omega, fun _ => ⟨_, _, rfl, rfl⟩⟩
        · rcases List.mem_append.1 hp with hp | hp
          · exact i1 p hp
          · simp at hp; subst hp; exact IsL.single
        · clear i4; rw [tot_append, i2]; simp [tot]; omega
      · rw [stepA, if_neg h1]
        have hk2 : 2 ≤ k := by
          rcases Nat.lt_or_ge k 2 with h2 | h2
          · obtain rfl : k = 1 := by omega
            have := h.2.1; simp at hx; omega
          · exact h2
        have h3 : 1 ≤ el zs k - 1 := by omega
        have hno : ¬ k + 1 < 2 := by omega
        have h4 : el zs k - 1 ≤ el zs (k - 1) - 1 + 1 := by omega
        obtain ⟨init, p, e, hl⟩ := i4 hk2
        rw [e, stepB_snoc]
        rw [e] at i1 i2
        have hp := i1 p (by simp)
        refine ⟨fun q hq => ?_, ?_, fun h => absurd h hno, fun _ => ⟨init, _, rfl, ?_⟩⟩
        · rcases List.mem_append.1 hq with hq | hq
          · exact i1 q (List.mem_append_left _ hq)
          · simp at hq; subst hq; exact hp.snoc h3 (by rw [hl]; exact h4)
        · rw [tot_append] at i2 ⊢; simp [tot] at i2 ⊢; omega
        · simp [el]
theorem stepA_pos {zs : List Int} (h : IsL zs) (k : Nat) (h0 : 0 < k) (hk : k < zs.length) : 0 < (stepA (partsTo zs k) (el zs k)).length := by
  rw [stepA]
  split
  · simp
  · rename_i h1
    have hx := h.2.2 k h0 hk
    have hk2 : 2 ≤ k := by
      rcases Nat.lt_or_ge k 2 with h2 | h2
      · obtain rfl : k = 1 := by omega
        have := h.2.1; simp at hx; omega
      · exact h2
    obtain ⟨init, p, e, _⟩ := (partsTo_inv h k (by omega)).2.2.2 hk2
    rw [e]; simp
theorem length_le_tot {zss : List (List Int)} (h : ∀ p ∈ zss, 0 < p.length) : zss.length ≤ tot zss := by
  induction zss with
  | nil => simp [tot]
  | cons a r ih =>
    have h1 := ih (fun p hp => h p (List.mem_cons_of_mem _ hp))
    have h2 := h a (List.mem_cons_self ..)
    simp only [tot, List.map_cons, List.sum_cons, List.length_cons] at h1 ⊢; omega
theorem partsTo_len {zs : List Int} (h : IsL zs) (k : Nat) (hk : k ≤ zs.length) : (partsTo zs k).length ≤ k ∧ ∀ p ∈ partsTo zs k, p.length ≤ k := by
  obtain ⟨i1, i2, -, -⟩ := partsTo_inv h k hk
  have := length_le_tot (zss := partsTo zs k) (fun p hp => (i1 p hp).1)
  exact ⟨by omega, fun p hp => by have := tot_mem hp; omega⟩
theorem parts_IsL {zs : List Int} (h : IsL zs) : ∀ p ∈ parts zs, IsL p ∧ p.length < zs.length := fun p hp => by
  have i := partsTo_inv h zs.length (Nat.le_refl _)
  refine ⟨i.1 p hp, ?_⟩
  have := tot_mem hp
  have h0 := h.1
  unfold parts at this
  omega
theorem tot_parts {zs : List Int} (h : IsL zs) : tot (parts zs) = zs.length - 1 := (partsTo_inv h _ (Nat.le_refl _)).2.1
theorem parts_len {zs : List Int} (h : IsL zs) : (parts zs).length < zs.length := by
  have h1 := length_le_tot (zss := parts zs) (fun p hp => (parts_IsL h p hp).1.1)
  have := tot_parts h
  have := h.1
  omega
/-! The tree with some branches. -/
def up (b : List Int) : List Int := b.map (· + 1)
def rootL (bs : List (List Int)) : List Int := 0 :: bs.flatMap up
theorem up_length (b : List Int) : (up b).length = b.length := by simp [up]
theorem el_up (b : List Int) (i : Nat) (h : i < b.length) : el (up b) i = el b i + 1 := by simp [up, el, h]
theorem rootL_length (bs : List (List Int)) : (rootL bs).length = tot bs + 1 := by
  induction bs with
  | nil => rfl
  | cons a r ih => simp only [rootL, List.length_cons, List.flatMap_cons, List.length_append, up_length, tot, List.map_cons, List.sum_cons] at ih ⊢; omega
theorem IsL.graft {p b : List Int} (h : IsL p) (hb : IsL b) : IsL (p ++ up b) := by
  refine ⟨by have := h.1; simp; omega, by rw [el_append_left _ _ _ h.1]; exact h.2.1, fun i hi hk => ?_⟩
  simp [up_length] at hk
  by_cases hl : i < p.length
  · rw [el_append_left _ _ _ hl, el_append_left _ _ _ (by omega)]; exact h.2.2 i hi hl
  · rw [el_append_right _ _ _ (by omega), el_up _ _ (by omega)]
    by_cases he : i = p.length
    · subst he
      rw [Nat.sub_self, hb.2.1, el_append_left _ _ _ (by omega)]
      have := h.bd (p.length - 1) (by omega)
      omega
    · rw [el_append_right _ _ _ (by omega), el_up _ _ (by omega)]
      have h1 := hb.2.2 (i - p.length) (by omega) (by omega)
      rw [show i - 1 - p.length = i - p.length - 1 by omega]
      omega
theorem rootL_snoc (bs : List (List Int)) (b : List Int) : rootL (bs ++ [b]) = rootL bs ++ up b := by simp [rootL]
theorem rootL_IsL (bs : List (List Int)) (h : ∀ b ∈ bs, IsL b) : IsL (rootL bs) := by
  have key : ∀ (bs : List (List Int)) (p : List Int), IsL p → (∀ b ∈ bs, IsL b) → IsL (p ++ bs.flatMap up) := by
    intro bs
    induction bs with
    | nil => intro p hp _; simpa using hp
    | cons b r ih =>
      intro p hp hb
      rw [List.flatMap_cons, ← List.append_assoc]
      exact ih _ (hp.graft (hb b (List.mem_cons_self ..))) (fun c hc => hb c (List.mem_cons_of_mem _ hc))
  exact key bs [0] IsL.single h
/-! The orders. -/
def ltL : List Int → List Int → Bool
  | [], [] => false
  | [], _ :: _ => true
  | _ :: _, [] => false
  | a :: x, b :: y => if a = b then ltL x y else decide (a < b)
theorem ltL_irrefl (x : List Int) : ltL x x = false := by induction x with
  | nil => rfl
  | cons a x ih => rw [ltL, if_pos rfl]; exact ih
theorem ltL_tri (x y : List Int) : ltL x y = false → ltL y x = false → x = y := by
  induction x generalizing y with
  | nil => cases y with
    | nil => intro _ _; rfl
    | cons b y => intro h; simp [ltL] at h
  | cons a x ih => cases y with
    | nil => intro _ h; simp [ltL] at h
    | cons b y =>
      simp only [ltL]
      by_cases h : a = b
      · subst h; rw [if_pos rfl, if_pos rfl]; intro h1 h2; rw [ih y h1 h2]
      · rw [if_neg h, if_neg (Ne.symm h)]; intro h1 h2; simp at h1 h2; omega
theorem ltL_asymm (x y : List Int) : ltL x y = true → ltL y x = false := by
  induction x generalizing y with
  | nil => cases y <;> simp [ltL]
  | cons a x ih => cases y with
    | nil => simp [ltL]
    | cons b y =>
      simp only [ltL]
      by_cases h : a = b
      · subst h; rw [if_pos rfl, if_pos rfl]; exact ih y
      · rw [if_neg h, if_neg (Ne.symm h)]; intro h1; simp at h1 ⊢; omega
theorem ltL_trans (x y z : List Int) : ltL x y = true → ltL y z = true → ltL x z = true := by
  induction x generalizing y z with
  | nil => cases y with
    | nil => simp [ltL]
    | cons b y => cases z with
      | nil => simp [ltL]
      | cons c z => simp [ltL]
  | cons a x ih => cases y with
    | nil => simp [ltL]
    | cons b y => cases z with
      | nil => simp [ltL]
      | cons c z =>
        simp only [ltL]
        by_cases h : a = b
        · subst h; rw [if_pos rfl]
          by_cases h2 : a = c
          · subst h2; rw [if_pos rfl, if_pos rfl]; exact ih y z
          · rw [if_neg h2, if_neg h2]; exact fun _ h => h
        · rw [if_neg h]
          by_cases h2 : b = c
          · subst h2; rw [if_pos rfl, if_neg h]; exact fun h _ => h
          · rw [if_neg h2]; intro h3 h4; simp at h3 h4; rw [if_neg (by omega)]; simp; omega
theorem ltL_ntrans (x y z : List Int) (h1 : ltL x y = false) (h2 : ltL y z = false) : ltL x z = false := by
  cases h : ltL x z with
  | false => rfl
  | true =>
    cases h3 : ltL y x with
    | true => rw [ltL_trans y x z h3 h] at h2; cases h2
    | false => rw [ltL_tri x y h1 h3] at h; rw [h] at h2; cases h2
theorem ltL_at {xs ys : List Int} (k : Nat) (hs : ∀ j, j < k → el xs j = el ys j) (hx : k < xs.length) (hy : k < ys.length) (hne : el xs k ≠ el ys k) : ltL xs ys = decide (el xs k < el ys k) := by
  induction k generalizing xs ys with
  | zero => cases xs with
    | nil => simp at hx
    | cons a x => cases ys with
      | nil => simp at hy
      | cons b y => simp only [el_cons_zero] at hne ⊢; rw [ltL, if_neg hne]; rfl
  | succ k ih => cases xs with
    | nil => simp at hx
    | cons a x => cases ys with
      | nil => simp at hy
      | cons b y =>
        have h0 := hs 0 (by omega)
        simp only [el_cons_zero] at h0
        simp only [el_cons_succ] at hne ⊢
        rw [ltL, if_pos h0]
        exact ih (fun j hj => by have := hs (j + 1) (by omega); simpa only [el_cons_succ] using this) (by simpa using hx) (by simpa using hy) hne
theorem ltL_end {xs ys : List Int} (hs : ∀ j, j < xs.length → j < ys.length → el xs j = el ys j) : ltL xs ys = decide (xs.length < ys.length) := by
  induction xs generalizing ys with
  | nil => cases ys <;> simp [ltL]
  | cons a x ih => cases ys with
    | nil => simp [ltL]
    | cons b y =>
      have h0 := hs 0 (by simp) (by simp)
      simp only [el_cons_zero] at h0
      rw [ltL, if_pos h0, ih (fun j hj hj' => by have := hs (j + 1) (by simpa using hj) (by simpa using hj'); simpa only [el_cons_succ] using this)]
      simp
/-- What slices.Compare returns. -/
def cmpL (x y : List Int) : Int := if ltL x y = true then -1 else if ltL y x = true then 1 else 0
theorem cmpL_neg (x y : List Int) : decide (cmpL x y < 0) = ltL x y := by
  unfold cmpL
  cases h : ltL x y with
  | true => simp
  | false => cases h2 : ltL y x <;> simp
theorem cmpL_zero (x y : List Int) : cmpL x y = 0 ↔ x = y := by
  unfold cmpL
  cases h : ltL x y with
  | true => simp; rintro rfl; rw [ltL_irrefl] at h; cases h
  | false => cases h2 : ltL y x with
    | true => simp; rintro rfl; rw [ltL_irrefl] at h2; cases h2
    | false => simp; exact ltL_tri x y h h2
theorem cmpL_at {xs ys : List Int} (k : Nat) (hs : ∀ j, j < k → el xs j = el ys j) (hx : k < xs.length) (hy : k < ys.length) (hne : el xs k ≠ el ys k) : cmpL xs ys = if el xs k < el ys k then -1 else 1 := by
  unfold cmpL
  rw [ltL_at k hs hx hy hne, ltL_at k (fun j hj => (hs j hj).symm) hy hx (Ne.symm hne)]
  by_cases h : el xs k < el ys k
  · simp [h]
  · simp [h]; omega
theorem cmpL_end {xs ys : List Int} (hs : ∀ j, j < xs.length → j < ys.length → el xs j = el ys j) : cmpL xs ys = if xs.length < ys.length then -1 else if ys.length < xs.length then 1 else 0 := by
  unfold cmpL
  rw [ltL_end hs, ltL_end (fun j h1 h2 => (hs j h2 h1).symm)]
  simp
theorem cmpL_bd (xs ys : List Int) : -1 ≤ cmpL xs ys ∧ cmpL xs ys ≤ 1 := by
  unfold cmpL; split
  · omega
  · split <;> omega
/-- The order of trees. -/
def ltT (s t : List Int) : Bool := if s.length = t.length then ltL t s else decide (s.length < t.length)
/-- What compareTrees returns. -/
def cmpT (s t : List Int) : Int := if s.length = t.length then cmpL t s else (s.length : Int) - t.length
theorem cmpT_neg (s t : List Int) : decide (cmpT s t < 0) = ltT s t := by
  unfold cmpT ltT
  split
  · exact cmpL_neg t s
  · rw [decide_eq_decide]; omega
theorem ltT_irrefl (x : List Int) : ltT x x = false := by rw [ltT, if_pos rfl]; exact ltL_irrefl x
theorem ltT_tri (x y : List Int) : ltT x y = false → ltT y x = false → x = y := by
  unfold ltT
  by_cases h : x.length = y.length
  · rw [if_pos h, if_pos h.symm]; intro h1 h2; exact ltL_tri x y h2 h1
  · rw [if_neg h, if_neg (Ne.symm h)]; intro h1 h2; simp at h1 h2; omega
theorem ltT_trans (x y z : List Int) : ltT x y = true → ltT y z = true → ltT x z = true := by
  unfold ltT
  by_cases h : x.length = y.length
  · by_cases h2 : y.length = z.length
    · rw [if_pos h, if_pos h2, if_pos (h.trans h2)]; exact fun a b => ltL_trans z y x b a
    · rw [if_pos h, if_neg h2, if_neg (by omega)]; intro _ b; simp at b ⊢; omega
  · rw [if_neg h]
    by_cases h2 : y.length = z.length
    · rw [if_pos h2, if_neg (by omega)]; intro b _; simp at b ⊢; omega
    · rw [if_neg h2]; intro a b; simp at a b; rw [if_neg (by omega)]; simp; omega
theorem ltT_ntrans (x y z : List Int) (h1 : ltT x y = false) (h2 : ltT y z = false) : ltT x z = false := by
  cases h : ltT x z with
  | false => rfl
  | true =>
    cases h3 : ltT y x with
    | true => rw [ltT_trans y x z h3 h] at h2; cases h2
    | false => rw [ltT_tri x y h1 h3] at h; rw [h] at h2; cases h2
/-! Sorting by putting in: R x y says that x must stand ahead of y. -/
section
variable (R : List Int → List Int → Bool)
def insR (x : List Int) : List (List Int) → List (List Int)
  | [] => [x]
  | y :: ys => if R x y = true then x :: y :: ys else y :: insR x ys
def sortTo (zss : List (List Int)) : Nat → List (List Int)
  | 0 => []
  | k + 1 => insR R (rowAt zss k) (sortTo zss k)
def sortR (zss : List (List Int)) : List (List Int) := sortTo R zss zss.length
theorem insR_length (x : List Int) (l : List (List Int)) : (insR R x l).length = l.length + 1 := by
  induction l with
  | nil => rfl
  | cons y ys ih => rw [insR]; split <;> simp [ih]
theorem sortTo_length (zss : List (List Int)) (k : Nat) : (sortTo R zss k).length = k := by
  induction k with
  | zero => rfl
  | succ k ih => rw [sortTo, insR_length, ih]
theorem insR_at (x : List Int) (l : List (List Int)) (k : Nat) (hs : ∀ j, j < k → R x (rowAt l j) = false) (hk : k ≤ l.length) (he : k = l.length ∨ R x (rowAt l k) = true) :
    insR R x l = l.take k ++ x :: l.drop k := by
  induction l generalizing k with
  | nil => obtain rfl : k = 0 := by simpa using hk
           rfl
  | cons y ys ih =>
    cases k with
    | zero =>
      have h : R x y = true := he.elim (fun h => by simp at h) (fun h => h)
      rw [insR, if_pos h]; rfl
    | succ k =>
      have h0 : R x y = false := hs 0 (by omega)
      rw [insR, h0, if_neg (by simp), ih k (fun j hj => hs (j + 1) (by omega)) (by simpa using hk) (he.elim (fun h => .inl (by simpa using h)) (fun h => .inr h))]
      rfl
theorem insR_perm (x : List Int) (l : List (List Int)) : (insR R x l).Perm (x :: l) := by
  induction l with
  | nil => exact .refl _
  | cons y ys ih =>
    rw [insR]; split
    · exact .refl _
    · exact (ih.cons y).trans (.swap x y ys)
theorem sortTo_perm (zss : List (List Int)) (k : Nat) (hk : k ≤ zss.length) : (sortTo R zss k).Perm (zss.take k) := by
  induction k with
  | zero => exact .refl _
  | succ k ih =>
    rw [sortTo, List.take_succ_eq_append_getElem (by omega), rowAt_at zss k (by omega)]
    exact (insR_perm R _ _).trans (((ih (by omega)).cons _).trans (List.perm_append_singleton _ _).symm)
theorem sortR_perm (zss : List (List Int)) : (sortR R zss).Perm zss := by
  have := sortTo_perm R zss zss.length (Nat.le_refl _)
  rwa [List.take_length] at this
theorem insR_sorted (ha : ∀ x y, R x y = true → R y x = false) (hn : ∀ x y z, R x y = false → R y z = false → R x z = false) (x : List Int) (l : List (List Int))
    (h : l.Pairwise fun a b => R b a = false) : (insR R x l).Pairwise fun a b => R b a = false := by
  induction l with
  | nil => simp [insR]
  | cons y ys ih =>
    rw [List.pairwise_cons] at h
    rw [insR]; split
    · rename_i hr
      rw [List.pairwise_cons]
      refine ⟨fun z hz => ?_, List.pairwise_cons.2 h⟩
      rcases List.mem_cons.1 hz with rfl | hz
      · exact ha _ _ hr
      · exact hn z y x (h.1 z hz) (ha _ _ hr)
    · rename_i hr
      rw [List.pairwise_cons]
      refine ⟨fun z hz => ?_, ih h.2⟩
      rcases List.mem_cons.1 ((insR_perm R x ys).mem_iff.1 hz) with rfl | hz
      · simpa using hr
      · exact h.1 z hz
theorem sortTo_sorted (ha : ∀ x y, R x y = true → R y x = false) (hn : ∀ x y z, R x y = false → R y z = false → R x z = false) (zss : List (List Int)) (k : Nat) :
    (sortTo R zss k).Pairwise fun a b => R b a = false := by
  induction k with
  | zero => exact .nil
  | succ k ih => exact insR_sorted R ha hn _ _ ih
/-- There is one sorted permutation. -/
theorem sortR_unique (ha : ∀ x y, R x y = true → R y x = false) (hn : ∀ x y z, R x y = false → R y z = false → R x z = false) (ht : ∀ x y, R x y = false → R y x = false → x = y)
    (zss l : List (List Int)) (hp : l.Perm zss) (hs : l.Pairwise fun a b => R b a = false) : l = sortR R zss :=
  List.Perm.eq_of_pairwise (le := fun a b => R b a = false) (fun a b _ _ h1 h2 => ht a b h2 h1) hs (sortTo_sorted R ha hn zss _) (hp.trans (sortR_perm R zss).symm)
end
/-- Descending lists. -/
def RD (x y : List Int) : Bool := ltL y x
def sortD (zss : List (List Int)) : List (List Int) := sortR RD zss
def sortT (zss : List (List Int)) : List (List Int) := sortR ltT zss
theorem sortD_unique (zss l : List (List Int)) (hp : l.Perm zss) (hs : l.Pairwise fun a b => RD b a = false) : l = sortD zss :=
  sortR_unique RD (fun _ _ => ltL_asymm _ _) (fun x y z h1 h2 => ltL_ntrans z y x h2 h1) (fun x y h1 h2 => ltL_tri x y h2 h1) zss l hp hs
theorem ltT_asymm (x y : List Int) (h : ltT x y = true) : ltT y x = false := by
  cases h2 : ltT y x with
  | false => rfl
  | true => have := ltT_trans x y x h h2; rw [ltT_irrefl] at this; cases this
theorem sortT_unique (zss l : List (List Int)) (hp : l.Perm zss) (hs : l.Pairwise fun a b => ltT b a = false) : l = sortT zss :=
  sortR_unique ltT ltT_asymm ltT_ntrans ltT_tri zss l hp hs
theorem tot_perm {a b : List (List Int)} (h : a.Perm b) : tot a = tot b := (h.map _).sum_nat
/-! The canonical list, for lists of at most so many nodes. -/
def canonF : Nat → List Int → List Int
  | 0, t => t
  | n + 1, t => rootL (sortD ((parts t).map (canonF n)))
theorem canonF_IsL (n : Nat) (t : List Int) (h : IsL t) : IsL (canonF n t) ∧ (t.length ≤ n → (canonF n t).length = t.length) := by
  induction n generalizing t with
  | zero => exact ⟨h, fun _ => rfl⟩
  | succ n ih =>
    have hp := sortR_perm RD ((parts t).map (canonF n))
    refine ⟨rootL_IsL _ fun b hb => ?_, fun hl => ?_⟩
    · obtain ⟨q, hq, rfl⟩ := List.mem_map.1 (hp.mem_iff.1 hb)
      exact (ih q (parts_IsL h q hq).1).1
    · rw [canonF, rootL_length, sortD, tot_perm hp]
      have : tot ((parts t).map (canonF n)) = tot (parts t) := by
        unfold tot
        rw [List.map_map]
        congr 1
        apply List.map_congr_left
        intro q hq
        exact (ih q (parts_IsL h q hq).1).2 (by have := (parts_IsL h q hq).2; omega)
      rw [this, tot_parts h]
      have := h.1
      omega
theorem rowAt_map (f : List Int → List Int) (zss : List (List Int)) (k : Nat) (h : k < zss.length) : rowAt (zss.map f) k = f (rowAt zss k) := by simp [rowAt, h]
/-- The first k lists mapped. -/
def mapTo (f : List Int → List Int) (zss : List (List Int)) (k : Nat) : List (List Int) := (zss.take k).map f ++ zss.drop k
theorem mapTo_zero (f : List Int → List Int) (zss : List (List Int)) : mapTo f zss 0 = zss := by simp [mapTo]
theorem mapTo_all (f : List Int → List Int) (zss : List (List Int)) : mapTo f zss zss.length = zss.map f := by simp [mapTo]
theorem mapTo_length (f : List Int → List Int) (zss : List (List Int)) (k : Nat) : (mapTo f zss k).length = zss.length := by simp [mapTo]; omega
theorem mapTo_at (f : List Int → List Int) (zss : List (List Int)) (k : Nat) (h : k < zss.length) : rowAt (mapTo f zss k) k = rowAt zss k := by
  unfold mapTo rowAt
  rw [List.getD_eq_getElem?_getD, List.getElem?_append_right (by simp; omega), List.length_map, List.length_take, Nat.min_eq_left (by omega), Nat.sub_self, List.getElem?_drop, Nat.add_zero, List.getD_eq_getElem?_getD]
theorem mapTo_set (f : List Int → List Int) (zss : List (List Int)) (k : Nat) (h : k < zss.length) : (mapTo f zss k).set k (f (rowAt zss k)) = mapTo f zss (k + 1) := by
  unfold mapTo
  rw [List.set_append_right _ _ (by simp; omega), List.length_map, List.length_take, Nat.min_eq_left (by omega), Nat.sub_self, List.drop_eq_getElem_cons h, List.set_cons_zero, List.take_succ_eq_append_getElem h, List.map_append, rowAt_at zss k h]
  simp
theorem rootL_take (zss : List (List Int)) (k : Nat) (h : k < zss.length) : rootL (zss.take (k + 1)) = rootL (zss.take k) ++ up (rowAt zss k) := by
  rw [List.take_succ_eq_append_getElem h, rowAt_at zss k h, rootL_snoc]
theorem tot_take (zss : List (List Int)) (k : Nat) : tot (zss.take k) ≤ tot zss := by
  have : tot (zss.take k) + tot (zss.drop k) = tot zss := by rw [← tot_append, List.take_append_drop]
  omega
theorem up_take (b : List Int) (m : Nat) (h : m < b.length) : up (b.take (m + 1)) = up (b.take m) ++ [el b m + 1] := by
  unfold up; rw [List.take_succ_eq_append_getElem h, el_at b m h, List.map_append]; rfl
theorem canon_parts_IsL {n : Nat} {t : List Int} (h : IsL t) : ∀ b ∈ sortD ((parts t).map (canonF n)), IsL b := fun b hb => by
  obtain ⟨q, hq, rfl⟩ := List.mem_map.1 ((sortR_perm RD _).mem_iff.1 hb)
  exact (canonF_IsL n q (parts_IsL h q hq).1).1
theorem canon_parts_tot {n : Nat} {t : List Int} (h : IsL t) (hl : t.length ≤ n + 1) : tot (sortD ((parts t).map (canonF n))) = t.length - 1 := by
  have h1 := (canonF_IsL (n + 1) t h).2 hl
  rw [canonF, rootL_length] at h1
  omega
/-- The canonical list of a level list with at most eight nodes. -/
def canon (t : List Int) : List Int := canonF 8 t
end Go.Proofs.Ytmhcpaffdchboaa
