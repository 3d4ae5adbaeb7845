/-
  The parts of a text between slashes, and what the library's Cut and CutPrefix give: the plain law.
-/
import Derived.Test.YtmhcpaffdchboaaDoorSplit
namespace Go.Proofs.YtmhcpaffdchboaaDoor
open Go.RowKit
set_option linter.unusedVariables false
theorem occ_no (l : List UInt8) (j : Nat) (h : ∀ c, l[j]? = some c → c ≠ 47) : Lib.occAt l [47] j = false := by
  unfold Lib.occAt
  cases e : l.drop j with
  | nil => rfl
  | cons x r =>
    have hx : l[j]? = some x := by
      have := congrArg (·[0]?) e
      simpa using this
    have := h x hx
    have h2 : (47 == x) = false := by rw [beq_eq_false_iff_ne]; exact fun e => this e.symm
    simp [List.isPrefixOf, h2]
theorem cut_none (l : List UInt8) (h : ∀ c ∈ l, c ≠ 47) : Lib.cut l [47] = (l, [], false) := by
  have : Lib.index l [47] = -1 := Lib.index_none (fun j _ => occ_no l j (fun c hc => h c (List.mem_of_getElem? hc)))
  unfold Lib.cut
  rw [this, if_neg (by omega)]
theorem cut_at (X Y : List UInt8) (h : ∀ c ∈ X, c ≠ 47) : Lib.cut (X ++ 47 :: Y) [47] = (X, Y, true) := by
  have : Lib.index (X ++ 47 :: Y) [47] = X.length := Lib.index_first (by simp) (by unfold Lib.occAt; simp [List.isPrefixOf]) (fun j hj => occ_no _ j (fun c hc => by
    rw [List.getElem?_append_left hj] at hc
    exact h c (List.mem_of_getElem? hc)))
  unfold Lib.cut
  rw [this, if_pos (by omega)]
  simp
def negB (E : ByteArray) : Bool := decide (0 < E.size) && (st E 0 == 45)
def strip (E : ByteArray) : ByteArray := if negB E = true then E.extract 1 E.size else E
theorem bA_bL (E : ByteArray) : bA (bL E) = E := rfl
theorem bL_extract (a : ByteArray) (i j : Nat) : bL (a.extract i j) = ((bL a).drop i).take (j - i) := by
  unfold bL; rw [Lib.extract_data]
theorem strip_neg (E : ByteArray) (h : negB E = true) : bL E = 45 :: bL (strip E) := by
  rw [strip, if_pos h, bL_extract]
  unfold negB at h
  rw [Bool.and_eq_true, decide_eq_true_eq, beq_iff_eq] at h
  have hl := bL_len E
  have h0 := bL_at E 0
  cases e : bL E with
  | nil => rw [e] at hl; simp at hl; omega
  | cons x r =>
    rw [e] at h0 hl
    have : x = 45 := by rw [← h.2, ← h0]; rfl
    subst this
    rw [← hl]
    simp
theorem head_not (E : ByteArray) (h : negB E = false) (R : List UInt8) (hR : R = [] ∨ ∃ Y, R = 47 :: Y) : Lib.hasPrefix (bL E ++ R) [45] = false := by
  have hl := bL_len E
  have h0 := bL_at E 0
  cases e : bL E with
  | nil => rcases hR with rfl | ⟨Y, rfl⟩ <;> rfl
  | cons x r =>
    rw [e] at hl h0
    have hx : x ≠ 45 := by
      intro hx
      have : negB E = true := by
        unfold negB
        rw [← h0, hx]
        simp at hl
        simp; omega
      rw [h] at this; cases this
    have h2 : (45 == x) = false := by rw [beq_eq_false_iff_ne]; exact fun e => hx e.symm
    show List.isPrefixOf [45] (x :: (r ++ R)) = false
    simp [List.isPrefixOf, h2]
theorem prefix_eq (E : ByteArray) (R : List UInt8) (hR : R = [] ∨ ∃ Y, R = 47 :: Y) : Lib.hasPrefix (bL E ++ R) [45] = negB E ∧ Lib.trimPrefix (bL E ++ R) [45] = bL (strip E) ++ R := by
  cases h : negB E with
  | true =>
    have hs := strip_neg E h
    have hp : Lib.hasPrefix (bL E ++ R) [45] = true := by rw [hs]; simp [Lib.hasPrefix, List.isPrefixOf]
    refine ⟨hp, ?_⟩
    unfold Lib.trimPrefix
    rw [if_pos hp, hs]
    rfl
  | false =>
    have hp := head_not E h R hR
    refine ⟨hp, ?_⟩
    unfold Lib.trimPrefix
    rw [if_neg (by rw [hp]; simp), strip, if_neg (by rw [h]; simp)]
theorem strip_mem (E : ByteArray) (h : ∀ c ∈ bL E, c ≠ 47) : ∀ c ∈ bL (strip E), c ≠ 47 := by
  cases e : negB E with
  | true => rw [strip_neg E e] at h; exact fun c hc => h c (by simp [hc])
  | false => rw [strip, if_neg (by rw [e]; simp)]; exact h
theorem parse_one (a E : ByteArray) (h : bL a = bL E) (hno : ∀ c ∈ bL E, c ≠ 47) : parseR (bL a) = finR (negB E) (valB (strip E)) 1 := by
  have hp := prefix_eq E [] (.inl rfl)
  rw [List.append_nil, List.append_nil] at hp
  unfold parseR cutS
  rw [h, hp.1, hp.2, cut_none _ (strip_mem E hno), bA_bL]
  rfl
theorem parse_two (a E F : ByteArray) (h : bL a = bL E ++ 47 :: bL F) (hno : ∀ c ∈ bL E, c ≠ 47) : parseR (bL a) = finR (negB E) (valB (strip E)) (valB F) := by
  have hp := prefix_eq E (47 :: bL F) (.inr ⟨_, rfl⟩)
  unfold parseR cutS
  rw [h, hp.1, hp.2, cut_at _ _ (strip_mem E hno), bA_bL, bA_bL]
  rfl
theorem valB_slash (E : ByteArray) (j : Nat) (hj : j < E.size) (h : st E j = 47) : valB E = -1 := by
  unfold valB
  split
  · rfl
  · have h1 : vTo (st E) (j + 1) = none := by
      rw [vTo]
      cases vTo (st E) j with
      | none => rfl
      | some n => rw [h]; rfl
    have h2 := vTo_none _ _ h1 (E.size - (j + 1))
    rw [show j + 1 + (E.size - (j + 1)) = E.size by omega] at h2
    rw [h2]
theorem st_extract (a : ByteArray) (i j : Nat) (h : i + j < a.size) : st (a.extract i a.size) j = st a (i + j) := by
  rw [← bL_at, ← bL_at, bL_extract, List.getD_eq_getElem?_getD, List.getD_eq_getElem?_getD, List.getElem?_take_of_lt (by omega), List.getElem?_drop]
theorem bL_split (a : ByteArray) (i : Nat) (hi : i < a.size) (h : st a i = 47) : bL a = bL (a.extract 0 i) ++ 47 :: bL (a.extract (i + 1) a.size) := by
  have hl := bL_len a
  rw [bL_extract, bL_extract, List.drop_zero, Nat.sub_zero, List.take_of_length_le (l := (bL a).drop (i + 1)) (by rw [List.length_drop]; omega)]
  have hg : (bL a)[i]'(by omega) = 47 := by
    have := bL_at a i
    rw [List.getD_eq_getElem?_getD, List.getElem?_eq_getElem (by omega)] at this
    rw [← h, ← this]; rfl
  rw [← hg, ← List.drop_eq_getElem_cons, List.take_append_drop]
theorem mem_take (a : ByteArray) (i : Nat) (h : ∀ j, j < i → st a j ≠ 47) : ∀ c ∈ bL (a.extract 0 i), c ≠ 47 := by
  intro c hc
  rw [bL_extract, List.drop_zero, Nat.sub_zero] at hc
  obtain ⟨j, hj, rfl⟩ := List.mem_iff_getElem.1 hc
  rw [List.length_take] at hj
  have := h j (by omega)
  rw [← bL_at, List.getD_eq_getElem?_getD, List.getElem?_eq_getElem (by omega)] at this
  simpa using this
theorem bL_whole (a : ByteArray) : bL a = bL (a.extract 0 a.size) := by
  rw [bL_extract, List.drop_zero, Nat.sub_zero, ← bL_len, List.take_length]
theorem extract_size_le (a : ByteArray) (i j : Nat) : (a.extract i j).size ≤ a.size := by
  rw [← bL_len, bL_extract, ← bL_len a]; simp; omega
/-- The three forms of what l01Split gives. -/
theorem split_forms (a : ByteArray) (xs : List Value) (h : SplP a xs) :
    ∃ E : ByteArray, E.size ≤ a.size ∧ ((xs = [.string E] ∧ parseR (bL a) = finR (negB E) (valB (strip E)) 1) ∨
      (∃ F : ByteArray, F.size ≤ a.size ∧ xs = [.string E, .string F] ∧ parseR (bL a) = finR (negB E) (valB (strip E)) (valB F)) ∨
      (∃ rest, xs = .string E :: rest ∧ 2 ≤ rest.length ∧ parseR (bL a) = (0, 6))) := by
  rcases h with ⟨rfl, h3⟩ | ⟨i, h1, h2, h3, ⟨rfl, h6⟩ | ⟨rest, rfl, h5, j, h6, h7, h8⟩⟩
  · exact ⟨_, extract_size_le a _ _, .inl ⟨rfl, parse_one a _ (bL_whole a) (mem_take a a.size h3)⟩⟩
  · exact ⟨_, extract_size_le a _ _, .inr (.inl ⟨_, extract_size_le a _ _, rfl, parse_two a _ _ (bL_split a i h1 h2) (mem_take a i h3)⟩)⟩
  · refine ⟨_, extract_size_le a _ _, .inr (.inr ⟨rest, rfl, h5, ?_⟩)⟩
    rw [parse_two a _ _ (bL_split a i h1 h2) (mem_take a i h3)]
    have hv : valB (a.extract (i + 1) a.size) = -1 := by
      refine valB_slash _ (j - (i + 1)) ?_ ?_
      · rw [← bL_len, bL_extract]; have := bL_len a; simp; omega
      · rw [st_extract a (i + 1) (j - (i + 1)) (by omega), show i + 1 + (j - (i + 1)) = j by omega]; exact h8
    exact finR_bad _ _ _ (.inr (.inl (by rw [hv]; omega)))
theorem numberOfR_in (p q : Int) (hp : -1000000000 ≤ p) (hp' : p ≤ 1000000000) (hq : 1 ≤ q) (hq' : q ≤ 1000000000) : numberOfR p q = if q % 10007 = 0 then (0, 5) else (frac p q, 0) := by
  rw [numberOfR, if_pos]
  simp [inB, inR]; omega
end Go.Proofs.YtmhcpaffdchboaaDoor
