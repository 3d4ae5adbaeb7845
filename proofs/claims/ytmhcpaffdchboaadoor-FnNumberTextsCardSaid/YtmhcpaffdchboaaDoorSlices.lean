/-
  The walks of the laws' own helpers on lists of integers: a copy, a comparison, marks.
-/
import Derived.Test.YtmhcpaffdchboaaDoorRows
import Derived.Test.YtmhcpaffdchboaaDoorPlain
import Derived.Test.YtmhcpaffdchboaaDoorMem
namespace Go.Proofs.YtmhcpaffdchboaaDoor
open Go.RowKit
theorem info_i64 : (Tryd.prog.info? 2).map (fun i => (i.zero, i.size, i.bytes)) = some (some (.int .i64 0), 1, 8) := by kernel_rfl
/-- The first k elements of a list, then zeros. -/
def upTo (zs : List Int) (k : Nat) : List Int := zs.take k ++ List.replicate (zs.length - k) 0
theorem upTo_length (zs : List Int) (k : Nat) (hk : k ≤ zs.length) : (upTo zs k).length = zs.length := by simp [upTo]; omega
theorem upTo_zero (zs : List Int) : upTo zs 0 = List.replicate zs.length 0 := by simp [upTo]
theorem upTo_all (zs : List Int) : upTo zs zs.length = zs := by simp [upTo]
theorem upTo_get (zs : List Int) (k j : Nat) (hk : k ≤ zs.length) : (upTo zs k)[j]? = if j < zs.length then some (if j < k then el zs j else 0) else none := by
  unfold upTo
  by_cases h1 : j < k
  · rw [List.getElem?_append_left (by simp; omega), List.getElem?_take, if_pos h1, if_pos (by omega), if_pos h1, ← el_at zs j (by omega)]
    exact List.getElem?_eq_getElem (by omega)
  · rw [List.getElem?_append_right (by simp; omega), List.getElem?_replicate, List.length_take, if_neg h1]
    by_cases h2 : j < zs.length
    · rw [if_pos (by omega), if_pos h2]
    · rw [if_neg (by omega), if_neg h2]
theorem upTo_succ (zs : List Int) (k : Nat) (hk : k < zs.length) : (upTo zs k).set k (el zs k) = upTo zs (k + 1) := by
  apply List.ext_getElem?
  intro j
  rw [List.getElem?_set, upTo_get zs k j (by omega), upTo_get zs (k + 1) j (by omega), upTo_length zs k (by omega)]
  by_cases h1 : k = j
  · subst h1; simp [hk]
  · rw [if_neg h1]
    by_cases h2 : j < k
    · simp [h2, show j < k + 1 by omega]
    · simp [h2, show ¬ j < k + 1 by omega]
/-- The numbers k, k + 1 .., n of them. -/
def upFrom (k : Int) (n : Nat) : List Int := (List.range n).map fun i : Nat => k + (i : Int)
theorem upFrom_length (k : Int) (n : Nat) : (upFrom k n).length = n := by simp [upFrom]
theorem upFrom_el (k : Int) (n j : Nat) (h : j < n) : el (upFrom k n) j = k + j := by simp [upFrom, el, h]
/-- The first j elements of a list marked. -/
def marked (zs : List Int) (k : Int) (j : Nat) : List Int := upFrom k j ++ zs.drop j
theorem marked_zero (zs : List Int) (k : Int) : marked zs k 0 = zs := by simp [marked, upFrom]
theorem marked_all (zs : List Int) (k : Int) : marked zs k zs.length = upFrom k zs.length := by simp [marked]
theorem marked_length (zs : List Int) (k : Int) (j : Nat) (h : j ≤ zs.length) : (marked zs k j).length = zs.length := by simp [marked, upFrom_length]; omega
theorem marked_succ (zs : List Int) (k : Int) (j : Nat) (h : j < zs.length) : (marked zs k j).set j (k + j) = marked zs k (j + 1) := by
  unfold marked
  rw [List.set_append_right _ _ (by rw [upFrom_length]; omega), upFrom_length, Nat.sub_self, List.drop_eq_getElem_cons h, List.set_cons_zero]
  simp [upFrom, List.range_succ]
end Go.Proofs.YtmhcpaffdchboaaDoor
