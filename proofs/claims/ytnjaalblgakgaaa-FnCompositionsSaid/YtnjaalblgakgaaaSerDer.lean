/-
  The walks of derivatives and integrals of series.
-/
import Derived.Test.YtnjaalblgakgaaaSerFns
import Derived.Test.YtnjaalblgakgaaaSerChk
import Derived.Test.YtnjaalblgakgaaaExp
import Derived.Test.YtnjaalblgakgaaaSerAdd
namespace Go.Proofs.Ytnjaalblgakgaaa
open Go.RowKit
set_option maxRecDepth 100000
/-- The result of a function of a series that fails with a code of its own kind. -/
def ser1R (f : Nat → PS → PS) (zs : List Int) : List Int × Int := if isSer zs = true then (lst zs.length (f zs.length (ser zs)), 0) else ([], 1)
/-- The derivative as far as the index k, the coefficients behind 0. -/
def derTo (k : Nat) (A : PS) : PS := fun i => if i + 1 < k then PS.D A i else 0
theorem derTo_succ (k : Nat) (A : PS) (hk : 1 ≤ k) : (fun i => if i = k - 1 then PS.nF k * A k else derTo k A i) = derTo (k + 1) A := by
  funext i
  by_cases h : i = k - 1
  · subst h
    simp only [if_true, derTo, PS.D]
    rw [show k - 1 + 1 = k by omega, if_pos (by omega)]
  · rw [if_neg h]
    simp only [derTo]
    by_cases h2 : i + 1 < k
    · rw [if_pos h2, if_pos (by omega)]
    · rw [if_neg h2, if_neg (by omega)]
theorem lst_set (n : Nat) (f : PS) (j : Nat) (x : F) : (lst n f).set j (vI x) = lst n (fun i => if i = j then x else f i) := by
  apply List.ext_getElem (by simp)
  intro i h1 h2
  simp only [lst_length] at h2
  rw [List.getElem_set, el_at _ i (by simpa using h2), el_at _ i (by simpa using h2), lst_el _ _ _ h2, lst_el _ _ _ h2]
  by_cases h : j = i
  · rw [if_pos h, if_pos h.symm]
  · rw [if_neg h, if_neg (fun e => h e.symm)]
theorem lst_zeros (n : Nat) : lst n (fun _ => 0) = List.replicate n 0 := by
  apply List.ext_getElem (by simp)
  intro i h1 h2
  simp only [lst_length] at h1
  rw [el_at _ i (by simpa using h1), lst_el _ _ _ h1, vI_zero]; simp
/-- A slice just made holds zeros. -/
theorem OwnI.zeros {base : Nat} {w : World} {v : Value} {n : Nat} (h : w.ownsRow base 2 1 v n (madeCells #[Value.int .i64 0] n).toList) (hn : n ≤ 1048576) : OwnI base w v (lst n (fun _ => 0)) :=
  OwnI.mk h (by rw [toList_madeCells_one, lst_zeros]; simp) (by simpa using hn)
/-- A store of an element into an own list of a series. -/
theorem OwnI.put {base : Nat} {w : World} {g m cap n : Nat} {f : PS} (h : OwnI base w (.slice (some ⟨g, 0, none⟩) m cap) (lst n f)) (j : Nat) (x : F) :
    OwnI base (w.setCell ⟨g, j, none⟩ (.int .i64 (vI x))) (.slice (some ⟨g, 0, none⟩) m cap) (lst n (fun i => if i = j then x else f i)) ∧ w.grownBy (w.setCell ⟨g, j, none⟩ (.int .i64 (vI x))) (some g) := by
  have := h.set j (vI x)
  rwa [lst_set] at this
theorem OwnI.cellS {base : Nat} {w : World} {g m cap n : Nat} {f : PS} (h : OwnI base w (.slice (some ⟨g, 0, none⟩) m cap) (lst n f)) (j : Nat) (hj : j < n) : w.cell? ⟨g, j, none⟩ = some (.int .i64 (vI (f j))) := by
  rw [h.cell j (by simpa using hj), lst_el _ _ _ hj]
theorem derived_any (n : Nat) (A : PS) (v : Value) (w : World) (h : RdI w v (lst n A)) (hsm : n ≤ 16) :
    Calls Try.prog 82 #[v] w fun e w' => ∃ r, e = .returned r ∧ OwnI w.heap.size w' r (lst n (derTo n A)) ∧ Below w.heap.size w w' := by
  obtain ⟨i0, hi, hz0, hz1, hz2⟩ := info_parts info_i64
  have H := hid h
  obtain ⟨ao, cap, rfl, hcap, hmax, -⟩ := h
  simp only [lst_length] at hcap hmax ⊢
  go_enter Try.func82, Try.ntmps82
  go_wp2_with (at_make; refine wpList_make_full _ rfl _ _ _ rfl w.heap.size 2 i0 _ 1 Try.underlying22 hi hz0 hz1 _ _ _ _ n rfl rfl rfl rfl ?c1 ?c2 ?c3 ?_)
  case c1 => rw [hz2]; omega
  case c2 => unfold maxLen; omega
  case c3 => exact Nat.le_refl _
  intro w1 hown hgrow
  have hg := hgrow.size
  have O1 := OwnI.zeros hown hmax
  have B1 : Below w.heap.size w w1 := (Below.refl _ _).grown hgrow (Nat.le_refl _) (by simp)
  have e1 : (fun _ => 0 : PS) = derTo 1 A := by funext i; simp [derTo]
  rw [e1] at O1
  clear hown hgrow hz2 hz1 hz0 hi e1
  go_wp2
  go_loopw [4] (fun i wr => ∃ k : Nat, 1 ≤ k ∧ (k ≤ n ∨ k = 1) ∧ i = .int .i64 k ∧ OwnI w.heap.size wr (.slice (some ⟨w.heap.size, 0, none⟩) n n) (lst n (derTo k A)) ∧ Below w.heap.size w wr) (fun i _ => n - (intOf i).toNat)
  case atStart => exact ⟨1, Nat.le_refl _, .inr rfl, rfl, O1, B1⟩
  case round =>
    obtain ⟨k, hk1, hk, rfl, O, Bl⟩ := hrel
    by_cases hlt : k < n
    · obtain ⟨b, off, rfl, hcell⟩ := (H.out.mono Bl).at_ (k := k) (by simpa using hlt)
      rw [lst_el _ _ _ hlt] at hcell
      have b1 := vI_bd (A k)
      have m1 := (mul_bd (a := (k : Int)) (by omega) (by omega) b1.1 b1.2).1
      have m2 := (mul_bd (a := (k : Int)) (by omega) (by omega) b1.1 b1.2).2
      have hx : (k : Int) * vI (A k) % 10007 = vI (PS.nF k * A k) := by rw [vI_mul, vI_nF k (by omega)]
      obtain ⟨O2, G2⟩ := O.put (k - 1) (PS.nF k * A k)
      rw [derTo_succ k A hk1, ← hx] at O2
      rw [← hx] at G2
      have hgl := O.glt.2
      have hfk := O.free (k - 1)
      have hck := O.cellS (k - 1) (by omega)
      obtain ⟨x, hx'⟩ : ∃ x, x = Value.int .i64 (vI (derTo k A (k - 1))) := ⟨_, rfl⟩
      rw [← hx'] at hck
      clear hx hx' O
      have HG := hid G2
      have HO := hid O2
      clear G2 O2
      go_wp2_with (go_at_call 63; refine (num_any _ _).mono ?_; rintro e w' ⟨rfl, rfl⟩)
      go_roundw
      case rel => exact ⟨k + 1, by omega, .inl (by omega), by go_num, HO.out, Bl.grown HG.out (by omega) (by simp)⟩
      case measure => simp [intOf]; omega
    · go_wp2
      go_ret
      refine ⟨_, rfl, ?_, Bl⟩
      have e : lst n (derTo k A) = lst n (derTo n A) := by
        rcases hk with hk | hk
        · rw [show k = n by omega]
        · subst hk
          apply lst_congr
          intro i hi
          simp only [derTo]; rw [if_neg (by omega), if_neg (by omega)]
      rwa [e] at O
theorem deriveSeries_any (v : Value) (zs : List Int) (w : World) (h : RdI w v zs) :
    Calls Try.prog 27 #[v] w fun e w' => ∃ r, e = .returned (.tuple #[r, .int .i64 (ser1R derTo zs).2]) ∧ OwnI w.heap.size w' r (ser1R derTo zs).1 ∧ Below w.heap.size w w' := by
  cases hs : isSer zs with
  | true =>
    have s1 := isSer_yes hs
    have HA := hid (h.ser_ s1.2.2)
    have HR : Hid (ser1R derTo zs = (lst zs.length (derTo zs.length (ser zs)), 0)) := by simp [Hid, ser1R, hs]
    have HS := hid hs
    clear hs
    go_enter Try.func27, Try.ntmps27
    go_wp2_with fail
    refine (isSeries_any _ zs _ h).mono ?_; rintro e w' ⟨rfl, rfl⟩; rw [HS.out]
    go_wp2_with fail
    refine (derived_any zs.length (ser zs) _ _ HA.out s1.2.1).mono ?_; rintro e w1 ⟨r, rfl, O, B⟩
    go_wp2
    go_ret2
    rw [HR.out]
    exact ⟨_, rfl, O, B⟩
  | false =>
    have HR : Hid (ser1R derTo zs = ([], 1)) := by simp [Hid, ser1R, hs]
    have HS := hid hs
    clear hs
    go_enter Try.func27, Try.ntmps27
    go_wp2_with fail
    refine (isSeries_any _ zs _ h).mono ?_; rintro e w' ⟨rfl, rfl⟩; rw [HS.out]
    go_wp2
    go_ret2
    rw [HR.out]
    exact ⟨_, rfl, OwnI.nil _ _, Below.refl _ _⟩
end Go.Proofs.Ytnjaalblgakgaaa
