/-
  The walks of the laws' own helpers on lists of integers: a copy, a comparison, marks.
-/
import Derived.Test.YtmhcpaffdchboaaRows
import Derived.Test.YtmhcpaffdchboaaPlain
import Derived.Test.YtmhcpaffdchboaaMem
namespace Go.Proofs.Ytmhcpaffdchboaa
open Go.RowKit
theorem info_i64 : (Try.prog.info? 2).map (fun i => (i.zero, i.size, i.bytes)) = some (some (.int .i64 0), 1, 8) := by kernel_rfl
/-- The first k elements of a list, then zeros. -/
def upTo (zs : List Int) (k : Nat) : List Int := zs.take k ++ List.replicate (zs.length - k) 0
theorem upTo_length (zs : List Int) (k : Nat) (hk : k ≤ zs.length) : (upTo zs k).length = zs.length := by simp [upTo]; omega
theorem upTo_zero (zs : List Int) : upTo zs 0 = List.replicate zs.length 0 := by simp [upTo]
theorem upTo_all (zs : List Int) : upTo zs zs.length = zs := by simp [upTo]
theorem upTo_get (zs : List Int) (k j : Nat) (hk : k ≤ zs.length) : (upTo zs k)[j]? = if j < zs.length then some (if j < k then el zs j else 0) else none := by
  unfold upTo
  by_cases h1 : j < k
  · rw [List.getElem?_append_left (by simp; omega), List.getElem?_take, if_pos h1, if_pos (by omega), if_pos h1, ← el_at zs j (by omega)]
    exact List.getElem?_eq_getElem (by omega)
  · rw [List.getElem?_append_right (by simp; omega), List.getElem?_replicate, List.length_take, if_neg h1]
    by_cases h2 : j < zs.length
    · rw [if_pos (by omega), if_pos h2]
    · rw [if_neg (by omega), if_neg h2]
theorem upTo_succ (zs : List Int) (k : Nat) (hk : k < zs.length) : (upTo zs k).set k (el zs k) = upTo zs (k + 1) := by
  apply List.ext_getElem?
  intro j
  rw [List.getElem?_set, upTo_get zs k j (by omega), upTo_get zs (k + 1) j (by omega), upTo_length zs k (by omega)]
  by_cases h1 : k = j
  · subst h1; simp [hk]
  · rw [if_neg h1]
    by_cases h2 : j < k
    · simp [h2, show j < k + 1 by omega]
    · simp [h2, show ¬ j < k + 1 by omega]
theorem toInt64S_any (v : Value) (zs : List Int) (w : World) (h : RdI w v zs) :
    Calls Try.prog 21 #[v] w fun e w' => ∃ u, e = .returned u ∧ OwnI w.heap.size w' u zs ∧ Below w.heap.size w w' := by
  obtain ⟨i0, hi, hz0, hz1, hz2⟩ := info_parts info_i64
  have H := hid h
  obtain ⟨ao, cap, rfl, hcap, hmax, -⟩ := h
  go_enter Try.func21, Try.ntmps21
  go_wp2_with (at_make; refine wpList_make_full _ rfl _ _ _ rfl w.heap.size 2 i0 _ 1 Try.underlying32 hi hz0 hz1 _ _ _ _ zs.length rfl rfl rfl rfl ?c1 ?c2 ?c3 ?_)
  case c1 => rw [hz2]; omega
  case c2 => unfold maxLen; omega
  case c3 => exact Nat.le_refl _
  intro w1 hown hgrow
  have hg := hgrow.size
  have O1 : OwnI w.heap.size w1 (.slice (some ⟨w.heap.size, 0, none⟩) zs.length zs.length) (upTo zs 0) :=
    OwnI.mk hown (by rw [toList_madeCells_one, upTo_zero]; simp) (by rw [upTo_length _ _ (Nat.zero_le _)]; exact hmax)
  have B1 : Below w.heap.size w w1 := (Below.refl _ _).grown hgrow (Nat.le_refl _) (by simp)
  clear hown hgrow hz2 hz1 hz0 hi
  go_wp2
  go_loopw [4] (fun i wr => ∃ k : Nat, k ≤ zs.length ∧ i = .int .i64 k ∧ OwnI w.heap.size wr (.slice (some ⟨w.heap.size, 0, none⟩) zs.length zs.length) (upTo zs k) ∧ Below w.heap.size w wr) (fun i _ => zs.length - (intOf i).toNat)
  case atStart => exact ⟨0, Nat.zero_le _, rfl, O1, B1⟩
  case round =>
    obtain ⟨k, hk, rfl, O, Bl⟩ := hrel
    by_cases hlt : k < zs.length
    · obtain ⟨_, _, e1, -, -, hc⟩ := H.out.mono Bl
      obtain ⟨b, off, rfl, hcell⟩ := hc k hlt
      cases e1
      clear hc
      obtain ⟨O2, G2⟩ := O.set k (el zs k)
      have hgl := O.glt.2
      have hfk := O.free k
      have hck := O.cell k (by rw [upTo_length _ _ hk]; exact hlt)
      have HO := hid O2
      have HG := hid G2
      have HB := hid Bl
      clear O O2 G2 Bl
      go_wp2
      go_roundw
      case rel => exact ⟨k + 1, by omega, by go_num, by have := HO.out; rwa [upTo_succ zs k hlt] at this, HB.out.grown HG.out (by omega) (by simp)⟩
      case measure => simp [intOf]; omega
    · go_wp2
      go_ret
      obtain rfl : k = zs.length := by omega
      rw [upTo_all] at O
      exact ⟨_, rfl, O, Bl⟩
theorem eqInt64S_any (v u : Value) (xs ys : List Int) (w : World) (h : RdI w v xs) (h' : RdI w u ys) :
    Calls Try.prog 23 #[v, u] w fun e w' => e = .returned (.bool (sameL xs ys)) ∧ Dr w w' := by
  have H := hid h
  have H' := hid h'
  obtain ⟨ao, cap, rfl, hcap, hmax, -⟩ := h
  obtain ⟨ao', cap', rfl, hcap', hmax', -⟩ := h'
  by_cases hl : xs.length = ys.length
  · have hl1 : xs.length ≤ ys.length := by omega
    have HL := hid hl
    have hb : (((xs.length : Int)) != ((ys.length : Int))) = false := by simp [hl]
    clear hl
    go_enter Try.func23, Try.ntmps23
    go_wp2
    go_loopw [5] (fun i wr => ∃ k : Nat, k ≤ xs.length ∧ i = .int .i64 k ∧ (∀ j, j < k → el xs j = el ys j) ∧ Dr w wr) (fun i _ => xs.length - (intOf i).toNat)
    case atStart => exact ⟨0, Nat.zero_le _, rfl, fun j hj => by omega, Dr.refl _⟩
    case round =>
      obtain ⟨k, hk, rfl, hsame, hdr⟩ := hrel
      have HS := hid hsame
      clear hsame
      by_cases hlt : k < xs.length
      · obtain ⟨_, _, e1, -, -, hc⟩ := H.out.dr hdr
        obtain ⟨b, off, rfl, hcell⟩ := hc k hlt
        obtain ⟨_, _, e2, -, -, hc'⟩ := H'.out.dr hdr
        obtain ⟨b', off', rfl, hcell'⟩ := hc' k (by omega)
        cases e1; cases e2
        clear hc hc'
        have hlt' : k < ys.length := by omega
        have HD := hid hdr
        clear hdr
        by_cases he : el xs k = el ys k
        · have HE := hid he
          have hb2 : (el xs k != el ys k) = false := by simp [he]
          clear he
          go_wp2_with fail
          go_quiet (fail)
          go_wp2
          go_roundw
          case rel =>
            refine ⟨k + 1, by omega, by go_num, fun j hj => ?_, HD.out.drewN _⟩
            by_cases hjk : j = k
            · rw [hjk]; exact HE.out
            · exact HS.out j (by omega)
          case measure => simp [intOf]; omega
        · have HE := hid he
          have hb2 : (el xs k != el ys k) = true := by simp [he]
          clear he
          go_wp2_with fail
          go_quiet (fail)
          go_wp2
          go_ret
          exact ⟨ret_bool (by rw [sameL_at k HE.out]), HD.out.drewN _⟩
      · go_wp2
        go_ret
        exact ⟨ret_bool (by rw [sameL_true HL.out (fun j hj => HS.out j (by omega))]), hdr⟩
  · have hb : (((xs.length : Int)) != ((ys.length : Int))) = true := by simp; omega
    have HL := hid hl
    clear hl
    go_enter Try.func23, Try.ntmps23
    go_wp2
    go_ret
    exact ⟨ret_bool (by rw [sameL_len HL.out]), Dr.refl _⟩
/-- The numbers k, k + 1 .., n of them. -/
def upFrom (k : Int) (n : Nat) : List Int := (List.range n).map fun i : Nat => k + (i : Int)
theorem upFrom_length (k : Int) (n : Nat) : (upFrom k n).length = n := by simp [upFrom]
theorem upFrom_el (k : Int) (n j : Nat) (h : j < n) : el (upFrom k n) j = k + j := by simp [upFrom, el, h]
/-- The first j elements of a list marked. -/
def marked (zs : List Int) (k : Int) (j : Nat) : List Int := upFrom k j ++ zs.drop j
theorem marked_zero (zs : List Int) (k : Int) : marked zs k 0 = zs := by simp [marked, upFrom]
theorem marked_all (zs : List Int) (k : Int) : marked zs k zs.length = upFrom k zs.length := by simp [marked]
theorem marked_length (zs : List Int) (k : Int) (j : Nat) (h : j ≤ zs.length) : (marked zs k j).length = zs.length := by simp [marked, upFrom_length]; omega
theorem marked_succ (zs : List Int) (k : Int) (j : Nat) (h : j < zs.length) : (marked zs k j).set j (k + j) = marked zs k (j + 1) := by
  unfold marked
  rw [List.set_append_right _ _ (by rw [upFrom_length]; omega), upFrom_length, Nat.sub_self, List.drop_eq_getElem_cons h, List.set_cons_zero]
  simp [upFrom, List.range_succ]
theorem markI_any (base : Nat) (v : Value) (zs : List Int) (k : Int) (w : World) (O : OwnI base w v zs) (hk : 0 ≤ k) (hk' : k ≤ 1000000000) :
    Calls Try.prog 24 #[v, .int .i64 k] w fun e w' => e = .returned (.int .i64 (k + zs.length)) ∧ OwnI base w' v (upFrom k zs.length) ∧ w.grownBy w' v.ownBlock := by
  have hlen := O.2
  obtain ⟨ao, cap, rfl⟩ := O.form
  obtain ⟨ob, hob⟩ : ∃ ob, ob = (Value.slice ao zs.length cap).ownBlock := ⟨_, rfl⟩
  rw [← hob]
  have HB := hid hob
  clear hob
  go_enter Try.func24, Try.ntmps24
  go_wp2
  go_loopw [1, 5] (fun q i wr => ∃ j : Nat, j ≤ zs.length ∧ i = .int .i64 j ∧ q = .int .i64 (k + j) ∧ OwnI base wr (.slice ao zs.length cap) (marked zs k j) ∧ w.grownBy wr ob) (fun _ i _ => zs.length - (intOf i).toNat)
  case atStart => exact ⟨0, Nat.zero_le _, rfl, by simp, by rw [marked_zero]; exact O, World.grownBy.refl _ _⟩
  case round =>
    obtain ⟨j, hj, rfl, rfl, Oj, Gj⟩ := hrel
    by_cases hlt : j < zs.length
    · obtain ⟨g, rfl⟩ := Oj.addr (by rw [marked_length _ _ _ hj]; omega)
      have hgl := Oj.glt.2
      have hfk := Oj.free j
      have hck := Oj.cell j (by rw [marked_length _ _ _ hj]; exact hlt)
      obtain ⟨x, hx⟩ : ∃ x, x = Value.int .i64 (el (marked zs k j) j) := ⟨_, rfl⟩
      rw [← hx] at hck
      obtain ⟨O2, G2⟩ := Oj.set j (k + j)
      rw [marked_succ zs k j hlt] at O2
      have G3 : w.grownBy (wr.setCell ⟨g, j, none⟩ (.int .i64 (k + j))) ob := by
        rw [HB.out]
        refine ⟨G2.os.trans Gj.os, G2.tape.trans Gj.tape, G2.output.trans Gj.output, Nat.le_trans Gj.size G2.size, fun i hi hne => ?_⟩
        rw [HB.out] at Gj
        exact (G2.block i (Nat.lt_of_lt_of_le hi Gj.size) hne).trans (Gj.block i hi hne)
      clear hx Oj Gj G2 O
      go_wp2
      go_roundw
      case rel => exact ⟨j + 1, by omega, by go_num, by go_num, O2, G3⟩
      case measure => simp [intOf]; omega
    · go_wp2
      go_ret
      obtain rfl : j = zs.length := by omega
      rw [marked_all] at Oj
      exact ⟨rfl, Oj, Gj⟩
theorem heldI_any (v : Value) (n : Nat) (k : Int) (w : World) (h : RdI w v (upFrom k n)) (hk : 0 ≤ k) (hk' : k ≤ 1000000000) :
    Calls Try.prog 25 #[v, .int .i64 k] w fun e w' => e = .returned (.int .i64 (k + n)) ∧ w = w' := by
  have H := hid h
  obtain ⟨ao, cap, rfl, hcap, hmax, -⟩ := h
  rw [upFrom_length] at hcap hmax ⊢
  go_enter Try.func25, Try.ntmps25
  go_wp2
  go_loop [1, 5] (fun q i => ∃ j : Nat, j ≤ n ∧ i = .int .i64 j ∧ q = .int .i64 (k + j)) (fun _ i => n - (intOf i).toNat)
  case atStart => exact ⟨0, Nat.zero_le _, rfl, by simp⟩
  case round =>
    obtain ⟨j, hj, rfl, rfl⟩ := hrel
    by_cases hlt : j < n
    · obtain ⟨b, off, rfl, hcell⟩ := H.out.at_ (k := j) (by rw [upFrom_length]; exact hlt)
      rw [upFrom_el _ _ _ hlt] at hcell
      go_wp2
      go_round
      case rel => exact ⟨j + 1, by omega, by go_num, by go_num⟩
      case measure => simp [intOf]; omega
    · go_wp2
      go_ret
      obtain rfl : j = n := by omega
      exact ⟨rfl, rfl⟩
end Go.Proofs.Ytmhcpaffdchboaa
