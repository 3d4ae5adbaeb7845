/-
  A slice of slices of integers that came in; its size as the laws reckon it; a copy of it.
-/
import Derived.Test.YtmhcpaffdchboaaRng
import Derived.Deep.Matrix
namespace Go.Proofs.Ytmhcpaffdchboaa
open Go.RowKit
set_option maxRecDepth 100000
def InII (w : World) (v : Value) : Prop :=
  ∃ (ao : Option Addr) (n cap : Nat) (A : Nat → Option Addr) (L C : Nat → Nat) (Z : Nat → List Int), v = .slice ao n cap ∧ n ≤ cap ∧ n ≤ maxLen ∧
    ∀ r, r < n → (∃ b off, ao = some ⟨b, off, none⟩ ∧ w.cell? ⟨b, off + r, none⟩ = some (.slice (A r) (L r) (C r))) ∧ L r ≤ maxLen ∧
      (L r ≤ 1048576 → RdI w (.slice (A r) (L r) (C r)) ((Z r).take (L r)) ∧ ((Z r).take (L r)).length = L r)
theorem InII.open_ {H : Type} {enc : TypeId × Value → H} {P : Program} {W : World} {base : Nat} {t e q : TypeId} {v : Value} {d : DataW H} {p : List MemPlace}
    (ht : P.underlying t = some (.slice e)) (he : P.underlying e = some (.slice q)) (hq : P.underlying q = some (.int .i64)) (ce : P.cellsOf e = 1) (cq : P.cellsOf q = 1) (hv : Value.okWide P W .any base t v)
    (h : DataW.Trod enc P W 0 (fun _ => true) true t v d p) : InII W v := by
  obtain ⟨a0, len0, cap0, rfl⟩ := Go.WideShapes.okWide_slice ht hv
  obtain ⟨fuel, hf⟩ := h
  rcases Go.Deep.open_int_rows ht he hq ce cq hf with ⟨hcs, _⟩ | ⟨a, len, cap, A, L, C, Z, hcs, _, hl, hm, _, hr⟩
  · simp [Value.cells] at hcs
    obtain ⟨rfl, rfl, rfl⟩ := hcs
    exact ⟨none, 0, 0, fun _ => none, fun _ => 0, fun _ => 0, fun _ => [], rfl, by simp, by simp [maxLen], fun r hr => by omega⟩
  · simp [Value.cells] at hcs
    obtain ⟨rfl, rfl, rfl⟩ := hcs
    refine ⟨_, len0, cap0, A, L, C, Z, rfl, hl, by omega, fun r hr' => ?_⟩
    obtain ⟨h1, h2, h3, h4, h5, h6, h7⟩ := hr r (by omega)
    obtain ⟨b, off, spot⟩ := a
    have hspot : spot = none := by
      have h0 := (hr 0 (by omega)).1
      simpa [Addr.add] using World.cell?_spot h0
    subst hspot
    rw [Addr.add_lit] at h1
    refine ⟨⟨b, off, rfl, h1⟩, by omega, fun hs => ?_⟩
    have hlen : ((Z r).take (L r)).length = L r := by simp; omega
    refine ⟨⟨A r, C r, by rw [hlen], by omega, by omega, fun j hj => ?_⟩, hlen⟩
    rw [hlen] at hj
    cases hA : A r with
    | none => have := h6 hA; omega
    | some x =>
      obtain ⟨b', off', spot'⟩ := x
      obtain ⟨_, hc⟩ := h7 _ hA
      have hsp : spot' = none := by
        have h0 := hc 0 (by omega)
        simpa [Addr.add] using World.cell?_spot h0
      subst hsp
      refine ⟨b', off', rfl, ?_⟩
      have hj2 := hc j (by omega)
      rw [Addr.add_lit] at hj2
      rw [hj2]
      simp [el, hj]
/-- The rows of a slice that came in. -/
def rowsIn (n : Nat) (L : Nat → Nat) (Z : Nat → List Int) : List (List Int) := (List.range n).map fun r => (Z r).take (L r)
theorem rowsIn_at (n : Nat) (L : Nat → Nat) (Z : Nat → List Int) (r : Nat) (h : r < n) : rowAt (rowsIn n L Z) r = (Z r).take (L r) := by simp [rowsIn, rowAt, h]
/-- The sum of the first lengths. -/
def sumL' (L : Nat → Nat) : Nat → Nat
  | 0 => 0
  | k + 1 => sumL' L k + L k
theorem sumL'_le (L : Nat → Nat) (k r : Nat) (h : r < k) : L r ≤ sumL' L k := by
  induction k with
  | zero => omega
  | succ k ih =>
    simp only [sumL']
    by_cases hr : r < k
    · have := ih hr; omega
    · obtain rfl : r = k := by omega
      omega
theorem tot_rowsIn (n : Nat) (L : Nat → Nat) (Z : Nat → List Int) (h : ∀ r, r < n → ((Z r).take (L r)).length = L r) : tot (rowsIn n L Z) = sumL' L n := by
  induction n with
  | zero => rfl
  | succ n ih =>
    have e : rowsIn (n + 1) L Z = rowsIn n L Z ++ [(Z n).take (L n)] := by simp [rowsIn, List.range_succ]
    rw [e, tot_append, ih (fun r hr => h r (by omega)), sumL']
    simp only [tot, List.map_cons, List.map_nil, List.sum_cons, List.sum_nil]
    rw [h n (by omega)]; omega
/-- What szInt64SS leaves: less than 0, or the slice of slices reads as rows that are not too many. -/
def SzR (w : World) (v : Value) (e : Ending) (w' : World) : Prop :=
  Below w.heap.size w w' ∧ ∃ l : Int, e = .returned (.int .i64 l) ∧ (l < 0 ∨ 0 ≤ l ∧ ∃ zss, RdII w v zss ∧ tot zss ≤ 1048576)
theorem szI_any (ao : Option Addr) (n cap : Nat) (l : Int) (w : World) (hn : n ≤ maxLen) (hl : 0 ≤ l) (hl' : l ≤ 1048576) :
    Calls Try.prog 35 #[.slice ao n cap, .int .i64 l] w fun e w' => e = .returned (.int .i64 (if l - (n : Int) < 0 then -1 else l - (n : Int))) ∧ w = w' := by
  unfold maxLen at hn
  by_cases h : l - (n : Int) < 0
  · have h2 : l < (n : Int) := by omega
    rw [if_pos h]
    clear h
    go_enter Try.func35, Try.ntmps35
    go_wp2
    go_ret
    exact ⟨rfl, rfl⟩
  · have h2 : (n : Int) ≤ l := by omega
    rw [if_neg h]
    clear h
    go_enter Try.func35, Try.ntmps35
    go_wp2
    go_ret
    exact ⟨rfl, rfl⟩
theorem szII_any (v : Value) (w : World) (h : InII w v) : Calls Try.prog 9 #[v, .int .i64 1048576] w (SzR w v) := by
  obtain ⟨ao, n, cap, A, L, C, Z, rfl, hnc, hn, hr⟩ := h
  unfold maxLen at hn
  by_cases h0 : n ≤ 1048576
  · have HR := hid hr
    have h1 : (n : Int) ≤ 1048576 := by omega
    clear hr
    go_enter Try.func9, Try.ntmps9
    go_wp2
    go_loopw [1, 5] (fun l i wr => ∃ k : Nat, k ≤ n ∧ i = .int .i64 k ∧ n + sumL' L k ≤ 1048576 ∧ l = .int .i64 (1048576 - (n : Int) - (sumL' L k : Nat)) ∧ wr = w) (fun _ i _ => n - (intOf i).toNat)
    case atStart => exact ⟨0, Nat.zero_le _, rfl, by simp [sumL']; omega, by simp [sumL'], rfl⟩
    case round =>
      obtain ⟨k, hk, rfl, hs, rfl, rfl⟩ := hrel
      by_cases hlt : k < n
      · obtain ⟨⟨b, off, rfl, hcell⟩, hL, -⟩ := HR.out k hlt
        have hLm := hid hL
        have hsum : Hid (sumL' L (k + 1) = sumL' L k + L k) := rfl
        by_cases hge : n + sumL' L k + L k ≤ 1048576
        · have hif : Hid ((if 1048576 - (n : Int) - (sumL' L k : Nat) - (L k : Int) < 0 then (-1 : Int) else 1048576 - (n : Int) - (sumL' L k : Nat) - (L k : Int)) = 1048576 - (n : Int) - (sumL' L k : Nat) - (L k : Int)) := by
            simp only [Hid]; rw [if_neg (by omega)]
          have hnn : ¬ (1048576 - (n : Int) - (sumL' L k : Nat) - (L k : Int) < 0) := by omega
          go_wp2_with (go_at_call 35; refine (szI_any (A k) (L k) (C k) _ _ hLm.out (by omega) (by omega)).mono ?_; rintro e w2 ⟨rfl, rfl⟩; rw [hif.out])
          go_roundw
          case rel => exact ⟨k + 1, by omega, by go_num, by rw [hsum.out]; omega, by rw [hsum.out]; congr 1; omega, trivial⟩
          case measure => simp [intOf]; omega
        · have hif : Hid ((if 1048576 - (n : Int) - (sumL' L k : Nat) - (L k : Int) < 0 then (-1 : Int) else 1048576 - (n : Int) - (sumL' L k : Nat) - (L k : Int)) = -1) := by
            simp only [Hid]; rw [if_pos (by omega)]
          go_wp2_with (go_at_call 35; refine (szI_any (A k) (L k) (C k) _ _ hLm.out (by omega) (by omega)).mono ?_; rintro e w2 ⟨rfl, rfl⟩; rw [hif.out])
          go_ret
          exact ⟨Below.refl _ _, -1, rfl, .inl (by omega)⟩
      · obtain rfl : k = n := by omega
        go_wp2
        go_ret
        have hLs : ∀ r, r < k → L r ≤ 1048576 := fun r hr => by have := sumL'_le L k r hr; omega
        have hlen : ∀ r, r < k → ((Z r).take (L r)).length = L r := fun r hr => ((HR.out r hr).2.2 (hLs r hr)).2
        have ht := tot_rowsIn k L Z hlen
        refine ⟨Below.refl _ _, _, rfl, .inr ⟨by omega, rowsIn k L Z, ⟨ao, cap, fun j => .slice (A j) (L j) (C j), by simp [rowsIn], by simpa [rowsIn] using hnc, by simpa [rowsIn] using h0, fun j hj => ?_⟩, by rw [ht]; omega⟩⟩
        have hj' : j < k := by simpa [rowsIn] using hj
        obtain ⟨a1, a2, a3⟩ := HR.out j hj'
        exact ⟨a1, by rw [rowsIn_at k L Z j hj']; exact (a3 (hLs j hj')).1⟩
  · have h2 : (1048576 : Int) < (n : Int) := by omega
    clear hr h0
    go_enter Try.func9, Try.ntmps9
    go_wp2
    go_ret
    exact ⟨Below.refl _ _, -1, rfl, .inl (by omega)⟩
theorem info_ii' : (Try.prog.info? 32).map (fun i => (i.zero, i.size, i.bytes)) = some (some (.slice none 0 0), 1, 24) := by kernel_rfl
/-- The first k rows, then empty ones. -/
def upToLL (zss : List (List Int)) (k : Nat) : List (List Int) := zss.take k ++ List.replicate (zss.length - k) []
theorem upToLL_length (zss : List (List Int)) (k : Nat) (hk : k ≤ zss.length) : (upToLL zss k).length = zss.length := by simp [upToLL]; omega
theorem upToLL_zero (zss : List (List Int)) : upToLL zss 0 = List.replicate zss.length [] := by simp [upToLL]
theorem upToLL_all (zss : List (List Int)) : upToLL zss zss.length = zss := by simp [upToLL]
theorem upToLL_set (zss : List (List Int)) (k : Nat) (h : k < zss.length) : (upToLL zss k).set k (rowAt zss k) = upToLL zss (k + 1) := by
  unfold upToLL
  rw [List.set_append_right _ _ (by simp; omega), List.length_take, Nat.min_eq_left (by omega), Nat.sub_self, show zss.length - k = (zss.length - (k + 1)) + 1 by omega, List.replicate_succ, List.set_cons_zero,
    List.take_succ_eq_append_getElem h, rowAt_at zss k h]
  simp
theorem Own2.made {base : Nat} {w : World} {v : Value} {n : Nat} (h : w.ownsRow base 32 1 v n (List.replicate n (.slice none 0 0))) (hn : n ≤ 1048576) : Own2 base w v (List.replicate n (.slice none 0 0)) (List.replicate n []) := by
  have hv : ∀ j, vat (List.replicate n (Value.slice none 0 0)) j = .slice none 0 0 := fun j => by
    unfold vat; rw [List.getD_eq_getElem?_getD, List.getElem?_replicate]; split <;> rfl
  have hr : ∀ j, rowAt (List.replicate n ([] : List Int)) j = [] := fun j => by
    unfold rowAt; rw [List.getD_eq_getElem?_getD, List.getElem?_replicate]; split <;> rfl
  refine ⟨by simpa using h, by simp, by simpa using hn, fun j hj => ?_, fun j hj => ?_, fun i j hi hj hij => ?_⟩
  · rw [hv, hr]; exact OwnI.nil _ _
  · rw [hv]; exact parted_nil _
  · rw [hv]; exact parted_nil _
theorem toInt64SS_any (v : Value) (zss : List (List Int)) (w : World) (h : RdII w v zss) :
    Calls Try.prog 11 #[v] w fun e w' => ∃ u, e = .returned u ∧ OwnII w.heap.size w' u zss ∧ Below w.heap.size w w' := by
  obtain ⟨i0, hi, hz0, hz1, hz2⟩ := info_parts info_ii'
  have H := hid h
  obtain ⟨ao, cap, vs, rfl, hcap, hmax, -⟩ := h
  go_enter Try.func11, Try.ntmps11
  go_wp2_with (at_make; refine wpList_make_full _ rfl _ _ _ rfl w.heap.size 32 i0 _ 1 Try.underlying22 hi hz0 hz1 _ _ _ _ zss.length rfl rfl rfl rfl ?c1 ?c2 ?c3 ?_)
  case c1 => rw [hz2]; omega
  case c2 => unfold maxLen; omega
  case c3 => exact Nat.le_refl _
  intro w1 hown hgrow
  have O1 : Own2 w.heap.size w1 (.slice (some ⟨w.heap.size, 0, none⟩) zss.length zss.length) (List.replicate zss.length (.slice none 0 0)) (upToLL zss 0) := by
    rw [upToLL_zero]
    refine Own2.made ?_ hmax
    rw [toList_madeCells_one] at hown
    simpa using hown
  have B1 : Below w.heap.size w w1 := (Below.refl _ _).grown hgrow (Nat.le_refl _) (by simp)
  clear hown hgrow hz2 hz1 hz0 hi
  go_wp2
  go_loopw [4] (fun i wr => ∃ (k : Nat) (us : List Value), k ≤ zss.length ∧ i = .int .i64 k ∧ Own2 w.heap.size wr (.slice (some ⟨w.heap.size, 0, none⟩) zss.length zss.length) us (upToLL zss k) ∧ Below w.heap.size w wr) (fun i _ => zss.length - (intOf i).toNat)
  case atStart => exact ⟨0, _, Nat.zero_le _, rfl, O1, B1⟩
  case round =>
    obtain ⟨k, us, hk, rfl, O, Bl⟩ := hrel
    by_cases hlt : k < zss.length
    · obtain ⟨b, off, u, rfl, hcell, hu⟩ := (H.out.mono Bl).at_ hlt
      have HU := hid hu
      have hul := upToLL_length zss k (by omega)
      have hlt2 : k < (upToLL zss k).length := by omega
      have HO := hid O
      clear hu hul
      go_wp2_with fail
      refine (toInt64S_any _ (rowAt zss k) _ HU.out).mono ?_; rintro e w2 ⟨r2, rfl, O2, B2⟩
      obtain ⟨ao2, cap2, rfl⟩ := O2.form
      have h3 := HO.out.outer k hlt2 (grownBy_of_below B2 _)
      have c3 := h3.1
      have f3 := h3.2.1
      have g3 := h3.2.2
      clear h3
      obtain ⟨O4, -⟩ := HO.out.put k hlt2 (grownBy_of_below B2 _) (O2.lower Bl.size) (.inr fun b hb => (O2.own_lt b hb).1)
      rw [upToLL_set zss k hlt] at O4
      have B4 := (nx Bl B2).setCell (p := ⟨w.heap.size, k, none⟩) (Nat.le_refl _) (.slice ao2 (rowAt zss k).length cap2)
      go_wp2
      go_roundw
      case rel => exact ⟨k + 1, _, by omega, by go_num, O4, B4⟩
      case measure => simp [intOf]; omega
    · go_wp2
      go_ret
      obtain rfl : k = zss.length := by omega
      rw [upToLL_all] at O
      exact ⟨_, rfl, ⟨us, O⟩, Bl⟩
end Go.Proofs.Ytmhcpaffdchboaa
