/-
  slices.SortFunc and slices.SortStableFunc of at most twelve own lists.
-/
import Derived.Test.YthjdmkjncaemgaaSort
namespace Go.Proofs.Ythjdmkjncaemgaa
open Go.RowKit Go.Shelf Go.Sort
set_option maxRecDepth 100000
def SomeI (w : World) (e : Ending) (w' : World) : Prop := ∃ l : Int, e = .returned (.int .i64 l) ∧ w = w'
theorem bitsLen_any (z : Int) (h0 : 0 ≤ z) (h12 : z ≤ 12) (w : World) : Calls Try.prog 65 #[.int .u64 z] w (SomeI w) := by
  have : z = 0 ∨ z = 1 ∨ z = 2 ∨ z = 3 ∨ z = 4 ∨ z = 5 ∨ z = 6 ∨ z = 7 ∨ z = 8 ∨ z = 9 ∨ z = 10 ∨ z = 11 ∨ z = 12 := by omega
  rcases this with rfl | rfl | rfl | rfl | rfl | rfl | rfl | rfl | rfl | rfl | rfl | rfl | rfl
  all_goals
    clear h0 h12
    go_enter Try.func65, Try.ntmps65
    go_wp2
    go_ret
    exact ⟨_, rfl, rfl⟩
theorem insertionSort_zero (v c : Value) (w : World) : Calls Try.prog 68 #[v, .int .i64 0, .int .i64 0, c] w fun e w' => e = .returned (.tuple #[]) ∧ w = w' := by
  go_enter Try.func68, Try.ntmps68
  go_wp2
  refine wp_loop_rounds 1 ?_
  rw [rounds_succ]
  go_wp2
  go_end0
  exact ⟨rfl, rfl⟩
/-- What a sort leaves. -/
def Sorted2 (base : Nat) (w : World) (v : Value) (zss : List (List Int)) (e : Ending) (w' : World) : Prop :=
  e = .returned (.tuple #[]) ∧ ∃ us', Own2 base w' v us' zss ∧ w.grownBy w' v.ownBlock
section
variable (gf : Nat) (cf : List Int → List Int → Int) (R : List Int → List Int → Bool) (hR : ∀ x y, decide (cf x y < 0) = R x y)
  (ha : ∀ x y, R x y = true → R y x = false) (hn : ∀ x y z, R x y = false → R y z = false → R x z = false) (ht : ∀ x y, R x y = false → R y x = false → x = y)
  (eg : ∀ args w, (callFunc gf args).run Try.prog w = .ok (.enter gf args) w)
  (hc : ∀ v u xs ys W, RdI W v xs → RdI W u ys → Calls Try.prog gf #[v, u] W fun e w' => e = .returned (.int .i64 (cf xs ys)) ∧ W = w')
include hR ha hn ht eg hc
theorem insertionSort_any (base : Nat) (v : Value) (us : List Value) (zss : List (List Int)) (w : World) (h : Own2 base w v us zss) :
    Calls Try.prog 68 #[v, .int .i64 0, .int .i64 (zss.length : Nat), .func (.func gf) #[] #[]] w (Sorted2 base w v (sortR R zss)) := by
  obtain ⟨ao, cap, rfl⟩ := h.form
  by_cases h0 : 0 < zss.length
  · obtain ⟨g, rfl⟩ := h.addr h0
    exact insertionSort_own gf cf R hR ha hn ht eg hc base g cap us zss w h
  · have hz : zss = [] := List.eq_nil_of_length_eq_zero (by omega)
    subst hz
    refine (insertionSort_zero _ _ _).mono ?_
    rintro e w' ⟨rfl, rfl⟩
    exact ⟨rfl, us, h, World.grownBy.refl _ _⟩
theorem pdqsort_any (base : Nat) (v : Value) (us : List Value) (zss : List (List Int)) (w : World) (h : Own2 base w v us zss) (h12 : zss.length ≤ 12) (l : Int) :
    Calls Try.prog 64 #[v, .int .i64 0, .int .i64 (zss.length : Nat), .int .i64 l, .func (.func gf) #[] #[]] w (Sorted2 base w v (sortR R zss)) := by
  have hcon := insertionSort_any gf cf R hR ha hn ht eg hc base v us zss w h
  have hcon := hid hcon
  have h12' : (zss.length : Int) ≤ 12 := by omega
  clear hR ha hn ht eg hc h
  go_enter Try.func64, Try.ntmps64
  go_wp2
  refine wp_loop_rounds 1 ?_
  rw [rounds_succ]
  go_wp2_with (go_at_call 68; refine hcon.out.mono ?_; rintro e w' ⟨rfl, us', O', G'⟩)
  go_end0
  exact ⟨rfl, us', O', G'⟩
theorem sortFunc_any (base : Nat) (v : Value) (us : List Value) (zss : List (List Int)) (w : World) (h : Own2 base w v us zss) (h12 : zss.length ≤ 12) :
    Calls Try.prog 56 #[v, .func (.func gf) #[] #[]] w (Sorted2 base w v (sortR R zss)) := by
  have hcon := fun l => pdqsort_any gf cf R hR ha hn ht eg hc base v us zss w h h12 l
  obtain ⟨ao, cap, rfl⟩ := h.form
  have hcon := hid hcon
  have h12' : (zss.length : Int) ≤ 12 := by omega
  clear hR ha hn ht eg hc h
  go_enter Try.func56, Try.ntmps56
  go_wp2_with (first | (go_at_call 65; refine (bitsLen_any _ (by omega) (by omega) _).mono ?_; rintro e w' ⟨l, rfl, rfl⟩) | (go_at_call 64; refine (hcon.out _).mono ?_; rintro e w' ⟨rfl, us', O', G'⟩))
  go_end0
  exact ⟨rfl, us', O', G'⟩
end
end Go.Proofs.Ythjdmkjncaemgaa
