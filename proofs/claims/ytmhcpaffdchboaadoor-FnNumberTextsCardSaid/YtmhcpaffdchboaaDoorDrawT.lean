/-
  The draws of numbers for texts and of fractions.
-/
import Derived.Test.YtmhcpaffdchboaaDoorDrawL
namespace Go.Proofs.YtmhcpaffdchboaaDoor
open Go.RowKit
set_option maxRecDepth 100000
set_option linter.unusedVariables false
theorem drawNumberText_any (cv : Value) (m : Nat) (w : World) (h : RdB w.heap.size w cv m) :
    Calls Tryd.prog 11 #[cv] w fun e w' => ∃ a : Int, e = .returned (.int .i64 a) ∧ Below w.heap.size w w' := by
  go_enter Tryd.func11, Tryd.ntmps11
  go_wp2_with fail
  refine (l01From_any cv m _ h).mono ?_
  rintro e w1 ⟨rfl, S1, B1⟩
  go_wp2_with fail
  refine (l01Next_any _ cv 3 _ S1 (by omega)).mono ?_
  rintro e w2 ⟨x, rfl, -, S2, G2⟩
  have T2 := below_of_grow B1 G2 (Nat.le_refl _) B1.size
  by_cases c0 : x = 0
  · go_wp2_with fail
    refine (l01Next_any _ cv 160 _ S2 (by omega)).mono ?_
    rintro e w3 ⟨y, rfl, ⟨hy0, hy1, -⟩, S3, G3⟩
    have T3 := below_of_grow T2 G3 (Nat.le_refl _) T2.size
    have hy2 := hy1 (by omega)
    clear hy1
    go_wp2_with fail
    refine (l01Next_any _ cv 80 _ S3 (by omega)).mono ?_
    rintro e w4 ⟨z, rfl, ⟨hz0, hz1, -⟩, S4, G4⟩
    have T4 := below_of_grow T3 G4 (Nat.le_refl _) T3.size
    have hz2 := hz1 (by omega)
    clear hz1
    go_wp2_with fail
    refine (l01Frac_any _ _ _).mono ?_
    rintro e w5 ⟨rfl, rfl⟩
    go_wp2
    go_ret
    exact ⟨_, rfl, T4⟩
  · go_wp2_with fail
    refine (l01Spoil_any _ cv _ S2).mono ?_
    rintro e w3 ⟨a, rfl, S3, G3⟩
    have T3 := below_of_grow T2 G3 (Nat.le_refl _) T2.size
    go_wp2
    go_ret
    exact ⟨_, rfl, T3⟩
theorem drawNumberOf_any (cv : Value) (m : Nat) (w : World) (h : RdB w.heap.size w cv m) :
    Calls Tryd.prog 12 #[cv] w fun e w' => ∃ a b : Int, e = .returned (.tuple #[.int .i64 a, .int .i64 b]) ∧ Below w.heap.size w w' := by
  go_enter Tryd.func12, Tryd.ntmps12
  go_wp2_with fail
  refine (l01From_any cv m _ h).mono ?_
  rintro e w1 ⟨rfl, S1, B1⟩
  go_wp2_with fail
  refine (l01Next_any _ cv 2000001 _ S1 (by omega)).mono ?_
  rintro e w2 ⟨x, rfl, ⟨hx0, hx1, -⟩, S2, G2⟩
  have T2 := below_of_grow B1 G2 (Nat.le_refl _) B1.size
  have hx2 := hx1 (by omega)
  clear hx1
  go_wp2_with fail
  refine (l01Next_any _ cv 20 _ S2 (by omega)).mono ?_
  rintro e w3 ⟨y, rfl, ⟨hy0, hy1, -⟩, S3, G3⟩
  have T3 := below_of_grow T2 G3 (Nat.le_refl _) T2.size
  have hy2 := hy1 (by omega)
  clear hy1
  have hb3 := S3.lt
  go_wp2_with fail
  refine (l01Pick_any _ cv _ [x - 1000000, y - 10, 1000000000, -1000000001] _ (S3.alloc _) (RdI_lits [x - 1000000, y - 10, 1000000000, -1000000001] w3 2 (by simp)) (.inr (by simp [Value.ownBlock]; omega)) (by simp) (by simp)).mono ?_
  rintro e w4 ⟨p, rfl, hp, S4, G4⟩
  have T4 := below_of_grow (T3.alloc T3.size _) G4 (Nat.le_refl _) (T3.alloc T3.size _).size
  go_wp2_with fail
  refine (l01Next_any _ cv 20 _ S4 (by omega)).mono ?_
  rintro e w5 ⟨a, rfl, ⟨ha0, ha1, -⟩, S5, G5⟩
  have T5 := below_of_grow T4 G5 (Nat.le_refl _) T4.size
  have ha2 := ha1 (by omega)
  clear ha1
  go_wp2_with fail
  refine (l01Next_any _ cv 12 _ S5 (by omega)).mono ?_
  rintro e w6 ⟨b, rfl, ⟨hb0, hb1, -⟩, S6, G6⟩
  have T6 := below_of_grow T5 G6 (Nat.le_refl _) T5.size
  have hb2 := hb1 (by omega)
  clear hb1
  go_wp2_with fail
  refine (l01Next_any _ cv 12 _ S6 (by omega)).mono ?_
  rintro e w7 ⟨c, rfl, ⟨hc0, hc1, -⟩, S7, G7⟩
  have T7 := below_of_grow T6 G7 (Nat.le_refl _) T6.size
  have hc2 := hc1 (by omega)
  clear hc1
  have hb7 := S7.lt
  go_wp2_with fail
  refine (l01Pick_any _ cv _ [a - 10, 1 + b, -1 - c, 10007, -20014, 1000000000, 1000000001] _ (S7.alloc _) (RdI_lits [a - 10, 1 + b, -1 - c, 10007, -20014, 1000000000, 1000000001] w7 2 (by simp)) (.inr (by simp [Value.ownBlock]; omega)) (by simp) (by simp)).mono ?_
  rintro e w8 ⟨q, rfl, hq, S8, G8⟩
  have T8 := below_of_grow (T7.alloc T7.size _) G8 (Nat.le_refl _) (T7.alloc T7.size _).size
  go_wp2
  go_ret2
  exact ⟨p, q, rfl, T8⟩
end Go.Proofs.YtmhcpaffdchboaaDoor
