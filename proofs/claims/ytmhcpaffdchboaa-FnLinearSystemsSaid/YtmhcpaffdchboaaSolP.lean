/-
  The choice of independent rows, without a program.
-/
import Derived.Test.YtmhcpaffdchboaaRank
namespace Go.Proofs.Ytmhcpaffdchboaa
theorem cntF_le_all {p q : Nat → Prop} (f k : Nat) (h : ∀ i, p i ↔ q i) : cntF p k f = cntF q k f := cntF_congr f k fun i _ _ => h i
theorem rkC_congr {m n : Nat} {A B : Mt} (h : ∀ r c, r < m → c < n → A r c = B r c) : rkC m n A = rkC m n B := by
  unfold rkC
  refine cntF_congr n 0 fun q _ _ => ?_
  have e : ∀ (y : Nat → F) r, r < m → sF (fun c => A r c * y c) n = sF (fun c => B r c * y c) n := fun y r hr => sF_congr n fun c hc => by rw [h r c hr hc]
  exact ⟨fun hp y hy ht => hp y (fun r hr => by rw [e y r hr]; exact hy r hr) ht, fun hp y hy ht => hp y (fun r hr => by rw [← e y r hr]; exact hy r hr) ht⟩
/-- What holds of the p rows R with the values val that were chosen of the first k rows of A. -/
structure Grd (n : Nat) (A : Mt) (sol : Nat → F) (p k : Nat) (R : Mt) (val : Nat → F) : Prop where
  rk : rkC p n R = p
  ker : ∀ y : Nat → F, (∀ r, r < p → sF (fun c => R r c * y c) n = 0) → ∀ r, r < k → sF (fun c => A r c * y c) n = 0
  sol : ∀ r, r < p → sF (fun c => R r c * sol c) n = val r
theorem Grd.start (n : Nat) (A : Mt) (sol : Nat → F) (R : Mt) (val : Nat → F) : Grd n A sol 0 0 R val :=
  ⟨by have := rkC_le 0 n R; omega, fun y _ r hr => by omega, fun r hr => by omega⟩
theorem Grd.take {n : Nat} {A : Mt} {s : Nat → F} {p k : Nat} {R : Mt} {val : Nat → F} (h : Grd n A s p k R val) (x : F) (hr : rkC (p + 1) n (setR R p (A k)) = p + 1) (hx : sF (fun c => A k c * s c) n = x) :
    Grd n A s (p + 1) (k + 1) (setR R p (A k)) (fun r => if r = p then x else val r) := by
  have e : ∀ (y : Nat → F) r, r < p → sF (fun c => setR R p (A k) r c * y c) n = sF (fun c => R r c * y c) n := fun y r hr => by rw [setR_other _ _ _ _ (by omega)]
  refine ⟨hr, fun y hy r hrk => ?_, fun r hrp => ?_⟩
  · by_cases hk : r = k
    · have := hy p (by omega)
      rw [setR_same] at this
      rw [hk]; exact this
    · exact h.ker y (fun r hr => by rw [← e y r hr]; exact hy r (by omega)) r (by omega)
  · by_cases hp : r = p
    · subst hp; rw [if_pos rfl, setR_same]; exact hx
    · rw [if_neg hp, e s r (by omega)]; exact h.sol r (by omega)
theorem Grd.skip {n : Nat} {A : Mt} {s : Nat → F} {p k : Nat} {R : Mt} {val : Nat → F} (h : Grd n A s p k R val) (hr : ¬ rkC (p + 1) n (setR R p (A k)) = p + 1) : Grd n A s p (k + 1) R val := by
  refine ⟨h.rk, fun y hy r hrk => ?_, h.sol⟩
  by_cases hk : r = k
  · have h1 := rkC_le (p + 1) n (setR R p (A k))
    have h2 : rkC p n (setR R p (A k)) = rkC p n R := rkC_congr fun r c hr _ => by rw [setR_other _ _ _ _ (by omega)]
    have h3 := rkC_row p n (setR R p (A k)) (by rw [h2, h.rk]; omega) y (fun r hr => by rw [setR_other _ _ _ _ (by omega)]; exact hy r hr)
    rw [setR_same] at h3
    rw [hk]; exact h3
  · exact h.ker y hy r (by omega)
theorem Grd.done {m n : Nat} {A : Mt} {s : Nat → F} {p : Nat} {R : Mt} {val : Nat → F} (h : Grd n A s p m R val) (hk : Ker0 m n A) : p = n ∧ det n R ≠ 0 ∧ ∀ j, j < n → det n (setC R j val) * fi (det n R) = s j := by
  have h1 : Ker0 p n R := fun y hy => hk y (h.ker y hy)
  have h2 := (rkC_full p n R).2 h1
  have hp : p = n := by have := h.rk; omega
  subst hp
  have hd := (det_ker p R).2 h1
  exact ⟨rfl, hd, fun j hj => sol_cramer hd h.sol j hj⟩
/-- The two ranks tell whether there is exactly one solution. -/
theorem ranks_okS {m n : Nat} {A : Mt} {b : Nat → F} (hn : 1 ≤ n) : (rkC m n A = n ∧ rkC m (n + 1) (wideM n A b) = n) ↔ okS m n A b := by
  constructor
  · rintro ⟨h1, h2⟩
    have hk := (rkC_full m n A).1 h1
    obtain ⟨x, hx⟩ := (rkC_wide m n A b hk).1 h2
    exact ker_okS hn hk hx
  · intro ho
    obtain ⟨hk, hx⟩ := okS_ker hn ho
    exact ⟨(rkC_full m n A).2 hk, (rkC_wide m n A b hk).2 ⟨_, hx⟩⟩
end Go.Proofs.Ytmhcpaffdchboaa
