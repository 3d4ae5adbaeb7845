/-
  The draws that the laws call, and the laws' own small functions.
-/
import Derived.Test.YtmhcpaffdchboaaDoorDrawS
namespace Go.Proofs.YtmhcpaffdchboaaDoor
open Go.RowKit
set_option maxRecDepth 100000
theorem notBlock {v : Value} {b : Nat} (h : ∀ k, v.ownBlock = some k → k ≠ b) : v.ownBlock = none ∨ v.ownBlock ≠ some b := by
  cases e : v.ownBlock with
  | none => exact .inl rfl
  | some r => exact .inr (fun x => h r e (by cases x; rfl))
theorem big_any (ao : Option Addr) (n cap : Nat) (w : World) (hn : n ≤ maxLen) :
    Calls Tryd.prog 10 #[.slice ao n cap] w fun e w' => e = .returned (.bool (decide (4096 < n))) ∧ w = w' := by
  unfold maxLen at hn
  go_enter Tryd.func10, Tryd.ntmps10
  go_wp2
  go_ret
  exact ⟨ret_bool (by apply Bool.eq_iff_iff.2; simp; try omega), rfl⟩
theorem mod5_any (n : Int) (w : World) :
    Calls Tryd.prog 15 #[.int .i64 n] w fun e w' => e = .returned (.int .i64 (n % 10007)) ∧ w = w' := by
  have h := tmod_bd n
  go_enter Tryd.func15, Tryd.ntmps15
  go_wp2
  go_ret
  exact ⟨ret_int (by have e := md_eq n; rwa [Int.tmod_eq_emod_of_nonneg (by omega)] at e), rfl⟩
end Go.Proofs.YtmhcpaffdchboaaDoor
