/-
  The walks of the density of trees.
-/
import Derived.Test.YthjdmkjncaemgaaTreeB
namespace Go.Proofs.Ythjdmkjncaemgaa
open Go.RowKit
set_option maxRecDepth 100000
def densTo (f : List Int → Int) (n : Nat) (bs : List (List Int)) : Nat → Int
  | 0 => (n : Int)
  | k + 1 => wrap64 (densTo f n bs k * f (rowAt bs k))
def densF : Nat → List Int → Int
  | 0, _ => 0
  | n + 1, t => densTo (densF n) t.length (parts t) (parts t).length
def densR (zs : List Int) : Int × Int := if isLev zs = true then (densF 8 zs, 0) else (0, 1)
theorem OwnII.form {base : Nat} {w : World} {v : Value} {zss : List (List Int)} (h : OwnII base w v zss) : ∃ ao cap, v = .slice ao zss.length cap := by
  obtain ⟨us, h⟩ := h; exact h.form
theorem OwnII.rd {base : Nat} {w : World} {v : Value} {zss : List (List Int)} (h : OwnII base w v zss) : RdII w v zss := by
  obtain ⟨us, h⟩ := h; exact h.rd
theorem RdI.lim {w : World} {v : Value} {zs : List Int} (h : RdI w v zs) : zs.length ≤ 1048576 := by obtain ⟨_, _, _, _, h, _⟩ := h; exact h
end Go.Proofs.Ythjdmkjncaemgaa
