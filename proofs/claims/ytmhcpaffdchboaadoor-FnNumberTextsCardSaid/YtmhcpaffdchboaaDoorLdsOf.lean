/-
  What the listed variables give, for the laws that read decimals.
-/
import Derived.Test.YtmhcpaffdchboaaDoorTxtS
import Derived.Test.YtmhcpaffdchboaaDoorDecW
import Derived.LaidMore
import Derived.Stop.Joined
namespace Go.Proofs.YtmhcpaffdchboaaDoor
open Go.RowKit
theorem err_cell {g : Nat} {n nm : String} {H : Type} {enc : TypeId × Value → H} {w : World} {sp : Nat → Bool} {base fuel : Nat} {cs : Array Value} {d : DataW H} {p : List MemPlace}
    (hg : Tryd.prog.globalNamed n = some g) (hv : w.var? Tryd.prog n = some cs) (hd : DataW.trod enc Tryd.prog w base sp false fuel 53 cs.toList = some (.iface nm d, p)) :
    ∃ ev, w.cell? ⟨g, 0, none⟩ = some ev ∧ (ev = .nilIface ∨ ∃ te pe, ev = .iface te pe) := by
  obtain ⟨_, u, v, hcs, _, _⟩ := iface_of_trod Tryd.underlying53 hd
  have h0 := World.var?_cell hg hv 0
  have : cs[0]? = some (.iface u v) := by rw [← Array.getElem?_toList, hcs]; rfl
  rw [this] at h0
  exact ⟨_, h0, .inr ⟨u, v, rfl⟩⟩
def laid5 : List (String × DataW Unit) := Rows.fnExactParseNumberRow.laid
theorem lds_of {W : World} (h : laidMetH Tryd.prog laid5 W) (hs : W.ShapedOpen Tryd.prog) : Lds W := by
  rw [MakeChecks.laidMetH_plain _ _ _ (by kernel_rfl)] at h
  obtain ⟨ps, ⟨g0, t0, cs0, f0, p0, q0, hg0, ht0, hv0, hd0, ⟨g1, t1, cs1, f1, p1, q1, hg1, ht1, hv1, hd1, ⟨g2, t2, cs2, f2, p2, q2, hg2, ht2, hv2, hd2, ⟨g3, t3, cs3, f3, p3, q3, hg3, ht3, hv3, hd3, ⟨g4, t4, cs4, f4, p4, q4, hg4, ht4, hv4, hd4, _, _⟩, _⟩, _⟩, _⟩, _⟩, _, _⟩ := h
  refine ⟨tab_of_trod hg2 ht2 hv2 hd2, ?_, ?_, shelf_laysM145.s1_3 W hs⟩
  · obtain rfl := Option.some.inj ((show Tryd.prog.globalNamed "strconv.ErrSyntax" = some 2 from shelf_laysC174.m15).symm.trans hg4)
    obtain rfl := Option.some.inj ((show (Tryd.prog.globals[2]?).map (·.type) = some 53 by kernel_rfl).symm.trans ht4)
    exact err_cell hg4 hv4 hd4
  · obtain rfl := Option.some.inj ((show Tryd.prog.globalNamed "strconv.ErrRange" = some 3 from shelf_laysC174.m16).symm.trans hg3)
    obtain rfl := Option.some.inj ((show (Tryd.prog.globals[3]?).map (·.type) = some 53 by kernel_rfl).symm.trans ht3)
    exact err_cell hg3 hv3 hd3
end Go.Proofs.YtmhcpaffdchboaaDoor
