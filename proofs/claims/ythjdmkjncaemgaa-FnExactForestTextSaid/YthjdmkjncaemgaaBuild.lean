/-
  The text of a tree by a builder: the kit's contracts of strings.Builder laid at this program.
-/
import Derived.Test.YthjdmkjncaemgaaTreeX
import Derived.Test.YthjdmkjncaemgaaTxtP
import Derived.Shelf.Strings.BuilderK
namespace Go.Proofs.Ythjdmkjncaemgaa
open Go.RowKit Go.Shelf
set_option maxRecDepth 100000
def buildRen : Go.Shelf.Ren := ⟨fun | 166 => 53 | 169 => 55 | 240 => 63 | 276 => 67 | n => n, fun | 0 => 0 | 3 => 3 | 4 => 4 | 5 => 5 | 9 => 9 | 20 => 20 | 37 => 52 | 70 => 51 | 72 => 54 | 75 => 56 | 80 => 59 | 127 => 61 | 164 => 66 | n => n, fun n => n⟩
theorem writeLay : Lays.n166 Try.prog buildRen :=
  { mixed := by kernel_rfl
    f166 := (Try.func53.trans (congrArg some (by kernel_rfl)))
    f240 := (Try.func63.trans (congrArg some (by kernel_rfl)))
    f276 := (Try.func67.trans (congrArg some (by kernel_rfl)))
    t0 := Try.underlying0
    a0 := Try.isAgg0
    z0 := Try.sizeOf0
    v0 := Try.zeroValue0
    t3 := Try.underlying3
    a3 := Try.isAgg3
    z3 := Try.sizeOf3
    v3 := Try.zeroValue3
    t4 := Try.underlying4
    a4 := Try.isAgg4
    z4 := Try.sizeOf4
    v4 := Try.zeroValue4
    t9 := Try.underlying9
    a9 := Try.isAgg9
    z9 := Try.sizeOf9
    v9 := Try.zeroValue9
    t20 := Try.underlying20
    a20 := Try.isAgg20
    z20 := Try.sizeOf20
    v20 := Try.zeroValue20
    t37 := Try.underlying52
    a37 := Try.isAgg52
    z37 := Try.sizeOf52
    v37 := Try.zeroValue52
    t70 := Try.underlying51
    a70 := Try.isAgg51
    z70 := Try.sizeOf51
    v70 := Try.zeroValue51
    t72 := Try.underlying54
    a72 := Try.isAgg54
    z72 := Try.sizeOf54
    v72 := Try.zeroValue54
    t75 := Try.underlying56
    a75 := Try.isAgg56
    z75 := Try.sizeOf56
    v75 := Try.zeroValue56
    t164 := Try.underlying66
    a164 := Try.isAgg66
    z164 := Try.sizeOf66
    v164 := Try.zeroValue66 }
theorem stringLay : Lays.n169 Try.prog buildRen :=
  { mixed := by kernel_rfl
    f169 := (Try.func55.trans (congrArg some (by kernel_rfl)))
    t0 := Try.underlying0
    a0 := Try.isAgg0
    z0 := Try.sizeOf0
    v0 := Try.zeroValue0
    t3 := Try.underlying3
    a3 := Try.isAgg3
    z3 := Try.sizeOf3
    v3 := Try.zeroValue3
    t9 := Try.underlying9
    a9 := Try.isAgg9
    z9 := Try.sizeOf9
    v9 := Try.zeroValue9
    t37 := Try.underlying52
    a37 := Try.isAgg52
    z37 := Try.sizeOf52
    v37 := Try.zeroValue52
    t70 := Try.underlying51
    a70 := Try.isAgg51
    z70 := Try.sizeOf51
    v70 := Try.zeroValue51
    t72 := Try.underlying54
    a72 := Try.isAgg54
    z72 := Try.sizeOf54
    v72 := Try.zeroValue54
    t127 := Try.underlying61
    a127 := Try.isAgg61
    z127 := Try.sizeOf61
    v127 := Try.zeroValue61 }
theorem buildExtra : Builder.Extra Try.prog buildRen where
  sizeBuilder := by kernel_rfl
  liesBuilder := by kernel_rfl
  t5 := Try.underlying5
  a5 := Try.isAgg5
  z5 := Try.sizeOf5
  v5 := Try.zeroValue5
  infoByte := by kernel_rfl
  cellsByte := by kernel_rfl
  sizeByte := by kernel_rfl
  neB5 := by decide
/-- The builder in block b has the bytes l. -/
def Bld (b : Nat) (l : List UInt8) (w : World) : Prop := Lib.IsBuilderF 54 5 b b (Lib.byteCells l) w
theorem Bld.lt {b : Nat} {l : List UInt8} {w : World} (h : Bld b l w) : b < w.heap.size := by
  rcases h with h | h <;> exact h.lt
theorem Bld.mono {b : Nat} {l : List UInt8} {w w' : World} (h : Bld b l w) (hb : Below w.heap.size w w') : Bld b l w' := by
  have hlt := h.lt
  rcases h with ⟨hB, v, hc, hown, hne⟩ | ⟨hB, v, hc, hown, hne⟩
  · exact .inl ⟨hB, v, (hb.block b hlt).trans hc, hown.kept (grownBy_of_below hb none) (by cases v.ownBlock <;> simp), hne⟩
  · exact .inr ⟨hB, v, (hb.block b hlt).trans hc, hown.kept (grownBy_of_below hb none) (by cases v.ownBlock <;> simp), hne⟩
theorem Bld.new (w : World) : Bld w.heap.size [] (w.alloc (.cells #[.pointer none, .slice none 0 0] 54)) :=
  .inl ⟨Nat.le_refl _, .slice none 0 0, by unfold World.alloc; exact Array.getElem?_push_size, ⟨rfl, .inl ⟨rfl, rfl⟩⟩, by simp [Value.ownBlock]⟩
theorem bcl (l : List UInt8) : (Lib.byteCells l).length = l.length := by simp [Lib.byteCells]
theorem bsz (m : List UInt8) : ByteArray.size ⟨m.toArray⟩ = m.length := by simp [ByteArray.size]
theorem bca (l m : List UInt8) : Lib.byteCells l ++ Lib.strCells ⟨m.toArray⟩ = Lib.byteCells (l ++ m) := by simp [Lib.byteCells, Lib.strCells]
theorem write_any (b : Nat) (l m : List UInt8) (w : World) (h : Bld b l w) (hlen : l.length + m.length ≤ 1048576) :
    Calls Try.prog 53 #[.pointer (some ⟨b, 0, none⟩), .string ⟨m.toArray⟩] w fun e w' => e = .returned (.tuple #[.int .i64 m.length, .nilIface]) ∧ Bld b (l ++ m) w' ∧ Below b w w' ∧ Lib.OthersKept 5 (some b) w w' :=
  (Any.Builder_WriteString_k writeLay buildExtra b b (Lib.byteCells l) ⟨m.toArray⟩ w h (by { rw [bcl, bsz]; omega }) (Nat.le_of_lt h.lt)).mono fun e w' ⟨h1, h2, h3, h4⟩ =>
    ⟨by rw [h1, bsz], .inr (bca l m ▸ h2), h3, h4⟩
theorem string_any (b : Nat) (l : List UInt8) (w : World) (h : Bld b l w) :
    Calls Try.prog 55 #[.pointer (some ⟨b, 0, none⟩)] w fun e w' => e = .returned (.string ⟨l.toArray⟩) ∧ Below b w w' :=
  (Any.Builder_String_any_k stringLay buildExtra b b l w h (Nat.le_of_lt h.lt)).mono fun _ _ ⟨h1, _, h3, _⟩ => ⟨h1, h3⟩
theorem ownsRow_others {base n b : Nat} {e : TypeId} {v : Value} {xs : List Value} {w w' : World} (h : w.ownsRow base e 1 v n xs) (hk : Lib.OthersKept 5 (some b) w w') (he : e ≠ 5) (hb : b < base) : w'.ownsRow base e 1 v n xs := by
  obtain ⟨h1, h2⟩ := h
  refine ⟨h1, ?_⟩
  rcases h2 with h2 | ⟨g, cap, cur, hv, hbase, hg, r⟩
  · exact .inl h2
  · exact .inr ⟨g, cap, cur, hv, hbase, hk g _ hg (by simp; omega) (fun c fz e => by cases e; exact he rfl), r⟩
theorem Own2.others {base b : Nat} {v : Value} {us : List Value} {zss : List (List Int)} {w w' : World} (h : Own2 base w v us zss) (hk : Lib.OthersKept 5 (some b) w w') (hb : b < base) : Own2 base w' v us zss :=
  ⟨ownsRow_others h.1 hk (by decide) hb, h.2.1, h.2.2.1, fun j hj => ⟨ownsRow_others (h.2.2.2.1 j hj).1 hk (by decide) hb, (h.2.2.2.1 j hj).2⟩, h.2.2.2.2.1, h.2.2.2.2.2⟩
end Go.Proofs.Ythjdmkjncaemgaa
