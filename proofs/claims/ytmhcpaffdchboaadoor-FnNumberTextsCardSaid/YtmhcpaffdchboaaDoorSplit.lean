/-
  The walk of l01Split: the parts of a text between slashes.
-/
import Derived.Test.YtmhcpaffdchboaaDoorParN
import Derived.Test.YtmhcpaffdchboaaDoorApp
namespace Go.Proofs.YtmhcpaffdchboaaDoor
open Go.RowKit
set_option maxRecDepth 100000
set_option linter.unusedVariables false
/-- The slice v, in a block of its own from base on, holds these strings. -/
def OwnS (base : Nat) (w : World) (v : Value) (xs : List Value) : Prop := w.ownsRow base 9 1 v xs.length xs
theorem OwnS.mono {base : Nat} {w w' : World} {v : Value} {xs : List Value} (h : OwnS base w v xs) (hb : Below w.heap.size w w') : OwnS base w' v xs :=
  World.ownsRow.kept h (grownBy_of_below hb none) (by cases v.ownBlock <;> simp)
theorem OwnS.litAt {w : World} {base m : Nat} (hm : w.heap.size = m) (hb : base ≤ m) : OwnS base (w.alloc (.cells #[] 9)) (.slice (some ⟨m, 0, none⟩) 0 0) [] := by
  subst hm; exact World.ownsRow_lit w #[] 0 hb (by simp [maxLen]) rfl
theorem info_str : (Tryd.prog.info? 9).map (fun i => (i.zero, i.size, i.bytes)) = some (some (.string ⟨#[]⟩), 1, 16) := by kernel_rfl
theorem wpl_appS {P : Program} {ops : Array Oper} {o : Oper} {a : Act} {W : World} {base : Nat} {v : Value} {xs : List Value} {rest : List Oper} {Q : Exit → Act → World → Prop} (hgd : o.guard = none) (s x : Operand) (t : TypeId)
    (ho : o.op = .call { callee := .builtin .append, args := #[s, x], argTypes := #[t, t] }) (ht : P.underlying t = some (.slice 9))
    (hinf : (P.info? 9).map (fun i => (i.zero, i.size, i.bytes)) = some (some (.string ⟨#[]⟩), 1, 16))
    (hs : a.eval s = v) (O : OwnS base W v xs) (ad : Addr) (c : Nat) (y : ByteArray) (hx : a.eval x = .slice (some ad) 1 c) (hc : W.cell? ad = some (.string y)) (hl : xs.length < 1048578) (hb : base ≤ W.heap.size)
    (h : ∀ v' W1, OwnS base W1 v' (xs ++ [.string y]) → W.grownBy W1 v.ownBlock → Below base W W1 → wpList P ops Q rest (a.put o.dst v') W1) : wpList P ops Q (o :: rest) a W := by
  obtain ⟨i0, hi, hz0, hz1, hz2⟩ := info_parts hinf
  have hlt : ∀ k, v.ownBlock = some k → base ≤ k ∧ k < W.heap.size := World.ownsRow.lt O
  refine wpList_append_own _ hgd s x t ho base 9 i0 (.string ⟨#[]⟩) 1 16 ht hi hz0 hz1 hz2 rfl (by decide) v xs.length _ hs O ad 1 c [.string y] hx rfl ?_ ?_ ?_ ?_ hb ?_
  · intro j u hj
    match j, hj with
    | 0, hj => simp at hj; subst hj; simpa [Addr.add] using hc
  · intro u hu; simp at hu; subst hu; rfl
  · unfold maxLen; omega
  · omega
  · intro v' W1 h1 h2 _
    refine h v' W1 ?_ h2 ((Below.refl _ _).grown h2 hb (fun k hk => (hlt k hk).1))
    unfold OwnS
    rw [List.length_append, List.length_singleton]
    exact h1
/-- The parts done when the first k bytes are read, and where the part under way begins. -/
def SplAt (a : ByteArray) (k p : Nat) (xs : List Value) : Prop :=
  (xs = [] ∧ p = 0 ∧ ∀ j, j < k → st a j ≠ 47) ∨
  (∃ i, i < k ∧ st a i = 47 ∧ (∀ j, j < i → st a j ≠ 47) ∧
    ((xs = [.string (a.extract 0 i)] ∧ p = i + 1 ∧ ∀ j, i < j → j < k → st a j ≠ 47) ∨
     (∃ rest, xs = .string (a.extract 0 i) :: rest ∧ 1 ≤ rest.length ∧ ∃ j, i < j ∧ j < k ∧ st a j = 47)))
def SplP (a : ByteArray) (xs : List Value) : Prop :=
  (xs = [.string (a.extract 0 a.size)] ∧ ∀ j, j < a.size → st a j ≠ 47) ∨
  (∃ i, i < a.size ∧ st a i = 47 ∧ (∀ j, j < i → st a j ≠ 47) ∧
    ((xs = [.string (a.extract 0 i), .string (a.extract (i + 1) a.size)] ∧ ∀ j, i < j → j < a.size → st a j ≠ 47) ∨
     (∃ rest, xs = .string (a.extract 0 i) :: rest ∧ 2 ≤ rest.length ∧ ∃ j, i < j ∧ j < a.size ∧ st a j = 47)))
theorem SplAt.skip {a : ByteArray} {k p : Nat} {xs : List Value} (h : SplAt a k p xs) (hc : st a k ≠ 47) : SplAt a (k + 1) p xs := by
  have low : ∀ {j}, j < k + 1 → j < k ∨ j = k := fun h => by omega
  rcases h with ⟨h1, h2, h3⟩ | ⟨i, h1, h2, h3, ⟨h4, h5, h6⟩ | ⟨rest, h4, h5, j, h6, h7, h8⟩⟩
  · exact .inl ⟨h1, h2, fun j hj => by rcases low hj with h | rfl; exact h3 j h; exact hc⟩
  · exact .inr ⟨i, by omega, h2, h3, .inl ⟨h4, h5, fun j hj hk => by rcases low hk with h | rfl; exact h6 j hj h; exact hc⟩⟩
  · exact .inr ⟨i, by omega, h2, h3, .inr ⟨rest, h4, h5, j, h6, by omega, h8⟩⟩
theorem SplAt.take {a : ByteArray} {k p : Nat} {xs : List Value} (h : SplAt a k p xs) (hc : st a k = 47) : SplAt a (k + 1) (k + 1) (xs ++ [.string (a.extract p k)]) := by
  rcases h with ⟨rfl, rfl, h3⟩ | ⟨i, h1, h2, h3, ⟨rfl, rfl, h6⟩ | ⟨rest, rfl, h5, j, h6, h7, h8⟩⟩
  · exact .inr ⟨k, by omega, hc, h3, .inl ⟨rfl, rfl, fun j h1 h2 => by omega⟩⟩
  · exact .inr ⟨i, by omega, h2, h3, .inr ⟨[.string (a.extract (i + 1) k)], rfl, by simp, k, h1, by omega, hc⟩⟩
  · exact .inr ⟨i, by omega, h2, h3, .inr ⟨rest ++ [.string (a.extract p k)], rfl, by simp, j, h6, by omega, h8⟩⟩
theorem SplAt.fin {a : ByteArray} {p : Nat} {xs : List Value} (h : SplAt a a.size p xs) : SplP a (xs ++ [.string (a.extract p a.size)]) := by
  rcases h with ⟨rfl, rfl, h3⟩ | ⟨i, h1, h2, h3, ⟨rfl, rfl, h6⟩ | ⟨rest, rfl, h5, j, h6, h7, h8⟩⟩
  · exact .inl ⟨rfl, h3⟩
  · exact .inr ⟨i, h1, h2, h3, .inl ⟨rfl, h6⟩⟩
  · exact .inr ⟨i, h1, h2, h3, .inr ⟨rest ++ [.string (a.extract p a.size)], rfl, by simp; omega, j, h6, h7, h8⟩⟩
theorem l01Split_any (a : ByteArray) (w : World) (ha : a.size ≤ 1048576) :
    Calls Tryd.prog 20 #[.string a, .int .u8 47] w fun e w' => (∃ v xs, e = .returned v ∧ OwnS w.heap.size w' v xs ∧ SplP a xs ∧ xs.length ≤ 1048577) ∧ Below w.heap.size w w' := by
  go_enter Tryd.func20, Tryd.ntmps20
  go_wp2
  go_loopw [5, 6, 7] (fun v p i wr => ∃ (k q : Nat) (xs : List Value), i = .int .i64 k ∧ p = .int .i64 q ∧ q ≤ k ∧ k ≤ a.size ∧ xs.length ≤ k ∧ Hid (SplAt a k q xs) ∧ OwnS w.heap.size wr v xs ∧ Below w.heap.size w wr) (fun _ _ i _ => a.size - (intOf i).toNat)
  case atStart => exact ⟨0, 0, [], rfl, rfl, Nat.le_refl _, Nat.zero_le _, Nat.zero_le _, .inl ⟨rfl, rfl, fun j h => by omega⟩, OwnS.litAt rfl (Nat.le_refl _), below_alloc _ _⟩
  case round =>
    obtain ⟨k, q, xs, rfl, rfl, hq, hk, hx, HS, O, Bl⟩ := hrel
    by_cases hlt : k < a.size
    · have hst := st_at a k hlt
      obtain ⟨c, hc⟩ : ∃ c, c = st a k := ⟨_, rfl⟩
      rw [← hc] at hst
      by_cases h47 : c = 47
      · have HN : Hid (SplAt a (k + 1) (k + 1) (xs ++ [.string (a.extract q k)])) := HS.out.take (by rw [← hc, h47])
        have hb : ((c.toNat : Int) == 47) = true := by rw [h47]; rfl
        clear hc h47
        go_wp2_with (at_builtin; refine wpl_appS rfl _ _ _ rfl Tryd.underlying35 info_str rfl (O.mono (below_alloc _ _)) ⟨wr.heap.size, 0, none⟩ 1 _ rfl (cell_new1 _ _ _) (by omega) (by have := Bl.size; simp; omega) ?_; intro v' W1 O3 G3 B3; clear G3)
        go_roundw
        case rel => exact ⟨k + 1, k + 1, _, by go_num, by go_num, Nat.le_refl _, hlt, by simp; omega, HN, O3, (Bl.alloc Bl.size _).trans B3⟩
        case measure => simp [intOf]; omega
      · have HN : Hid (SplAt a (k + 1) q xs) := HS.out.skip (by rw [← hc]; exact h47)
        have h47' : c.toNat ≠ 47 := fun e => h47 (UInt8.toNat_inj.1 e)
        have hb : ((c.toNat : Int) == 47) = false := beq_eq_false_iff_ne.2 (by omega)
        clear hc h47
        go_wp2
        go_roundw
        case rel => exact ⟨k + 1, q, xs, by go_num, rfl, by omega, hlt, by omega, HN, O, Bl⟩
        case measure => simp [intOf]; omega
    · obtain rfl : k = a.size := by omega
      have HN : Hid (SplP a (xs ++ [.string (a.extract q a.size)])) := HS.out.fin
      go_wp2_with (at_builtin; refine wpl_appS rfl _ _ _ rfl Tryd.underlying35 info_str rfl (O.mono (below_alloc _ _)) ⟨wr.heap.size, 0, none⟩ 1 _ rfl (cell_new1 _ _ _) (by omega) (by have := Bl.size; simp; omega) ?_; intro v' W1 O3 G3 B3; clear G3)
      go_ret
      exact ⟨⟨_, _, rfl, O3, HN.out, by simp; omega⟩, (Bl.alloc Bl.size _).trans B3⟩
end Go.Proofs.YtmhcpaffdchboaaDoor
