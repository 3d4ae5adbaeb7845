/-
  The walks of the reference's lists of trees.
-/
import Derived.Test.YtoiangfookhfdaaTreeF
import Derived.Test.YtoiangfookhfdaaTreeE
namespace Go.Proofs.Ytoiangfookhfdaa
open Go.RowKit
set_option maxRecDepth 100000
/-- What a call leaves that has appended to a list of lists. -/
def Grew (base : Nat) (w : World) (v : Value) (zss : List (List Int)) (e : Ending) (w' : World) : Prop :=
  ∃ r us, e = .returned r ∧ Own2 base w' r us zss ∧ w.grownBy w' v.ownBlock ∧ ∀ b, r.ownBlock = some b → v.ownBlock = some b ∨ w.heap.size ≤ b
theorem growD_pos (g : List Int → List (List Int)) (t : List Int) (x : Nat) (h : 1 ≤ x) : growD g t x = g (t ++ [(x : Int)]) ++ growD g t (x - 1) := by
  obtain ⟨y, rfl⟩ : ∃ y, x = y + 1 := ⟨x - 1, by omega⟩
  rfl
set_option maxHeartbeats 1000000 in
theorem l03Grow_any (n : Nat) (hn8 : n ≤ 8) (base : Nat) (f : Nat) : ∀ (tv v : Value) (t : List Int) (us : List Value) (zss : List (List Int)) (w : World), RdI w tv t → IsL t → t.length + f = n → Own2 base w v us zss → Parted tv v → base ≤ w.heap.size → (zss ++ growF f t).length ≤ 1000 →
    Calls Try.prog 73 #[tv, .int .i64 (n : Nat), v] w (Grew base w v (zss ++ growF f t)) := by
  induction f with
  | zero =>
    intro tv v t us zss w h hL hn O hp hb hc
    obtain ⟨ao, cap, rfl⟩ := h.form
    have hlen : ((t.length : Int) == (n : Int)) = true := by simp; omega
    have h0 := hL.1
    have HC := hid (canonF_IsL 8 t hL)
    have HL := hid hL
    have ht8 : t.length ≤ 8 := by omega
    have hlv : Hid (isLev t = true) := isLev_of hL ht8
    cases hs : sameL (canon t) t with
    | true =>
      have HS := hid hs
      have HG : Hid (zss ++ growF 0 t = zss ++ [t]) := by simp only [Hid, growF]; rw [if_pos hs]
      have hzl : zss.length < 1048576 := by rw [HG.out] at hc; simp at hc; omega
      have HP := hid hp
      have H := hid h
      have HO := hid O
      have HLT : Hid (∀ x ∈ us, ∀ b, x.ownBlock = some b → b < w.heap.size) := fun x hx b hb => (O.mem_lt x hx b hb).2
      have hvb : Hid (∀ b, v.ownBlock = some b → b < w.heap.size) := fun b hb => (O.lt b hb).2
      clear hs hL h hc hn O hp
      go_enter Try.func73, Try.ntmps73
      go_wp2_with (first
        | (go_at_call 57; refine (l03Canon_any 8 (by omega) _ t _ H.out HL.out ht8).mono ?_; rintro e w1 ⟨r1, rfl, O1, B1⟩)
        | (go_at_call 56; refine (l01Same_any _ _ (canonF 8 t) t _ O1.rd (H.out.mono B1)).mono ?_; rintro e w2 ⟨rfl, D2⟩; rw [show sameL (canonF 8 t) t = true from HS.out]; have B2 := nx B1 (D2.below _))
        | (go_at_call 86; refine (l01Own_any _ t _ (H.out.mono B2) h0).mono ?_; rintro e w3 ⟨r3, rfl, O3, B3⟩; obtain ⟨ao3, cap3, rfl⟩ := O3.form; have B4 := nx B2 B3; have bs4 := B4.size; have bs2 := B2.size)
        | (at_builtin; refine wpl_app2 (v := v) (u := .slice ao3 t.length cap3) rfl _ _ _ rfl Try.underlying28 info_ii rfl ((HO.out.mono B4).mono (below_alloc _ _)) ⟨w3.heap.size, 0, none⟩ 1 t rfl (cell_new1 _ _ _) ((O3.lower (Nat.le_trans hb bs2)).mono (below_alloc _ _)) (parted_lt w.heap.size (fun b h => Nat.le_trans bs2 (O3.own_lt b h).1) hvb.out) (fun j hj => parted_lt w.heap.size (fun b h => Nat.le_trans bs2 (O3.own_lt b h).1) (HLT.out _ (by rw [← vat_at us j hj]; exact List.getElem_mem hj))) hzl (by simp; omega) ?_; intro v' W1 O5 G5 B5 P5))
      go_ret
      refine ⟨v', _, rfl, by rw [HG.out]; exact O5, ?_, ?_⟩
      · have g1 := (grownBy_of_below B4 v.ownBlock).trans (World.grownBy_alloc w3 (.cells #[.slice ao3 t.length cap3] 22) v.ownBlock)
        exact g1.trans G5
      · intro b hb2
        rcases P5 with P5 | P5
        · exact .inl (by rw [← P5]; exact hb2)
        · right; rw [P5] at hb2; simp at hb2; omega
    | false =>
      have HS := hid hs
      have HG : Hid (zss ++ growF 0 t = zss) := by simp only [Hid, growF]; rw [if_neg (by rw [hs]; simp), List.append_nil]
      have H := hid h
      have HO := hid O
      clear hs hL h hc hn O hp
      go_enter Try.func73, Try.ntmps73
      go_wp2_with (first
        | (go_at_call 57; refine (l03Canon_any 8 (by omega) _ t _ H.out HL.out ht8).mono ?_; rintro e w1 ⟨r1, rfl, O1, B1⟩)
        | (go_at_call 56; refine (l01Same_any _ _ (canonF 8 t) t _ O1.rd (H.out.mono B1)).mono ?_; rintro e w2 ⟨rfl, D2⟩; rw [show sameL (canonF 8 t) t = false from HS.out]; have B2 := nx B1 (D2.below _)))
      go_ret
      exact ⟨v, us, rfl, by rw [HG.out]; exact HO.out.mono B2, grownBy_of_below B2 _, fun b hb => .inl hb⟩
  | succ f ih =>
    intro tv v t us zss w h hL hn O hp hb hc
    obtain ⟨ao, cap, rfl⟩ := h.form
    have hlen : ((t.length : Int) == (n : Int)) = false := by simp; omega
    have h0 := hL.1
    have H := hid h
    have HL := hid hL
    have IH := hid ih
    obtain ⟨b, off, rfl, hcell⟩ := h.at_ (k := t.length - 1) (by omega)
    have hbd := hL.bd (t.length - 1) (by omega)
    obtain ⟨X, hX⟩ : ∃ X : Nat, X = (el t (t.length - 1) + 1).toNat := ⟨_, rfl⟩
    have hXe : Hid (el t (t.length - 1) + 1 = (X : Int)) := by simp only [Hid]; omega
    have HG : Hid (zss ++ growF (f + 1) t = zss ++ growD (growF f) t X) := by simp only [Hid, growF]; rw [hX]
    rw [HG.out] at hc
    have HCC := hid hc
    have HP := hid hp
    have HO := hid O
    have hXn : (X : Int) ≤ 9 := by omega
    have hlm : t.length ≤ 8 := by omega
    have hi2 : (1 : Int) ≤ (t.length : Int) := by omega
    have hin : ((t.length : Int) - 1).toNat = t.length - 1 := by omega
    clear hX hL ih h hc hp O
    go_enter Try.func73, Try.ntmps73
    go_wp2
    go_loopw [2, 7] (fun r i wr => ∃ (x : Nat) (Z : List (List Int)) (us' : List Value), x ≤ X ∧ i = .int .i64 x ∧ Own2 base wr r us' Z ∧ Hid (Z ++ growD (growF f) t x = zss ++ growD (growF f) t X) ∧ w.grownBy wr v.ownBlock ∧ Hid (∀ b, r.ownBlock = some b → v.ownBlock = some b ∨ w.heap.size ≤ b)) (fun _ i _ => (intOf i).toNat)
    case atStart => exact ⟨X, zss, us, Nat.le_refl _, by rw [hXe.out], HO.out, rfl, World.grownBy.refl _ _, fun b hb => .inl hb⟩
    case round =>
      obtain ⟨x, Z, us', hx, rfl, O, HZ, G, HR⟩ := hrel
      by_cases hlt : 1 ≤ x
      · have HG2 := hid (growD_pos (growF f) t x hlt)
        have hlt1 : (1 : Int) ≤ (x : Int) := by omega
        have HT := hid (H.out.grown G HP.out.ne)
        have hsn : IsL (t ++ [(x : Int)]) := HL.out.snoc (by omega) (by have := hXe.out; omega)
        have HSN := hid hsn
        have HLT : Hid (∀ b, u2.ownBlock = some b → b < wr.heap.size) := fun b hb => (O.lt b hb).2
        have hcz : Hid ((Z ++ growF f (t ++ [(x : Int)])).length ≤ 1000) := by
          have h1 := HCC.out
          rw [← HZ.out, HG2.out] at h1
          simp only [Hid]
          simp only [List.length_append] at h1 ⊢
          omega
        have hgs := G.size
        have HGG := hid G
        clear hsn G
        go_wp2_with (first
          | (go_at_call 86; refine (l01Own_any _ t _ HT.out h0).mono ?_; rintro e w3 ⟨r3, rfl, O3, B3⟩; obtain ⟨ao3, cap3, rfl⟩ := O3.form; have bs3 := B3.size)
          | (at_builtin; refine wpl_appW (v := .slice ao3 t.length cap3) rfl _ _ _ rfl Try.underlying22 info_i64 rfl (O3.mono (below_alloc _ _)) ⟨w3.heap.size, 0, none⟩ 1 _ rfl (cell_new1 _ _ _) (by omega) (by simp; omega) ?_; intro v4 W4 O4 G4 B4 P4; clear G4 P4; have B5 := (B3.alloc bs3 (.cells #[.int .i64 (x : Int)] 2)).trans B4; have bs5 := B5.size; have O5 := O.mono B5)
          | (go_at_call 73; refine (IH.out v4 u2 (t ++ [(x : Int)]) us' Z _ O4.rd HSN.out (by simp; omega) O5 (parted_lt wr.heap.size (fun b hb => (O4.own_lt b hb).1) HLT.out) (by omega) hcz.out).mono ?_; rintro e w6 ⟨r6, us6, rfl, O6, G6, HR6⟩))
        have G7 : w.grownBy w6 v.ownBlock := (HGG.out.trans (grownBy_of_below B5 _)).andThen G6 (fun j hj => (HR.out j hj).symm)
        have HR7 : Hid (∀ b, r6.ownBlock = some b → v.ownBlock = some b ∨ w.heap.size ≤ b) := fun b hb => (HR6 b hb).elim (fun h => HR.out b h) (fun h => .inr (by omega))
        clear HR6
        go_roundw
        case rel => exact ⟨x - 1, _, us6, by omega, by congr 1; omega, O6, by simp only [Hid]; rw [List.append_assoc, ← HG2.out]; exact HZ.out, G7, HR7⟩
        case measure => simp [intOf]; omega
      · have hx0 : x = 0 := by omega
        have HZ2 : Hid (Z = zss ++ growD (growF f) t X) := by
          have h1 := HZ.out
          rw [hx0, growD, List.append_nil] at h1
          exact h1
        clear hx0
        go_wp2
        go_ret
        exact ⟨_, us', rfl, by rw [HG.out, ← HZ2.out]; exact O, G, HR.out⟩
theorem treesL_len (n : Nat) (h1 : 1 ≤ n) (h8 : n ≤ 8) : (treesL n).length = many n := by
  rw [← outT_trees n h1 h8]
  have : ∀ k, (outT n k).length = k := fun k => by induction k with
    | zero => rfl
    | succ k ih => rw [outT]; simp [ih]
  exact this _
theorem many_le (n : Nat) : many n ≤ 115 := by unfold many; split <;> omega
theorem l03Trees_any (n : Nat) (h1 : 1 ≤ n) (h8 : n ≤ 8) (w : World) :
    Calls Try.prog 52 #[.int .i64 (n : Nat)] w fun e w' => ∃ r, e = .returned r ∧ OwnII w.heap.size w' r (treesL n) ∧ Below w.heap.size w w' := by
  have hg : ([] ++ growF (n - 1) [0]).length ≤ 1000 := by
    have := treesL_len n h1 h8; have := many_le n
    simp only [List.nil_append]; unfold treesL at *; omega
  have hc := l03Grow_any n h8 w.heap.size (n - 1) (.slice (some ⟨w.heap.size, 0, none⟩) 1 1) (.slice none 0 0) [0] [] [] (w.alloc (.cells #[.int .i64 0] 2)) (app_lit1 w w.heap.size 0 (Nat.le_refl _)).rd IsL.single (by simp; omega) (Own2.nil _ _) (fun b _ h => by simp [Value.ownBlock] at h) (by simp) hg
  have HC := hid hc
  clear hc hg
  go_enter Try.func52, Try.ntmps52
  go_wp2_with (go_at_call 73; refine HC.out.mono ?_; rintro e w1 ⟨r, us, rfl, O, G, -⟩)
  go_ret
  exact ⟨r, rfl, ⟨us, by rw [List.nil_append] at O; exact O⟩, (below_alloc _ _).grown G (by simp) (fun b hb => by simp [Value.ownBlock] at hb)⟩
end Go.Proofs.Ytoiangfookhfdaa
