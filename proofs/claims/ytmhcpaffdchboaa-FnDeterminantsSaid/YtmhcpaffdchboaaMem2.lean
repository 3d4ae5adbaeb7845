/-
  Lists of lists in memory of the call's own: what they read as, and how they stay.
-/
import Derived.Test.YtmhcpaffdchboaaApp
import Derived.Test.YtmhcpaffdchboaaRows2
import Derived.Deep.AppendSrc
import Derived.Deep.DeepAppendRoom
import Derived.Deep.Onto
namespace Go.Proofs.Ytmhcpaffdchboaa
open Go.RowKit
/-- An append of at least one element to an own row: where the new row lies. -/
theorem run_append_where {P : Program} (w : World) (base : Nat) (t ty e : TypeId) (i : TypeInfo) (z : Value) (size bytes : Nat) (ht : P.underlying t = some (.slice e)) (hi : P.info? e = some i) (hz : i.zero = some z)
    (hsize : i.size = size) (hby : i.bytes = bytes) (hzs : z.cells.size = size) (hsz : 0 < size)
    (v : Value) (n : Nat) (xs : List Value) (hown : w.ownsRow base e size v n xs)
    (a : Addr) (m c : Nat) (news : List Value) (hl : news.length = m * size) (hnews : ∀ j u, news[j]? = some u → w.cell? (a.add j) = some u) (h1 : ∀ u ∈ news, u.oneCell' = true)
    (h63 : n + m ≤ maxLen) (hbytes : (n + m) * bytes ≤ 140737488355328) (hbase : base ≤ w.heap.size) :
    ∃ v' w', (Builtin.append_ #[t, t] ty #[v, .slice (some a) m c]).run P w = .ok v' w' ∧ w'.ownsRow base e size v' (n + m) (xs ++ news) ∧ w.grownBy w' v.ownBlock ∧
      (v'.ownBlock = v.ownBlock ∨ v'.ownBlock = some w.heap.size) := by
  obtain ⟨v', w', hr, h2, h3, hiff⟩ := run_append_own (P := P) w base t ty e i z size bytes ht hi hz hsize hby hzs hsz v n xs hown a m c news hl hnews h1 h63 hbytes hbase
  refine ⟨v', w', hr, h2, h3, ?_⟩
  have hm63 : ((n + m : Nat) : Int) ≤ 9223372036854775807 := by unfold maxLen at h63; omega
  rcases hown.2 with ⟨rfl, rfl⟩ | ⟨g, cap, cur, rfl, hb, hg, hn, hcm, hcs, htk⟩
  · by_cases hm0 : m = 0
    · left
      rw [hiff.2 ⟨rfl, hm0⟩]
    right
    have hs := Src.ofSlice (P := P) (size := i.size) w ht a m c news (by rw [hl, hsize]) hnews h1
    have hgr := run_append_grow_src (P := P) w t t ty e i z ht hi hz none 0 0 [] (run_firstCells_none w.drew i.size 0 0 0) (.slice (some a) m c) m news hs (by omega) hm63 (by
      have := nextslicecap_le (need := 0 + m) (old := 0) (by omega)
      have := Nat.mul_le_mul_right i.bytes this
      rw [hby] at this ⊢
      rw [Nat.mul_assoc] at this
      omega)
    rw [hr] at hgr
    simp only [Result.ok.injEq] at hgr
    rw [hgr.1]; rfl
  · by_cases hroom : n + m ≤ cap
    · left
      obtain ⟨w2, hr2, -, -⟩ := run_append_own_spare (P := P) w base t ty e i size ht hi hsize g n cap xs hown a m c news hl hnews h1 hroom
      rw [hr] at hr2
      simp only [Result.ok.injEq] at hr2
      rw [hr2.1]; rfl
    · right
      have hs := Src.ofSlice (P := P) (size := i.size) w ht a m c news (by rw [hl, hsize]) hnews h1
      have hgr := run_append_grow_src (P := P) w t t ty e i z ht hi hz (some ⟨g, 0, none⟩) n cap xs (run_firstCells_some (P := P) w.drew i.size n ⟨g, 0, none⟩ n cap xs (by rw [hown.1, hsize]) (hown.cells rfl)) (.slice (some a) m c) m news hs (by omega) hm63 (by
        have := nextslicecap_le (need := n + m) (old := cap) (by omega)
        have := Nat.mul_le_mul_right i.bytes this
        rw [hby] at this ⊢
        rw [Nat.mul_assoc] at this
        omega)
      rw [hr] at hgr
      simp only [Result.ok.injEq] at hgr
      rw [hgr.1]; rfl
/-- The value at a place among values. -/
def vat (us : List Value) (j : Nat) : Value := us.getD j (.slice none 0 0)
theorem vat_at (us : List Value) (j : Nat) (h : j < us.length) : us[j] = vat us j := by simp [vat, h]
theorem vat_get (us : List Value) (j : Nat) (h : j < us.length) : us[j]? = some (vat us j) := by simp [vat, h]
theorem vat_set (us : List Value) (i j : Nat) (u : Value) : vat (us.set i u) j = if i = j ∧ i < us.length then u else vat us j := by
  unfold vat
  rw [List.getD_eq_getElem?_getD, List.getElem?_set, List.getD_eq_getElem?_getD]
  by_cases h : i = j
  · subst h
    by_cases hl : i < us.length
    · simp [hl]
    · simp [hl]
  · simp [h]
theorem vat_left (us vs : List Value) (j : Nat) (h : j < us.length) : vat (us ++ vs) j = vat us j := by simp [vat, List.getElem?_append_left h]
theorem vat_last (us : List Value) (u : Value) : vat (us ++ [u]) us.length = u := by simp [vat]
theorem rowAt_set (zss : List (List Int)) (i j : Nat) (z : List Int) : rowAt (zss.set i z) j = if i = j ∧ i < zss.length then z else rowAt zss j := by
  unfold rowAt
  rw [List.getD_eq_getElem?_getD, List.getElem?_set, List.getD_eq_getElem?_getD]
  by_cases h : i = j
  · subst h
    by_cases hl : i < zss.length
    · simp [hl]
    · simp [hl]
  · simp [h]
theorem rowAt_left (zss ys : List (List Int)) (j : Nat) (h : j < zss.length) : rowAt (zss ++ ys) j = rowAt zss j := by simp [rowAt, List.getElem?_append_left h]
theorem rowAt_last (zss : List (List Int)) (z : List Int) : rowAt (zss ++ [z]) zss.length = z := by simp [rowAt]
/-- Two values lie in no common block. -/
def Parted (u v : Value) : Prop := ∀ b, u.ownBlock = some b → v.ownBlock = some b → False
theorem Parted.ne {u v : Value} (h : Parted u v) : u.ownBlock = none ∨ u.ownBlock ≠ v.ownBlock := by
  cases e : u.ownBlock with
  | none => exact .inl rfl
  | some b => exact .inr (fun e2 => h b e e2.symm)
theorem Parted.symm {u v : Value} (h : Parted u v) : Parted v u := fun b h1 h2 => h b h2 h1
/-- The slice v, in a block of its own from base on, holds the slices us, each of which, in a block of its own from base on, holds numbers. -/
def Own2 (base : Nat) (w : World) (v : Value) (us : List Value) (zss : List (List Int)) : Prop :=
  w.ownsRow base 32 1 v us.length us ∧ us.length = zss.length ∧ zss.length ≤ 1048576 ∧
  (∀ j, j < us.length → OwnI base w (vat us j) (rowAt zss j)) ∧
  (∀ j, j < us.length → Parted (vat us j) v) ∧
  (∀ i j, i < us.length → j < us.length → i ≠ j → Parted (vat us i) (vat us j))
def OwnII (base : Nat) (w : World) (v : Value) (zss : List (List Int)) : Prop := ∃ us, Own2 base w v us zss
section
variable {base : Nat} {w : World} {v : Value} {us : List Value} {zss : List (List Int)}
theorem Own2.len (h : Own2 base w v us zss) : us.length = zss.length := h.2.1
theorem Own2.lim (h : Own2 base w v us zss) : zss.length ≤ 1048576 := h.2.2.1
theorem Own2.own (h : Own2 base w v us zss) (j : Nat) (hj : j < zss.length) : OwnI base w (vat us j) (rowAt zss j) := h.2.2.2.1 j (by rw [h.len]; exact hj)
theorem Own2.lt (h : Own2 base w v us zss) : ∀ k, v.ownBlock = some k → base ≤ k ∧ k < w.heap.size := h.1.lt
theorem Own2.nil (base : Nat) (w : World) : Own2 base w (.slice none 0 0) [] [] :=
  ⟨World.ownsRow_nil _ _ _ _, rfl, by simp, fun j hj => by simp at hj, fun j hj => by simp at hj, fun i j hi => by simp at hi⟩
theorem Own2.lit (w : World) (base : Nat) (hb : base ≤ w.heap.size) : Own2 base (w.alloc (.cells #[] 32)) (.slice (some ⟨w.heap.size, 0, none⟩) 0 0) [] [] :=
  ⟨World.ownsRow_lit w #[] 0 hb (by simp [maxLen]) rfl, rfl, by simp, fun j hj => by simp at hj, fun j hj => by simp at hj, fun i j hi => by simp at hi⟩
theorem Own2.litAt {m : Nat} (hm : w.heap.size = m) (hb : base ≤ m) : Own2 base (w.alloc (.cells #[] 32)) (.slice (some ⟨m, 0, none⟩) 0 0) [] [] := by
  subst hm; exact Own2.lit w base hb
theorem Own2.form (h : Own2 base w v us zss) : ∃ ao cap, v = .slice ao zss.length cap := by
  have hl := h.len
  rcases h.1.2 with ⟨e, h0⟩ | ⟨g, cap, _, e, _⟩
  · exact ⟨none, 0, by rw [e, ← hl, h0]⟩
  · exact ⟨_, cap, by rw [e, hl]⟩
theorem Own2.addr {ao : Option Addr} {n cap : Nat} (h : Own2 base w (.slice ao n cap) us zss) (h0 : 0 < zss.length) : ∃ g, ao = some ⟨g, 0, none⟩ := by
  have hl := h.len
  rcases h.1.2 with ⟨e, h0'⟩ | ⟨g, cap, _, e, _⟩
  · omega
  · simp only [Value.slice.injEq] at e
    exact ⟨g, e.1⟩
theorem Own2.len' {ao : Option Addr} {n cap : Nat} (h : Own2 base w (.slice ao n cap) us zss) : n = zss.length := by
  obtain ⟨_, _, e⟩ := h.form
  simp only [Value.slice.injEq] at e
  exact e.2.1
theorem Own2.cell {g n cap : Nat} (h : Own2 base w (.slice (some ⟨g, 0, none⟩) n cap) us zss) (j : Nat) (hj : j < zss.length) : w.cell? ⟨g, j, none⟩ = some (vat us j) := by
  have hn := h.len'
  have hl := h.len
  have h1 := h.1
  rw [hl, ← hn] at h1
  rw [h1.cellAt j (by omega), vat_get us j (by omega)]
theorem Own2.free {g n cap : Nat} (h : Own2 base w (.slice (some ⟨g, 0, none⟩) n cap) us zss) (j : Nat) : w.frozen? ⟨g, j, none⟩ = false := by
  have hn := h.len'
  have hl := h.len
  have h1 := h.1
  rw [hl, ← hn] at h1
  exact h1.frozenAt j
theorem Own2.glt {g n cap : Nat} (h : Own2 base w (.slice (some ⟨g, 0, none⟩) n cap) us zss) : base ≤ g ∧ g < w.heap.size := h.lt g rfl
theorem Own2.kept {w' : World} {row : Option Nat} (h : Own2 base w v us zss) (hg : w.grownBy w' row) (hv : v.ownBlock = none ∨ v.ownBlock ≠ row) (hu : ∀ j, j < us.length → (vat us j).ownBlock = none ∨ (vat us j).ownBlock ≠ row) : Own2 base w' v us zss :=
  ⟨h.1.kept hg hv, h.2.1, h.2.2.1, fun j hj => (h.2.2.2.1 j hj).grown hg (hu j hj), h.2.2.2.2.1, h.2.2.2.2.2⟩
theorem Own2.mono {w' : World} (h : Own2 base w v us zss) (hb : Below w.heap.size w w') : Own2 base w' v us zss :=
  h.kept (grownBy_of_below hb none) (by cases v.ownBlock <;> simp) (fun j _ => by cases (vat us j).ownBlock <;> simp)
theorem Own2.lower {base' : Nat} (h : Own2 base w v us zss) (hb : base' ≤ base) : Own2 base' w v us zss :=
  ⟨h.1.mono hb, h.2.1, h.2.2.1, fun j hj => (h.2.2.2.1 j hj).lower hb, h.2.2.2.2.1, h.2.2.2.2.2⟩
theorem Own2.rd (h : Own2 base w v us zss) : RdII w v zss := by
  have hl := h.len
  rcases h.1.2 with ⟨rfl, h0⟩ | ⟨g, cap, cur, rfl, hb, hg, hn, hcm, hcs, ht⟩
  · have h0' : zss.length = 0 := by omega
    exact ⟨none, 0, fun _ => .slice none 0 0, by rw [h0'], by omega, h.lim, fun j hj => by omega⟩
  · refine ⟨_, cap, vat us, by rw [hl], by omega, h.lim, fun j hj => ⟨⟨g, 0, rfl, ?_⟩, (h.own j hj).rd⟩⟩
    rw [Nat.zero_add]
    have h1 := h.1
    rw [h1.cellAt j (by omega), vat_get us j (by omega)]
/-- One more list. -/
theorem Own2.snoc {w' : World} {v' u : Value} {z : List Int} (h : Own2 base w v us zss) (hw : w'.ownsRow base 32 1 v' (us.length + 1) (us ++ [u])) (hg : w.grownBy w' v.ownBlock)
    (hv : v'.ownBlock = v.ownBlock ∨ v'.ownBlock = some w.heap.size) (O : OwnI base w u z) (hl : zss.length < 1048576) (p1 : Parted u v) (p2 : ∀ j, j < us.length → Parted u (vat us j)) : Own2 base w' v' (us ++ [u]) (zss ++ [z]) := by
  have hlen := h.len
  have old : ∀ x : Value, (∀ k, x.ownBlock = some k → k < w.heap.size) → Parted x v → Parted x v' := fun x hx hp b e1 e2 => by
    rcases hv with hv | hv
    · exact hp b e1 (by rw [← hv]; exact e2)
    · rw [hv] at e2; simp at e2; have := hx b e1; omega
  have hu : ∀ k, u.ownBlock = some k → k < w.heap.size := fun k hk => (O.own_lt k hk).2
  have huj : ∀ j, j < us.length → ∀ k, (vat us j).ownBlock = some k → k < w.heap.size := fun j hj k hk => ((h.2.2.2.1 j hj).own_lt k hk).2
  refine ⟨by simpa using hw, by simp [hlen], by simp; omega, fun j hj => ?_, fun j hj => ?_, fun i j hi hj hij => ?_⟩
  · simp at hj
    by_cases hx : j < us.length
    · rw [vat_left _ _ _ hx, rowAt_left _ _ _ (by omega)]
      exact (h.2.2.2.1 j hx).grown hg (h.2.2.2.2.1 j hx).ne
    · obtain rfl : j = us.length := by omega
      rw [vat_last, hlen, rowAt_last]
      exact O.grown hg p1.ne
  · simp at hj
    by_cases hx : j < us.length
    · rw [vat_left _ _ _ hx]; exact old _ (huj j hx) (h.2.2.2.2.1 j hx)
    · obtain rfl : j = us.length := by omega
      rw [vat_last]; exact old _ hu p1
  · simp at hi hj
    by_cases hx : i < us.length
    · by_cases hy : j < us.length
      · rw [vat_left _ _ _ hx, vat_left _ _ _ hy]; exact h.2.2.2.2.2 i j hx hy hij
      · obtain rfl : j = us.length := by omega
        rw [vat_last, vat_left _ _ _ hx]; exact (p2 i hx).symm
    · obtain rfl : i = us.length := by omega
      by_cases hy : j < us.length
      · rw [vat_last, vat_left _ _ _ hy]; exact p2 j hy
      · omega
/-- The list at a place is turned, and its slice is stored. -/
theorem Own2.put {w' : World} {g n cap : Nat} {u : Value} {z : List Int} (h : Own2 base w (.slice (some ⟨g, 0, none⟩) n cap) us zss) (j : Nat) (hj : j < zss.length) (hg : w.grownBy w' (vat us j).ownBlock)
    (O : OwnI base w' u z) (hu : u.ownBlock = (vat us j).ownBlock ∨ ∀ b, u.ownBlock = some b → w.heap.size ≤ b) :
    Own2 base (w'.setCell ⟨g, j, none⟩ u) (.slice (some ⟨g, 0, none⟩) n cap) (us.set j u) (zss.set j z) ∧ w'.grownBy (w'.setCell ⟨g, j, none⟩ u) (some g) := by
  have hl := h.len
  have hn := h.len'
  have hjl : j < us.length := by omega
  have h1 := h.1.kept hg ((h.2.2.2.2.1 j hjl).symm.ne)
  rw [hl, ← hn] at h1
  obtain ⟨h2, h3⟩ := h1.stored j u
  have hu' : ∀ x : Value, (∀ k, x.ownBlock = some k → k < w.heap.size) → Parted (vat us j) x → Parted u x := fun x hx hp b e1 e2 => by
    rcases hu with hu | hu
    · exact hp b (by rw [← hu]; exact e1) e2
    · have := hu b e1; have := hx b e2; omega
  have huj : ∀ i, i < us.length → ∀ k, (vat us i).ownBlock = some k → k < w.heap.size := fun i hi k hk => ((h.2.2.2.1 i hi).own_lt k hk).2
  have pg := hu' _ (fun k hk => (h.lt k hk).2) (h.2.2.2.2.1 j hjl)
  have h2' : (w'.setCell ⟨g, j, none⟩ u).ownsRow base 32 1 (.slice (some ⟨g, 0, none⟩) n cap) (us.set j u).length (us.set j u) := by
    rw [List.length_set, hl, ← hn]; exact h2
  refine ⟨⟨h2', by simp [hl], by simpa using h.lim, fun i hi => ?_, fun i hi => ?_, fun i k hi hk hik => ?_⟩, h3⟩
  · simp at hi
    rw [vat_set, rowAt_set, hl]
    by_cases hij : j = i
    · subst hij
      rw [if_pos ⟨rfl, by omega⟩, if_pos ⟨rfl, by omega⟩]
      exact O.grown h3 pg.ne
    · rw [if_neg (fun x => hij x.1), if_neg (fun x => hij x.1)]
      exact ((h.2.2.2.1 i hi).grown hg (h.2.2.2.2.2 i j hi hjl (fun e => hij e.symm)).ne).grown h3 (h.2.2.2.2.1 i hi).ne
  · simp at hi
    rw [vat_set]
    split
    · exact pg
    · exact h.2.2.2.2.1 i hi
  · simp at hi hk
    rw [vat_set, vat_set]
    by_cases h1 : j = i
    · subst h1
      rw [if_pos ⟨rfl, by omega⟩, if_neg (fun x => hik x.1)]
      exact hu' _ (huj k hk) (h.2.2.2.2.2 j k hi hk hik)
    · rw [if_neg (fun x => h1 x.1)]
      by_cases h2 : j = k
      · subst h2
        rw [if_pos ⟨rfl, by omega⟩]
        exact (hu' _ (huj i hi) (h.2.2.2.2.2 j i hk hi (fun e => hik e.symm))).symm
      · rw [if_neg (fun x => h2 x.1)]
        exact h.2.2.2.2.2 i k hi hk hik
theorem Own2.outer {w' : World} {g n cap : Nat} (h : Own2 base w (.slice (some ⟨g, 0, none⟩) n cap) us zss) (j : Nat) (hj : j < zss.length) (hg : w.grownBy w' (vat us j).ownBlock) :
    w'.cell? ⟨g, j, none⟩ = some (vat us j) ∧ w'.frozen? ⟨g, j, none⟩ = false ∧ g < w'.heap.size := by
  have hjl : j < us.length := by rw [h.len]; exact hj
  have hne : some g ≠ (vat us j).ownBlock := fun e => h.2.2.2.2.1 j hjl g e.symm rfl
  have hb := hg.block g h.glt.2 hne
  exact ⟨(World.cell?_of_block (a := ⟨g, j, none⟩) hb).trans (h.cell j hj), (World.frozen?_of_block (a := ⟨g, j, none⟩) hb).trans (h.free j), Nat.lt_of_lt_of_le h.glt.2 hg.size⟩
end
/-- Many more lists. -/
theorem Own2.app {base : Nat} {w w' : World} {v v' : Value} {us vs : List Value} {zss ys : List (List Int)} (h : Own2 base w v us zss) (hw : w'.ownsRow base 32 1 v' (us.length + vs.length) (us ++ vs)) (hg : w.grownBy w' v.ownBlock)
    (hv : v'.ownBlock = v.ownBlock ∨ v'.ownBlock = some w.heap.size) (hvl : vs.length = ys.length) (hO : ∀ j, j < vs.length → OwnI base w (vat vs j) (rowAt ys j)) (hl : zss.length + ys.length ≤ 1048576)
    (hpw : (us ++ vs).Pairwise Parted) (hpv : ∀ x ∈ vs, Parted x v) : Own2 base w' v' (us ++ vs) (zss ++ ys) := by
  have hlen := h.len
  have old : ∀ x : Value, (∀ k, x.ownBlock = some k → k < w.heap.size) → Parted x v → Parted x v' := fun x hx hp b e1 e2 => by
    rcases hv with hv | hv
    · exact hp b e1 (by rw [← hv]; exact e2)
    · rw [hv] at e2; simp at e2; have := hx b e1; omega
  have hmem : ∀ j, j < vs.length → vat vs j ∈ vs := fun j hj => by rw [← vat_at vs j hj]; exact List.getElem_mem hj
  have hR : ∀ j, us.length ≤ j → vat (us ++ vs) j = vat vs (j - us.length) := fun j hj => by simp [vat, List.getElem?_append_right hj]
  have hRr : ∀ j, zss.length ≤ j → rowAt (zss ++ ys) j = rowAt ys (j - zss.length) := fun j hj => by simp [rowAt, List.getElem?_append_right hj]
  refine ⟨by simpa using hw, by simp [hlen, hvl], by simp; omega, fun j hj => ?_, fun j hj => ?_, fun i j hi hj hij => ?_⟩
  · simp at hj
    by_cases hx : j < us.length
    · rw [vat_left _ _ _ hx, rowAt_left _ _ _ (by omega)]
      exact (h.2.2.2.1 j hx).grown hg (h.2.2.2.2.1 j hx).ne
    · rw [hR j (by omega), hRr j (by omega), ← hlen]
      exact (hO _ (by omega)).grown hg (hpv _ (hmem _ (by omega))).ne
  · simp at hj
    by_cases hx : j < us.length
    · rw [vat_left _ _ _ hx]; exact old _ (fun k hk => ((h.2.2.2.1 j hx).own_lt k hk).2) (h.2.2.2.2.1 j hx)
    · rw [hR j (by omega)]
      exact old _ (fun k hk => ((hO _ (by omega)).own_lt k hk).2) (hpv _ (hmem _ (by omega)))
  · have := List.pairwise_iff_getElem.1 hpw
    rw [← vat_at _ i hi, ← vat_at _ j hj]
    rcases Nat.lt_or_ge i j with hlt | hge
    · exact this i j hi hj hlt
    · exact (this j i hj hi (by omega)).symm
theorem Own2.pairwise {base : Nat} {w : World} {v : Value} {us : List Value} {zss : List (List Int)} (h : Own2 base w v us zss) : us.Pairwise Parted := by
  rw [List.pairwise_iff_getElem]
  intro i j hi hj hij
  rw [vat_at us i hi, vat_at us j hj]
  exact h.2.2.2.2.2 i j hi hj (by omega)
theorem Own2.lit1 {base : Nat} {w : World} {u : Value} {z : List Int} (hb : base ≤ w.heap.size) (O : OwnI base w u z) : Own2 base (w.alloc (.cells #[u] 32)) (.slice (some ⟨w.heap.size, 0, none⟩) 1 1) [u] [z] := by
  refine ⟨World.ownsRow_lit w #[u] 1 hb (by simp [maxLen]) rfl, rfl, by simp, fun j hj => ?_, fun j hj => ?_, fun i j hi hj hij => ?_⟩
  · obtain rfl : j = 0 := by simpa using hj
    exact O.mono (below_alloc _ _)
  · obtain rfl : j = 0 := by simpa using hj
    intro b e1 e2
    have := (O.own_lt b e1).2
    simp [Value.ownBlock] at e2; omega
  · simp at hi hj; omega
section
variable {base : Nat} {w : World} {us : List Value} {zss : List (List Int)}
theorem Own2.news_drop {g n cap : Nat} (h : Own2 base w (.slice (some ⟨g, 0, none⟩) n cap) us zss) (m : Nat) : ∀ j u, (us.drop m)[j]? = some u → w.cell? ((⟨g, m, none⟩ : Addr).add j) = some u := fun j u hu => by
  rw [Addr.add_lit]
  rw [List.getElem?_drop] at hu
  obtain ⟨hlt, he⟩ := List.getElem?_eq_some_iff.1 hu
  rw [h.cell (m + j) (by rw [← h.len]; exact hlt), ← vat_at us _ hlt, he]
theorem Own2.news_take {g n cap : Nat} (h : Own2 base w (.slice (some ⟨g, 0, none⟩) n cap) us zss) (m : Nat) : ∀ j u, (us.take m)[j]? = some u → w.cell? ((⟨g, 0, none⟩ : Addr).add j) = some u := fun j u hu => by
  rw [Addr.add_lit, Nat.zero_add]
  obtain ⟨hlt, he⟩ := List.getElem?_eq_some_iff.1 hu
  simp at hlt he
  rw [h.cell j (by rw [← h.len]; omega), ← vat_at us _ (by omega), he]
theorem Own2.news_all {g n cap : Nat} (h : Own2 base w (.slice (some ⟨g, 0, none⟩) n cap) us zss) : ∀ j u, us[j]? = some u → w.cell? ((⟨g, 0, none⟩ : Addr).add j) = some u := fun j u hu => by
  have := h.news_drop 0 j u
  rw [List.drop_zero] at this
  exact this hu
theorem vat_drop (us : List Value) (m j : Nat) : vat (us.drop m) j = vat us (m + j) := by simp [vat, List.getElem?_drop]
theorem rowAt_drop (zss : List (List Int)) (m j : Nat) : rowAt (zss.drop m) j = rowAt zss (m + j) := by simp [rowAt, List.getElem?_drop]
theorem vat_take (us : List Value) (m j : Nat) (h : j < m) : vat (us.take m) j = vat us j := by simp [vat, h]
theorem rowAt_take (zss : List (List Int)) (m j : Nat) (h : j < m) : rowAt (zss.take m) j = rowAt zss j := by simp [rowAt, h]
theorem Own2.own_drop {v : Value} (h : Own2 base w v us zss) (m : Nat) : ∀ j, j < (us.drop m).length → OwnI base w (vat (us.drop m) j) (rowAt (zss.drop m) j) := fun j hj => by
  rw [vat_drop, rowAt_drop]; simp at hj; exact h.2.2.2.1 _ (by omega)
theorem Own2.own_take {v : Value} (h : Own2 base w v us zss) (m : Nat) : ∀ j, j < (us.take m).length → OwnI base w (vat (us.take m) j) (rowAt (zss.take m) j) := fun j hj => by
  simp at hj; rw [vat_take _ _ _ (by omega), rowAt_take _ _ _ (by omega)]; exact h.2.2.2.1 _ (by omega)
theorem Own2.mem_lt {v : Value} (h : Own2 base w v us zss) : ∀ x ∈ us, ∀ b, x.ownBlock = some b → base ≤ b ∧ b < w.heap.size := fun x hx b hb => by
  obtain ⟨j, hj, rfl⟩ := List.getElem_of_mem hx
  rw [vat_at us j hj] at hb
  exact (h.2.2.2.1 j hj).own_lt b hb
theorem Own2.new_lit {v : Value} (h : Own2 base w v us zss) (B n c : Nat) (hB : w.heap.size ≤ B) : ∀ x ∈ us, Parted x (.slice (some ⟨B, 0, none⟩) n c) := fun x hx b e1 e2 => by
  have := (h.mem_lt x hx b e1).2
  simp [Value.ownBlock] at e2; omega
/-- One value of a block of its own among the values: they are parted still. -/
theorem pairwise_ins {us : List Value} {r : Value} (hp : us.Pairwise Parted) (hr : ∀ x ∈ us, Parted r x) (m : Nat) : (us.take m ++ (r :: us.drop m)).Pairwise Parted := by
  have hperm : (us.take m ++ (r :: us.drop m)).Perm (r :: us) := by
    have := @List.perm_middle _ r (us.take m) (us.drop m)
    rwa [List.take_append_drop] at this
  rw [hperm.pairwise_iff (fun {a b} hab => hab.symm), List.pairwise_cons]
  exact ⟨hr, hp⟩
end
/-! The laws of a walk. -/
section
variable {P : Program} {ops : Array Oper} {o : Oper} {a : Act} {W : World} {base : Nat} {v : Value}
theorem wp_app_where {K : Act → World → Prop} {Q : Exit → Act → World → Prop} (s x : Operand) (t : TypeId)
    (ho : o.op = .call { callee := .builtin .append, args := #[s, x], argTypes := #[t, t] }) (e : TypeId) (ht : P.underlying t = some (.slice e)) (z : Value) (bytes : Nat)
    (hinf : (P.info? e).map (fun i => (i.zero, i.size, i.bytes)) = some (some z, 1, bytes)) (hz1 : z.cells.size = 1)
    (hs : a.eval s = v) (n : Nat) (xs : List Value) (hown : W.ownsRow base e 1 v n xs) (ad : Addr) (c : Nat) (u : Value) (hx : a.eval x = .slice (some ad) 1 c) (hc : W.cell? ad = some u) (hu : u.oneCell' = true)
    (hl : n < 1048576) (hby : bytes ≤ 1000) (hb : base ≤ W.heap.size)
    (h : ∀ v' W1, W1.ownsRow base e 1 v' (n + 1) (xs ++ [u]) → W.grownBy W1 v.ownBlock → (v'.ownBlock = v.ownBlock ∨ v'.ownBlock = some W.heap.size) → K (a.put o.dst v') W1) : Oper.wp P o a W K Q := by
  obtain ⟨i0, hi, hz0, hz1', hz2⟩ := info_parts hinf
  have hb2 : (n + 1) * bytes ≤ 140737488355328 := Nat.le_trans (Nat.mul_le_mul (show n + 1 ≤ 1048576 by omega) hby) (by decide)
  obtain ⟨v', W1, hr, h2, h3, h4⟩ := run_append_where (P := P) W base t o.type e i0 z 1 bytes ht hi hz0 hz1' hz2 hz1 (by decide) v n xs hown ad 1 c [u] rfl (by
    intro j y hy
    match j, hy with
    | 0, hy => simp at hy; subst hy; simpa [Addr.add] using hc) (by intro y hy; simp at hy; subst hy; exact hu) (by unfold maxLen; omega) hb2 hb
  unfold Oper.wp execOp
  simp only [ho, resolve, invoke, builtin, Sem.run_bind, Sem.run_pure, Result.andThen_ok, List.map_toArray, List.map_cons, List.map_nil, hs, hx, hr]
  exact h v' W1 h2 h3 h4
theorem wpl_app_where {rest : List Oper} {Q : Exit → Act → World → Prop} (hgd : o.guard = none) (s x : Operand) (t : TypeId)
    (ho : o.op = .call { callee := .builtin .append, args := #[s, x], argTypes := #[t, t] }) (e : TypeId) (ht : P.underlying t = some (.slice e)) (z : Value) (bytes : Nat)
    (hinf : (P.info? e).map (fun i => (i.zero, i.size, i.bytes)) = some (some z, 1, bytes)) (hz1 : z.cells.size = 1)
    (hs : a.eval s = v) (n : Nat) (xs : List Value) (hown : W.ownsRow base e 1 v n xs) (ad : Addr) (c : Nat) (u : Value) (hx : a.eval x = .slice (some ad) 1 c) (hc : W.cell? ad = some u) (hu : u.oneCell' = true)
    (hl : n < 1048576) (hby : bytes ≤ 1000) (hb : base ≤ W.heap.size)
    (h : ∀ v' W1, W1.ownsRow base e 1 v' (n + 1) (xs ++ [u]) → W.grownBy W1 v.ownBlock → (v'.ownBlock = v.ownBlock ∨ v'.ownBlock = some W.heap.size) → wpList P ops Q rest (a.put o.dst v') W1) : wpList P ops Q (o :: rest) a W :=
  wpList_plain hgd fun _ hK => wp_app_where s x t ho e ht z bytes hinf hz1 hs n xs hown ad c u hx hc hu hl hby hb fun v' w' h1 h2 h3 => hK _ _ (h v' w' h1 h2 h3)
/-- A number appended to an own list, told where it lies. -/
theorem wpl_appW {rest : List Oper} {Q : Exit → Act → World → Prop} {zs : List Int} (hgd : o.guard = none) (s x : Operand) (t : TypeId)
    (ho : o.op = .call { callee := .builtin .append, args := #[s, x], argTypes := #[t, t] }) (ht : P.underlying t = some (.slice 2))
    (hinf : (P.info? 2).map (fun i => (i.zero, i.size, i.bytes)) = some (some (.int .i64 0), 1, 8))
    (hs : a.eval s = v) (O : OwnI base W v zs) (ad : Addr) (c : Nat) (y : Int) (hx : a.eval x = .slice (some ad) 1 c) (hc : W.cell? ad = some (.int .i64 y)) (hl : zs.length < 1048576) (hb : base ≤ W.heap.size)
    (h : ∀ v' W1, OwnI base W1 v' (zs ++ [y]) → W.grownBy W1 v.ownBlock → Below base W W1 → (v'.ownBlock = v.ownBlock ∨ v'.ownBlock = some W.heap.size) → wpList P ops Q rest (a.put o.dst v') W1) : wpList P ops Q (o :: rest) a W :=
  wpl_app_where hgd s x t ho 2 ht (.int .i64 0) 8 hinf rfl hs zs.length _ O.1 ad c (.int .i64 y) hx hc rfl hl (by decide) hb fun v' W1 h1 h2 h3 =>
    have R := app_next O rfl hl hb h1 h2
    h v' W1 R.1 h2 R.2 h3
theorem step_appW {K : Act → World → Prop} {Q : Exit → Act → World → Prop} {E : Prop} {zs : List Int} (hgd : o.guard = none) (s x : Operand) (t : TypeId)
    (ho : o.op = .call { callee := .builtin .append, args := #[s, x], argTypes := #[t, t] }) (ht : P.underlying t = some (.slice 2))
    (hinf : (P.info? 2).map (fun i => (i.zero, i.size, i.bytes)) = some (some (.int .i64 0), 1, 8))
    (hs : a.eval s = v) (O : OwnI base W v zs) (ad : Addr) (c : Nat) (y : Int) (hx : a.eval x = .slice (some ad) 1 c) (hc : W.cell? ad = some (.int .i64 y)) (hl : zs.length < 1048576) (hb : base ≤ W.heap.size)
    (h : ∀ v' W1, OwnI base W1 v' (zs ++ [y]) → W.grownBy W1 v.ownBlock → Below base W W1 → (v'.ownBlock = v.ownBlock ∨ v'.ownBlock = some W.heap.size) → K (a.put o.dst v') W1) :
    if Region.wanted o (yielded ops a.tmps) = true then Oper.wp P o a W K Q else E := by
  have hw : Region.wanted o (yielded ops a.tmps) = true := by simp [Region.wanted, hgd]
  rw [if_pos hw]
  exact wp_app_where s x t ho 2 ht (.int .i64 0) 8 hinf rfl hs zs.length _ O.1 ad c (.int .i64 y) hx hc rfl hl (by decide) hb fun v' W1 h1 h2 h3 =>
    have R := app_next O rfl hl hb h1 h2
    h v' W1 R.1 h2 R.2 h3
/-- A list appended to an own list of lists. -/
theorem wpl_app2 {rest : List Oper} {Q : Exit → Act → World → Prop} {us : List Value} {zss : List (List Int)} (hgd : o.guard = none) (s x : Operand) (t : TypeId)
    (ho : o.op = .call { callee := .builtin .append, args := #[s, x], argTypes := #[t, t] }) (ht : P.underlying t = some (.slice 32))
    (hinf : (P.info? 32).map (fun i => (i.zero, i.size, i.bytes)) = some (some (.slice none 0 0), 1, 24))
    (hs : a.eval s = v) (O : Own2 base W v us zss) (ad : Addr) (c : Nat) (u : Value) (z : List Int) (hx : a.eval x = .slice (some ad) 1 c) (hc : W.cell? ad = some u) (O1 : OwnI base W u z) (p1 : Parted u v) (p2 : ∀ j, j < us.length → Parted u (vat us j))
    (hl : zss.length < 1048576) (hb : base ≤ W.heap.size)
    (h : ∀ v' W1, Own2 base W1 v' (us ++ [u]) (zss ++ [z]) → W.grownBy W1 v.ownBlock → Below base W W1 → (v'.ownBlock = v.ownBlock ∨ v'.ownBlock = some W.heap.size) → wpList P ops Q rest (a.put o.dst v') W1) : wpList P ops Q (o :: rest) a W := by
  obtain ⟨ao', cap', hf⟩ := O1.form
  exact wpl_app_where hgd s x t ho 32 ht (.slice none 0 0) 24 hinf rfl hs us.length us O.1 ad c u hx hc (by rw [hf]; rfl) (by have := O.len; omega) (by decide) hb fun v' W1 h1 h2 h3 =>
    h v' W1 (O.snoc h1 h2 h3 O1 hl p1 p2) h2 ((Below.refl _ _).grown h2 hb (fun k hk => (O.lt k hk).1)) h3
theorem step_app2 {K : Act → World → Prop} {Q : Exit → Act → World → Prop} {E : Prop} {us : List Value} {zss : List (List Int)} (hgd : o.guard = none) (s x : Operand) (t : TypeId)
    (ho : o.op = .call { callee := .builtin .append, args := #[s, x], argTypes := #[t, t] }) (ht : P.underlying t = some (.slice 32))
    (hinf : (P.info? 32).map (fun i => (i.zero, i.size, i.bytes)) = some (some (.slice none 0 0), 1, 24))
    (hs : a.eval s = v) (O : Own2 base W v us zss) (ad : Addr) (c : Nat) (u : Value) (z : List Int) (hx : a.eval x = .slice (some ad) 1 c) (hc : W.cell? ad = some u) (O1 : OwnI base W u z) (p1 : Parted u v) (p2 : ∀ j, j < us.length → Parted u (vat us j))
    (hl : zss.length < 1048576) (hb : base ≤ W.heap.size)
    (h : ∀ v' W1, Own2 base W1 v' (us ++ [u]) (zss ++ [z]) → W.grownBy W1 v.ownBlock → Below base W W1 → (v'.ownBlock = v.ownBlock ∨ v'.ownBlock = some W.heap.size) → K (a.put o.dst v') W1) :
    if Region.wanted o (yielded ops a.tmps) = true then Oper.wp P o a W K Q else E := by
  have hw : Region.wanted o (yielded ops a.tmps) = true := by simp [Region.wanted, hgd]
  rw [if_pos hw]
  obtain ⟨ao', cap', hf⟩ := O1.form
  exact wp_app_where s x t ho 32 ht (.slice none 0 0) 24 hinf rfl hs us.length us O.1 ad c u hx hc (by rw [hf]; rfl) (by have := O.len; omega) (by decide) hb fun v' W1 h1 h2 h3 =>
    h v' W1 (O.snoc h1 h2 h3 O1 hl p1 p2) h2 ((Below.refl _ _).grown h2 hb (fun k hk => (O.lt k hk).1)) h3
end
section
variable {P : Program} {ops : Array Oper} {o : Oper} {a : Act} {W : World} {base : Nat} {v : Value}
/-- Lists appended to an own list of lists. -/
theorem wpl_appN {rest : List Oper} {Q : Exit → Act → World → Prop} {us vs : List Value} {zss ys : List (List Int)} (hgd : o.guard = none) (s x : Operand) (t : TypeId)
    (ho : o.op = .call { callee := .builtin .append, args := #[s, x], argTypes := #[t, t] }) (ht : P.underlying t = some (.slice 32))
    (hinf : (P.info? 32).map (fun i => (i.zero, i.size, i.bytes)) = some (some (.slice none 0 0), 1, 24))
    (hs : a.eval s = v) (O : Own2 base W v us zss) (ad : Addr) (m c : Nat) (hx : a.eval x = .slice (some ad) m c) (hm : vs.length = m) (hnews : ∀ j u, vs[j]? = some u → W.cell? (ad.add j) = some u)
    (hvl : vs.length = ys.length) (hO : ∀ j, j < vs.length → OwnI base W (vat vs j) (rowAt ys j)) (hpw : (us ++ vs).Pairwise Parted) (hpv : ∀ x ∈ vs, Parted x v)
    (hl : zss.length + ys.length ≤ 1048576) (hb : base ≤ W.heap.size)
    (h : ∀ v' W1, Own2 base W1 v' (us ++ vs) (zss ++ ys) → W.grownBy W1 v.ownBlock → Below base W W1 → (v'.ownBlock = v.ownBlock ∨ v'.ownBlock = some W.heap.size) → wpList P ops Q rest (a.put o.dst v') W1) : wpList P ops Q (o :: rest) a W := by
  refine wpList_plain hgd fun _ hK => ?_
  obtain ⟨i0, hi, hz0, hz1', hz2⟩ := info_parts hinf
  have hlen := O.len
  have hone : ∀ u ∈ vs, u.oneCell' = true := fun u hu => by
    obtain ⟨j, hj, rfl⟩ := List.getElem_of_mem hu
    rw [vat_at vs j hj]
    obtain ⟨ao', cap', hf⟩ := (hO j hj).form
    rw [hf]; rfl
  obtain ⟨v', W1, hr, h2, h3, h4⟩ := run_append_where (P := P) W base t o.type 32 i0 (.slice none 0 0) 1 24 ht hi hz0 hz1' hz2 rfl (by decide) v us.length us O.1 ad m c vs (by rw [hm, Nat.mul_one]) hnews hone (by unfold maxLen; omega) (by omega) hb
  unfold Oper.wp execOp
  simp only [ho, resolve, invoke, builtin, Sem.run_bind, Sem.run_pure, Result.andThen_ok, List.map_toArray, List.map_cons, List.map_nil, hs, hx, hr]
  rw [← hm] at h2
  exact hK _ _ (h v' W1 (O.app h2 h3 h4 hvl hO hl hpw hpv) h3 ((Below.refl _ _).grown h3 hb (fun k hk => (O.lt k hk).1)) h4)
theorem step_appN {K : Act → World → Prop} {Q : Exit → Act → World → Prop} {E : Prop} {us vs : List Value} {zss ys : List (List Int)} (hgd : o.guard = none) (s x : Operand) (t : TypeId)
    (ho : o.op = .call { callee := .builtin .append, args := #[s, x], argTypes := #[t, t] }) (ht : P.underlying t = some (.slice 32))
    (hinf : (P.info? 32).map (fun i => (i.zero, i.size, i.bytes)) = some (some (.slice none 0 0), 1, 24))
    (hs : a.eval s = v) (O : Own2 base W v us zss) (ad : Addr) (m c : Nat) (hx : a.eval x = .slice (some ad) m c) (hm : vs.length = m) (hnews : ∀ j u, vs[j]? = some u → W.cell? (ad.add j) = some u)
    (hvl : vs.length = ys.length) (hO : ∀ j, j < vs.length → OwnI base W (vat vs j) (rowAt ys j)) (hpw : (us ++ vs).Pairwise Parted) (hpv : ∀ x ∈ vs, Parted x v)
    (hl : zss.length + ys.length ≤ 1048576) (hb : base ≤ W.heap.size)
    (h : ∀ v' W1, Own2 base W1 v' (us ++ vs) (zss ++ ys) → W.grownBy W1 v.ownBlock → Below base W W1 → (v'.ownBlock = v.ownBlock ∨ v'.ownBlock = some W.heap.size) → K (a.put o.dst v') W1) :
    if Region.wanted o (yielded ops a.tmps) = true then Oper.wp P o a W K Q else E := by
  have hw : Region.wanted o (yielded ops a.tmps) = true := by simp [Region.wanted, hgd]
  rw [if_pos hw]
  obtain ⟨i0, hi, hz0, hz1', hz2⟩ := info_parts hinf
  have hlen := O.len
  have hone : ∀ u ∈ vs, u.oneCell' = true := fun u hu => by
    obtain ⟨j, hj, rfl⟩ := List.getElem_of_mem hu
    rw [vat_at vs j hj]
    obtain ⟨ao', cap', hf⟩ := (hO j hj).form
    rw [hf]; rfl
  obtain ⟨v', W1, hr, h2, h3, h4⟩ := run_append_where (P := P) W base t o.type 32 i0 (.slice none 0 0) 1 24 ht hi hz0 hz1' hz2 rfl (by decide) v us.length us O.1 ad m c vs (by rw [hm, Nat.mul_one]) hnews hone (by unfold maxLen; omega) (by omega) hb
  unfold Oper.wp execOp
  simp only [ho, resolve, invoke, builtin, Sem.run_bind, Sem.run_pure, Result.andThen_ok, List.map_toArray, List.map_cons, List.map_nil, hs, hx, hr]
  rw [← hm] at h2
  exact (h v' W1 (O.app h2 h3 h4 hvl hO hl hpw hpv) h3 ((Below.refl _ _).grown h3 hb (fun k hk => (O.lt k hk).1)) h4)
end
theorem app_lit1 (w : World) (base : Nat) (x : Int) (hb : base ≤ w.heap.size) : OwnI base (w.alloc (.cells #[.int .i64 x] 2)) (.slice (some ⟨w.heap.size, 0, none⟩) 1 1) [x] :=
  OwnI.mk (World.ownsRow_lit w #[.int .i64 x] 1 hb (by simp [maxLen]) rfl) rfl (by simp)
theorem RdI.grown {w w' : World} {v : Value} {zs : List Int} {row : Option Nat} (h : RdI w v zs) (hg : w.grownBy w' row) (hne : v.ownBlock = none ∨ v.ownBlock ≠ row) : RdI w' v zs := by
  obtain ⟨ao, cap, h1, h2, h2', h3⟩ := h
  refine ⟨ao, cap, h1, h2, h2', fun j hj => ?_⟩
  obtain ⟨b, off, e1, e2⟩ := h3 j hj
  refine ⟨b, off, e1, hg.cell e2 ?_⟩
  rw [h1, e1] at hne
  simpa [Value.ownBlock] using hne
theorem parted_nil (v : Value) : Parted (.slice none 0 0) v := fun b h _ => by simp [Value.ownBlock] at h
/-- A value of blocks from B on and one of blocks below B. -/
theorem parted_lt {u v : Value} (B : Nat) (hu : ∀ b, u.ownBlock = some b → B ≤ b) (hv : ∀ b, v.ownBlock = some b → b < B) : Parted u v := fun b h1 h2 => by
  have := hu b h1; have := hv b h2; omega
end Go.Proofs.Ytmhcpaffdchboaa
