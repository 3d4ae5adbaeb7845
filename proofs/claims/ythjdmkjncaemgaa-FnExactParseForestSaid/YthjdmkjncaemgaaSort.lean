/-
  The library's sort of an own list of lists.
-/
import Derived.Test.YthjdmkjncaemgaaSortLay
import Derived.Test.YthjdmkjncaemgaaMem2
import Derived.Test.YthjdmkjncaemgaaTreeC
namespace Go.Proofs.Ythjdmkjncaemgaa
open Go.RowKit Go.Shelf Go.Sort
set_option maxRecDepth 100000
/-- An own list that lies beside v. -/
def SRow (base : Nat) (w : World) (v : Value) : Type := {p : Value × List Int // OwnI base w p.1 p.2 ∧ Parted p.1 v}
instance (base : Nat) (w : World) (v : Value) : Inhabited (SRow base w v) := ⟨⟨(.slice none 0 0, []), OwnI.nil _ _, parted_nil _⟩⟩
def sEnc {base : Nat} {w : World} {v : Value} (x : SRow base w v) : Value := x.1.1
def sLst {base : Nat} {w : World} {v : Value} (x : SRow base w v) : List Int := x.1.2
theorem sEnc_one {base : Nat} {w : World} {v : Value} : OneCell (sEnc (base := base) (w := w) (v := v)) := fun x => by
  obtain ⟨ao, cap, e⟩ := x.2.1.form
  unfold sEnc; rw [e]; rfl
theorem heap_putRow {α : Type} [Inhabited α] (enc : α → Value) (w : World) (g n : Nat) (d : Array α) {cur : Array Value} {e : TypeId} {fr : Nat × Nat} (hb : w.heap[g]? = some (.cells cur e fr)) :
    ((putRow enc w g 0 d).drewN n).heap[g]? = some (.cells (putCells enc 0 d cur) e fr) := by
  show (putRow enc w g 0 d).heap[g]? = _
  simp [putRow, mapBlock, Array.getElem?_modify, hb, onCells]
theorem grownBy_putRow {α : Type} [Inhabited α] (enc : α → Value) (w : World) (g n : Nat) (d : Array α) : w.grownBy ((putRow enc w g 0 d).drewN n) (some g) := by
  refine ⟨rfl, rfl, rfl, by show w.heap.size ≤ (putRow enc w g 0 d).heap.size; simp, fun k hk hne => ?_⟩
  show (putRow enc w g 0 d).heap[k]? = _
  have : g ≠ k := fun e => hne (by rw [e])
  simp [putRow, mapBlock, Array.getElem?_modify, this]
theorem take_putCells' {α : Type} [Inhabited α] (enc : α → Value) (cur : Array Value) (d : Array α) (h : d.size ≤ cur.size) : (putCells enc 0 d cur).toList.take d.size = d.toList.map enc := by
  apply List.ext_getElem?
  intro j
  by_cases hj : j < d.size
  · rw [List.getElem?_take_of_lt hj, Array.getElem?_toList]
    simp [putCells, hj, show j < cur.size by omega]
  · rw [List.getElem?_take_eq_none (by omega), List.getElem?_eq_none (by simp; omega)]
theorem extract_all {α : Type} (d : Array α) (n : Nat) (h : d.size = n) : d.extract 0 n = d := by subst h; simp
/-- The rows of an own list of lists. -/
def rowsOf {base : Nat} {w : World} {v : Value} {us : List Value} {zss : List (List Int)} (h : Own2 base w v us zss) : Array (SRow base w v) :=
  Array.ofFn (n := zss.length) fun j => ⟨(vat us j, rowAt zss j), h.own j j.2, h.2.2.2.2.1 j (by rw [h.len]; exact j.2)⟩
section
variable {base : Nat} {w : World} {v : Value} {us : List Value} {zss : List (List Int)}
theorem rowsOf_size (h : Own2 base w v us zss) : (rowsOf h).size = zss.length := Array.size_ofFn
theorem rowsOf_get (h : Own2 base w v us zss) (j : Nat) (hj : j < zss.length) : (rowsOf h)[j]'(by rw [rowsOf_size]; exact hj) = ⟨(vat us j, rowAt zss j), h.own j hj, h.2.2.2.2.1 j (by rw [h.len]; exact hj)⟩ := Array.getElem_ofFn ..
theorem rowsOf_enc (h : Own2 base w v us zss) : (rowsOf h).toList.map sEnc = us := by
  apply List.ext_getElem
  · simp [rowsOf_size, h.len]
  · intro j h1 h2
    rw [List.getElem_map, Array.getElem_toList, rowsOf_get h j (by rw [← h.len]; exact h2), vat_at us j h2]; rfl
theorem rowsOf_lst (h : Own2 base w v us zss) : (rowsOf h).toList.map sLst = zss := by
  apply List.ext_getElem
  · simp [rowsOf_size]
  · intro j h1 h2
    rw [List.getElem_map, Array.getElem_toList, rowsOf_get h j h2, rowAt_at zss j h2]; rfl
theorem pairwise_vat (h : Own2 base w v us zss) : us.Pairwise Parted := by
  rw [List.pairwise_iff_getElem]
  intro i j hi hj hij
  rw [vat_at us i hi, vat_at us j hj]
  exact h.2.2.2.2.2 i j hi hj (by omega)
/-- What a permutation of the rows owns. -/
theorem own2_perm {g cap : Nat} (h : Own2 base w (.slice (some ⟨g, 0, none⟩) zss.length cap) us zss) (d : Array (SRow base w (.slice (some ⟨g, 0, none⟩) zss.length cap))) (hp : d.toList.Perm (rowsOf h).toList) (n : Nat) :
    Own2 base ((putRow sEnc w g 0 d).drewN n) (.slice (some ⟨g, 0, none⟩) zss.length cap) (d.toList.map sEnc) (d.toList.map sLst) := by
  have hs : d.size = zss.length := by have := hp.length_eq; simpa [rowsOf_size] using this
  have hlim := h.lim
  have hl := h.len
  have hgr := grownBy_putRow sEnc w g n d
  have hpu : (d.toList.map sEnc).Perm us := by have := hp.map sEnc; rwa [rowsOf_enc] at this
  have hpw : (d.toList.map sEnc).Pairwise Parted := (hpu.pairwise_iff (fun {a b} hab => hab.symm)).2 (pairwise_vat h)
  have hat : ∀ j (hj : j < d.size), vat (d.toList.map sEnc) j = sEnc d[j] ∧ rowAt (d.toList.map sLst) j = sLst d[j] := fun j hj => by simp [vat, rowAt, hj]
  refine ⟨⟨by simp, ?_⟩, by simp, by simp [hs]; exact hlim, fun j hj => ?_, fun j hj => ?_, fun i j hi hj hij => ?_⟩
  · rcases h.1.2 with ⟨e, _⟩ | ⟨g', cap', cur, e, hb, hg, hn, hcm, hcs, ht⟩
    · simp at e
    · simp only [Value.slice.injEq, Option.some.injEq, Addr.mk.injEq] at e
      obtain ⟨⟨rfl, _⟩, _, rfl⟩ := e
      refine .inr ⟨g, cap, _, by simp [hs], hb, heap_putRow sEnc w g n d hg, by simp; omega, hcm, by simp [putCells, hcs], ?_⟩
      rw [Nat.mul_one]
      have := take_putCells' sEnc cur d (by omega)
      simpa using this
  · simp at hj
    rw [(hat j hj).1, (hat j hj).2]
    exact d[j].2.1.grown hgr d[j].2.2.ne
  · simp at hj
    rw [(hat j hj).1]
    exact d[j].2.2
  · simp at hi hj
    have := List.pairwise_iff_getElem.1 hpw
    rw [← vat_at _ i (by simpa using hi), ← vat_at _ j (by simpa using hj)]
    rcases Nat.lt_or_ge i j with hlt | hge
    · exact this i j (by simpa using hi) (by simpa using hj) hlt
    · exact (this j i (by simpa using hj) (by simpa using hi) (by omega)).symm
end
section
variable (gf : Nat) (cf : List Int → List Int → Int) (R : List Int → List Int → Bool) (hR : ∀ x y, decide (cf x y < 0) = R x y)
  (ha : ∀ x y, R x y = true → R y x = false) (hn : ∀ x y z, R x y = false → R y z = false → R x z = false) (ht : ∀ x y, R x y = false → R y x = false → x = y)
  (eg : ∀ args w, (callFunc gf args).run Try.prog w = .ok (.enter gf args) w)
  (hc : ∀ v u xs ys W, RdI W v xs → RdI W u ys → Calls Try.prog gf #[v, u] W fun e w' => e = .returned (.int .i64 (cf xs ys)) ∧ W = w')
include hR ha hn ht eg hc
theorem insertionSort_own (base g cap : Nat) (us : List Value) (zss : List (List Int)) (w : World) (h : Own2 base w (.slice (some ⟨g, 0, none⟩) zss.length cap) us zss) :
    Calls Try.prog 68 #[.slice (some ⟨g, 0, none⟩) zss.length cap, .int .i64 0, .int .i64 (zss.length : Nat), .func (.func gf) #[] #[]] w fun e w' =>
      e = .returned (.tuple #[]) ∧ ∃ us', Own2 base w' (.slice (some ⟨g, 0, none⟩) zss.length cap) us' (sortR R zss) ∧ w.grownBy w' (some g) := by
  have hd := rowsOf_size h
  have hlim := h.lim
  have hH : Holds sEnc w g 0 (rowsOf h) := fun j hj => by
    rw [hd] at hj
    rw [Nat.zero_add, h.cell j hj, h.free j]
    refine ⟨?_, rfl⟩
    rw [getElem!_pos _ j (by rw [hd]; exact hj), rowsOf_get h j hj]; rfl
  have hcmp : CmpReads Try.prog gf #[] sEnc (fun x y : SRow base w (.slice (some ⟨g, 0, none⟩) zss.length cap) => cf (sLst x) (sLst y)) g 0 (rowsOf h).size w := fun m os dk hdk x y => by
    have hgl := h.glt.2
    have rd : ∀ x : SRow base w (.slice (some ⟨g, 0, none⟩) zss.length cap), RdI (sortWorld sEnc w g 0 m dk os) (sEnc x) (sLst x) := fun x => by
      obtain ⟨ao, c, e1, e2, e3, e4⟩ := x.2.1.rd
      refine ⟨ao, c, e1, e2, e3, fun j hj => ?_⟩
      obtain ⟨b, off, f1, f2⟩ := e4 j hj
      refine ⟨b, off, f1, ?_⟩
      have hb := World.block_lt_of_cell? w _ f2
      have hne : b ≠ g := fun e => x.2.2 b (by rw [e1, f1]; rfl) (by rw [e]; rfl)
      unfold sortWorld
      rw [cell?_grow _ _ _ (by simpa using hb), cell?_putRow_other _ _ _ _ _ _ (.inl hne)]
      exact f2
    have hc' := hc (sEnc x) (sEnc y) (sLst x) (sLst y) (sortWorld sEnc w g 0 m dk os) (rd x) (rd y)
    rw [Array.append_empty]
    exact hc'.mono fun e w' ⟨he, hw⟩ => ⟨he, 0, by rw [← hw]; rfl⟩
  have hcon := Any.insertionSortCmpFunc_one sortLay sEnc sEnc_one (fun x y : SRow base w (.slice (some ⟨g, 0, none⟩) zss.length cap) => cf (sLst x) (sLst y)) gf #[] g 0 cap 0 zss.length (rowsOf h) w eg hcmp hH (Nat.zero_le _) (by omega) (by omega)
  rw [hd] at hcon
  refine hcon.mono fun e w' ⟨he, n, hw⟩ => ⟨he, ?_⟩
  have hS : SWO (ltOf fun x y : SRow base w (.slice (some ⟨g, 0, none⟩) zss.length cap) => cf (sLst x) (sLst y)) := by
    refine ⟨fun x => ?_, fun x y z => ?_, fun x y z => ?_⟩
    · simp only [ltOf, hR]
      cases e : R (sLst x) (sLst x) with
      | false => rfl
      | true => have := ha _ _ e; rw [e] at this; cases this
    · simp only [ltOf, hR]
      intro h1 h2
      cases e : R (sLst x) (sLst z) with
      | true => rfl
      | false => have := hn _ _ _ (ha _ _ h1) e; rw [h2] at this; cases this
    · simp only [ltOf, hR]
      exact hn _ _ _
  obtain ⟨hp, hsrt⟩ := insertionSort_holds hS (rowsOf h) 0 zss.length (Nat.zero_le _) (by omega)
  obtain ⟨d, hdd⟩ : ∃ d, d = Sort.insertionSort (ltOf fun x y : SRow base w (.slice (some ⟨g, 0, none⟩) zss.length cap) => cf (sLst x) (sLst y)) (rowsOf h) 0 zss.length := ⟨_, rfl⟩
  rw [← hdd] at hp hsrt hw
  have hds : d.size = zss.length := by rw [hp.1, hd]
  have hperm : d.toList.Perm (rowsOf h).toList := by
    have := hp.2.2
    rwa [extract_all d _ hds, extract_all (rowsOf h) _ hd] at this
  refine ⟨d.toList.map sEnc, ?_, by rw [hw]; exact grownBy_putRow sEnc w g n d⟩
  have hO := own2_perm h d hperm n
  rw [hw]
  have hfin : d.toList.map sLst = sortR R zss := by
    refine sortR_unique R ha hn ht zss _ ?_ ?_
    · have := hperm.map sLst; rwa [rowsOf_lst] at this
    · rw [List.pairwise_iff_getElem]
      intro i j hi hj hij
      simp only [List.length_map, Array.length_toList] at hi hj
      have := hsrt i j (Nat.zero_le _) hij (by omega)
      rw [getElem!_pos d j hj, getElem!_pos d i hi] at this
      simp only [ltOf, hR] at this
      simpa using this
  rw [hfin] at hO
  exact hO
end
end Go.Proofs.Ythjdmkjncaemgaa
