/-
  The walk of a matrix without its first row and a column.
-/
import Derived.Test.YtmhcpaffdchboaaMatImp
namespace Go.Proofs.Ytmhcpaffdchboaa
open Go.RowKit
set_option maxRecDepth 100000
/-- A list at an address, empty too, appended to an own slice. -/
theorem wpl_appAt {P : Program} {ops : Array Oper} {o : Oper} {a : Act} {W : World} {base : Nat} {v : Value} {zs ys : List Int} {rest : List Oper} {Q : Exit → Act → World → Prop} (hgd : o.guard = none) (s x : Operand) (t : TypeId)
    (ho : o.op = .call { callee := .builtin .append, args := #[s, x], argTypes := #[t, t] }) (ht : P.underlying t = some (.slice 2))
    (hinf : (P.info? 2).map (fun i => (i.zero, i.size, i.bytes)) = some (some (.int .i64 0), 1, 8))
    (hs : a.eval s = v) (O : OwnI base W v zs) (b off n c : Nat) (hx : a.eval x = .slice (some ⟨b, off, none⟩) n c) (R : RdI W (.slice (some ⟨b, off, none⟩) n c) ys) (hl : zs.length + ys.length ≤ 1048576) (hb : base ≤ W.heap.size)
    (h : ∀ v' W1, OwnI base W1 v' (zs ++ ys) → W.grownBy W1 v.ownBlock → Below base W W1 → wpList P ops Q rest (a.put o.dst v') W1) : wpList P ops Q (o :: rest) a W := by
  obtain ⟨i0, hi, hz0, hz1, hz2⟩ := info_parts hinf
  have hn := R.len
  subst hn
  refine wpList_append_own _ hgd s x t ho base 2 i0 (.int .i64 0) 1 8 ht hi hz0 hz1 hz2 rfl (by decide) v zs.length _ hs O.1 ⟨b, off, none⟩ ys.length c (ys.map (Value.int .i64)) hx (by simp) ?_ (ints_oneCell _ _) ?_ ?_ hb ?_
  · intro j u hu
    have hj : j < ys.length := by
      rcases Nat.lt_or_ge j ys.length with h | h
      · exact h
      · rw [List.getElem?_eq_none (by simpa using h)] at hu; cases hu
    obtain ⟨b', off', e, hc⟩ := R.at_ hj
    simp only [Option.some.injEq, Addr.mk.injEq] at e
    obtain ⟨rfl, rfl, _⟩ := e
    rw [Addr_add_lit, hc]
    rw [← hu, List.getElem?_map, List.getElem?_eq_getElem hj, ← el_at ys j hj]; rfl
  · unfold maxLen; omega
  · omega
  · intro v' W1 h1 h2 _
    exact h v' W1 (OwnI.mk h1 (by simp) (by simp; omega)) h2 ((Below.refl _ _).grown h2 hb (fun k hk => (O.own_lt k hk).1))
theorem RdI.pre {w : World} {b off n cap : Nat} {f : PS} (h : RdI w (.slice (some ⟨b, off, none⟩) n cap) (lst n f)) (k : Nat) (hk : k ≤ n) : RdI w (.slice (some ⟨b, off, none⟩) k cap) (lst k f) := by
  obtain ⟨_, _, _, h1, h2, -⟩ := id h
  obtain ⟨ao, cap', e, h1, h2⟩ := h.formL
  simp only [Value.slice.injEq] at e
  obtain ⟨rfl, -, rfl⟩ := e
  refine ⟨_, cap, by rw [lst_length], by rw [lst_length]; omega, by rw [lst_length]; omega, fun j hj => ⟨b, off, rfl, ?_⟩⟩
  rw [lst_length] at hj
  obtain ⟨b', off', e, hc⟩ := h.at_ (k := j) (by rw [lst_length]; omega)
  simp only [Option.some.injEq, Addr.mk.injEq] at e
  obtain ⟨rfl, rfl, _⟩ := e
  rw [hc, lst_el _ _ _ hj, lst_el _ _ _ (by omega)]
theorem RdI.suf {w : World} {b off n cap : Nat} {f : PS} (h : RdI w (.slice (some ⟨b, off, none⟩) n cap) (lst n f)) (k : Nat) (hk : k ≤ n) : RdI w (.slice (some ⟨b, off + k, none⟩) (n - k) (cap - k)) (lst (n - k) (fun i => f (i + k))) := by
  obtain ⟨ao, cap', e, h1, h2⟩ := h.formL
  simp only [Value.slice.injEq] at e
  obtain ⟨rfl, -, rfl⟩ := e
  refine ⟨_, cap - k, by rw [lst_length], by rw [lst_length]; omega, by rw [lst_length]; omega, fun j hj => ⟨b, off + k, rfl, ?_⟩⟩
  rw [lst_length] at hj
  obtain ⟨b', off', e, hc⟩ := h.at_ (k := j + k) (by rw [lst_length]; omega)
  simp only [Option.some.injEq, Addr.mk.injEq] at e
  obtain ⟨rfl, rfl, _⟩ := e
  rw [show off + k + j = off + (j + k) by omega, hc, lst_el _ _ _ hj, lst_el _ _ _ (by omega)]
theorem RdI.suf1 {w : World} {b off n cap : Nat} {f : PS} (h : RdI w (.slice (some ⟨b, off, none⟩) (n + 1) cap) (lst (n + 1) f)) (k : Nat) (hk : k ≤ n) : RdI w (.slice (some ⟨b, off + (k + 1), none⟩) (n - k) (cap - (k + 1))) (lst (n - k) (fun i => f (i + (k + 1)))) := by
  have h1 := h.suf (k + 1) (by omega)
  rwa [show n + 1 - (k + 1) = n - k by omega] at h1
theorem RdI_empty (w : World) (b off : Nat) (f : PS) (n k : Nat) (h : n ≤ k) : RdI w (.slice (some ⟨b, off, none⟩) (n - k) 0) (lst (n - k) f) := by
  rw [show n - k = 0 by omega]
  exact ⟨_, 0, rfl, by simp, by simp, fun j hj => by simp at hj⟩
theorem matL_snoc (j n : Nat) (M : Mt) : matL (j + 1) n M = matL j n M ++ [lst n (M j)] := by simp [matL, List.range_succ]
theorem lst_skip (n k : Nat) (hk : k < n + 1) (f : Nat → F) : lst k f ++ lst (n - k) (fun i => f (i + (k + 1))) = lst n (fun c => f (if c < k then c else c + 1)) := by
  apply List.ext_getElem (by simp; omega)
  intro i h1 h2
  have hi : i < n := by simpa using h2
  rw [el_at _ i h2, lst_el _ _ _ hi]
  by_cases hik : i < k
  · rw [List.getElem_append_left (by simpa using hik), el_at _ i (by simpa using hik), lst_el _ _ _ hik, if_pos hik]
  · rw [List.getElem_append_right (by simp; omega), el_at _ _ (by simp; omega), lst_el _ _ _ (by simp; omega), if_neg hik, lst_length, show i - k + (k + 1) = i + 1 by omega]
theorem infoLL' : (Try.prog.info? 32).map (fun i => (i.zero, i.size, i.bytes)) = some (some (.slice none 0 0), 1, 24) := by kernel_rfl
theorem Own2.memb {base : Nat} {w : World} {v : Value} {us : List Value} {zss : List (List Int)} (O : Own2 base w v us zss) : ∀ x ∈ us, ∀ b, x.ownBlock = some b → b < w.heap.size := fun x hx b hb => (O.mem_lt x hx b hb).2
theorem l01OwnAt_any (b off n cap : Nat) (zs : List Int) (w : World) (h : RdI w (.slice (some ⟨b, off, none⟩) n cap) zs) :
    Calls Try.prog 46 #[.slice (some ⟨b, off, none⟩) n cap] w fun e w' => ∃ u, e = .returned u ∧ OwnI w.heap.size w' u zs ∧ Below w.heap.size w w' := by
  have hl : zs.length ≤ 1048576 := h.lim'
  go_enter Try.func46, Try.ntmps46
  go_wp2_with (at_builtin; refine wpl_appAt rfl _ _ _ rfl Try.underlying32 info_i64 rfl (OwnI.lit w w.heap.size (Nat.le_refl _)) _ _ _ _ rfl (h.mono (below_alloc _ _)) (by simpa using hl) (by simp) ?_; intro v' W1 O1 G1 B1)
  go_ret
  exact ⟨_, rfl, O1, (below_alloc _ _).trans B1⟩
theorem l01Minor_any (n k : Nat) (M : Mt) (v : Value) (w : World) (h : RdII w v (matL (n + 1) (n + 1) M)) (hk : k < n + 1) (hn : n ≤ 64) :
    Calls Try.prog 64 #[v, .int .i64 k] w fun e w' => ∃ r, e = .returned r ∧ OwnII w.heap.size w' r (matL n n (mnrC M k)) ∧ Below w.heap.size w w' := by
  have H := hid h
  obtain ⟨ao, cap, rfl, hcap, hmax⟩ := h.formM
  clear h
  go_enter Try.func64, Try.ntmps64
  go_wp2
  go_loopw [5, 6] (fun r i wr => ∃ (j : Nat) (us : List Value), j ≤ n ∧ i = .int .i64 ((j + 1 : Nat) : Int) ∧ Own2 w.heap.size wr r us (matL j n (mnrC M k)) ∧ Below w.heap.size w wr) (fun _ i _ => n + 1 - (intOf i).toNat)
  case atStart => exact ⟨0, [], Nat.zero_le _, rfl, Own2.litAt (by simp) (by omega), below_alloc _ _⟩
  case round =>
    obtain ⟨j, us, hj, rfl, O, Bl⟩ := hrel
    by_cases hlt : j < n
    · obtain ⟨b, off, u, rfl, hcell, hu⟩ := (H.out.mono Bl).at_ (k := j + 1) (by rw [matL_length]; omega)
      rw [matL_row _ _ _ _ (by omega)] at hu
      obtain ⟨aou, capu, rfl, hcu, -⟩ := hu.formL
      obtain ⟨b', off', rfl, -⟩ := hu.at_ (k := 0) (by rw [lst_length]; omega)
      have P1 := hid (hu.pre k (by omega))
      have hbl := World.block_lt_of_cell? _ _ hcell
      have ht1 : (matL j n (mnrC M k)).length < 1048576 := by rw [matL_length]; omega
      have bw0 := Bl.size
      have hmem : Hid (∀ x ∈ us, ∀ b, x.ownBlock = some b → b < wr.heap.size) := O.memb
      have HO := hid O
      have HS : Hid (lst k (M (j + 1)) ++ lst (n - k) (fun i => M (j + 1) (i + (k + 1))) = lst n (mnrC M k j)) := lst_skip n k hk (M (j + 1))
      have hd : decide (((j + 1 : Nat) : Int) < ((n + 1 : Nat) : Int)) = true := by simp; omega
      have s1 : IntKind.i64.wrap ((k : Int) + 1) = (k : Int) + 1 := IntWalk.i64_in _ (by omega)
      have s2 : ((k : Int) + 1).toNat = k + 1 := by omega
      have s3 : (0 : Int) ≤ (k : Int) + 1 := by omega
      have s4 : (k : Int) + 1 ≤ ((n + 1 : Nat) : Int) := by omega
      have s5 : (k : Int) ≤ (capu : Int) := by omega
      have s6 : (0 : Int) ≤ (k : Int) := by omega
      have s7 : ((j + 1 : Nat) : Int) < ((n + 1 : Nat) : Int) := by omega
      have hl2 : (lst k (M (j + 1))).length + (lst (n - k) (fun i => M (j + 1) (i + (k + 1)))).length ≤ 1048576 := by rw [lst_length, lst_length]; omega
      clear O
      rcases (by omega : capu = k + 1 ∨ k + 1 < capu) with hc | hc
      · have P2 : Hid (RdI wr (.slice (some ⟨b', off', none⟩) 0 0) (lst (n - k) (fun i => M (j + 1) (i + (k + 1))))) := by have := RdI_empty wr b' off' (fun i => M (j + 1) (i + (k + 1))) n k (by omega); simp only [Hid]; rwa [show (Value.slice (some ⟨b', off', none⟩) (n - k) 0) = .slice (some ⟨b', off', none⟩) 0 0 by rw [show n - k = 0 by omega]] at this
        clear hu
        subst hc
        go_wp2_with fail
        refine (l01OwnAt_any _ _ _ _ _ _ P1.out).mono ?_
        rintro e w2 ⟨r2, rfl, O2, B2⟩
        obtain ⟨ao2, cap2, rfl, -, -⟩ := O2.rd.formL
        have hcell2 := (B2.cell (p := ⟨b, off + (j + 1), none⟩) hbl).trans hcell
        have bw2 := B2.size
        clear hcell
        go_wp2_with (first
          | (at_builtin; refine wpl_appAt rfl _ _ _ rfl Try.underlying32 info_i64 rfl O2 b' off' 0 0 rfl (P2.out.mono B2) hl2 bw2 ?_; intro v3 W3 O3 G3 B3; clear G3; rw [HS.out] at O3; obtain ⟨ao3, cap3, rfl, -, -⟩ := O3.rd.formL; have B3' := B2.trans B3; have OB := HO.out.mono B3'; have bw3 := B3'.size)
          | (at_builtin; refine wpl_app2 (v := u5) (u := .slice ao3 n cap3) rfl _ _ _ rfl Try.underlying22 infoLL' rfl (OB.mono (below_alloc _ _)) ⟨W3.heap.size, 0, none⟩ 1 (lst n (mnrC M k j)) rfl (cell_new1 _ _ _) ((O3.lower bw0).mono (below_alloc _ _)) (parted_lt wr.heap.size (fun b hb => (O3.own_lt b hb).1) (fun b hb => (HO.out.lt b hb).2)) (fun j' hj' => parted_lt wr.heap.size (fun b hb => (O3.own_lt b hb).1) (fun b hb => hmem.out _ (by rw [← vat_at us j' hj']; exact List.getElem_mem hj') b hb)) ht1 (by simp; omega) ?_; intro v' W1 O4 G4 B4 P4; clear G4 P4; have B5 := (((nx Bl B3').alloc (Nat.le_trans bw0 bw3) (.cells #[.slice ao3 n cap3] 32)).trans B4)))
        rw [← matL_snoc] at O4
        go_roundw
        case rel => exact ⟨j + 1, _, by omega, by go_num, O4, B5⟩
        case measure => simp [intOf]; omega
      · have P2 := hid (hu.suf1 k (by omega))
        clear hu
        have hc' : ¬ capu = k + 1 := by omega
        go_wp2_with fail
        refine (l01OwnAt_any _ _ _ _ _ _ P1.out).mono ?_
        rintro e w2 ⟨r2, rfl, O2, B2⟩
        obtain ⟨ao2, cap2, rfl, -, -⟩ := O2.rd.formL
        have hcell2 := (B2.cell (p := ⟨b, off + (j + 1), none⟩) hbl).trans hcell
        have bw2 := B2.size
        clear hcell
        go_wp2_with (first
          | (at_builtin; refine wpl_appAt rfl _ _ _ rfl Try.underlying32 info_i64 rfl O2 b' (off' + (k + 1)) (n - k) (capu - (k + 1)) rfl (P2.out.mono B2) hl2 bw2 ?_; intro v3 W3 O3 G3 B3; clear G3; rw [HS.out] at O3; obtain ⟨ao3, cap3, rfl, -, -⟩ := O3.rd.formL; have B3' := B2.trans B3; have OB := HO.out.mono B3'; have bw3 := B3'.size)
          | (at_builtin; refine wpl_app2 (v := u5) (u := .slice ao3 n cap3) rfl _ _ _ rfl Try.underlying22 infoLL' rfl (OB.mono (below_alloc _ _)) ⟨W3.heap.size, 0, none⟩ 1 (lst n (mnrC M k j)) rfl (cell_new1 _ _ _) ((O3.lower bw0).mono (below_alloc _ _)) (parted_lt wr.heap.size (fun b hb => (O3.own_lt b hb).1) (fun b hb => (HO.out.lt b hb).2)) (fun j' hj' => parted_lt wr.heap.size (fun b hb => (O3.own_lt b hb).1) (fun b hb => hmem.out _ (by rw [← vat_at us j' hj']; exact List.getElem_mem hj') b hb)) ht1 (by simp; omega) ?_; intro v' W1 O4 G4 B4 P4; clear G4 P4; have B5 := (((nx Bl B3').alloc (Nat.le_trans bw0 bw3) (.cells #[.slice ao3 n cap3] 32)).trans B4)))
        rw [← matL_snoc] at O4
        go_roundw
        case rel => exact ⟨j + 1, _, by omega, by go_num, O4, B5⟩
        case measure => simp [intOf]; omega
    · go_wp2
      go_ret
      obtain rfl : j = n := by omega
      exact ⟨_, rfl, ⟨us, O⟩, Bl⟩
end Go.Proofs.Ytmhcpaffdchboaa
