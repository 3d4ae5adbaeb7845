/-
  The walks of the readers of brackets.
-/
import Derived.Test.YthjdmkjncaemgaaTreeB
import Derived.Test.YthjdmkjncaemgaaTxtP
namespace Go.Proofs.Ythjdmkjncaemgaa
open Go.RowKit
set_option maxRecDepth 100000
/-- The byte k of a text. -/
def st (a : ByteArray) (k : Nat) : UInt8 := if h : k < a.size then a[k] else 0
theorem st_at (a : ByteArray) (k : Nat) (h : k < a.size) : a[k] = st a k := by rw [st, dif_pos h]
def stA (zss : List (List Int)) (l : Nat) : List (List Int) := if l = 0 then zss ++ [[]] else zss
theorem stA_pos (zss : List (List Int)) (l : Nat) (h : 0 < l → 0 < zss.length) : 0 < (stA zss l).length := by
  unfold stA; split
  · simp
  · exact h (by omega)
theorem rdStep_open (zss : List (List Int)) (l : Nat) : rdStep (zss, l) 91 = some ((stA zss l).set ((stA zss l).length - 1) (rowAt (stA zss l) ((stA zss l).length - 1) ++ [(l : Int)]), l + 1) := by
  unfold rdStep stA; rw [if_pos rfl]
theorem rdStep_shut (zss : List (List Int)) (l : Nat) (h : 0 < l) : rdStep (zss, l) 93 = some (zss, l - 1) := by
  unfold rdStep; rw [if_neg (by decide), if_pos ⟨rfl, h⟩]
theorem rdTo_none {s : Nat → UInt8} {k m : Nat} (hk : k ≤ m) (h : rdTo s k = none) : rdTo s m = none := by
  induction m with
  | zero => obtain rfl : k = 0 := by omega
            exact h
  | succ m ih =>
    by_cases e : k = m + 1
    · subst e; exact h
    · rw [rdTo, ih (by omega)]; rfl
theorem rdR_fail {s : Nat → UInt8} {k m : Nat} (hk : k ≤ m) (h : rdTo s k = none) : rdR s m = none := by
  unfold rdR; rw [rdTo_none hk h]
def RdP (w : World) (a : ByteArray) (e : Ending) (w' : World) : Prop :=
  ∃ (r : Value) (b : Bool), e = .returned (.tuple #[r, .bool b]) ∧ Below w.heap.size w w' ∧ ((b = true ∧ ∃ zss, rdR (st a) a.size = some zss ∧ OwnII w.heap.size w' r zss) ∨ (b = false ∧ rdR (st a) a.size = none))
def RdP16 (w : World) (a : ByteArray) (e : Ending) (w' : World) : Prop :=
  ∃ (r : Value) (b : Bool), e = .returned (.tuple #[r, .bool b]) ∧ Below w.heap.size w w' ∧ ((b = true ∧ ∃ zss, rdR (st a) a.size = some zss ∧ OwnII w.heap.size w' r zss) ∨ (b = false ∧ 16 < a.size) ∨ (b = false ∧ rdR (st a) a.size = none))
set_option maxHeartbeats 1000000 in
theorem readForest_any (a : ByteArray) (w : World) (ha : a.size ≤ 1048576) :
    Calls Try.prog 38 #[.string a] w (RdP16 w a) := by
  by_cases h16 : a.size ≤ 16
  rotate_left
  · have h17 : (16 : Int) < (a.size : Int) := by omega
    have HB := hid h16
    clear h16
    go_enter Try.func38, Try.ntmps38
    go_wp2
    go_ret2
    exact ⟨_, false, rfl, below_alloc _ _, .inr (.inl ⟨rfl, by have := HB.out; omega⟩)⟩
  go_enter Try.func38, Try.ntmps38
  go_wp2
  go_loopw [4, 5, 6] (fun vo vl i wr => ∃ (k l : Nat) (zss : List (List Int)) (us : List Value), k ≤ a.size ∧ i = .int .i64 k ∧ vl = .int .i64 l ∧ Hid (rdTo (st a) k = some (zss, l)) ∧ Own2 w.heap.size wr vo us zss ∧ Below w.heap.size w wr) (fun _ _ i _ => a.size - (intOf i).toNat)
  case atStart => exact ⟨0, 0, [], [], Nat.zero_le _, rfl, rfl, rfl, Own2.litAt (by simp) (by omega), below_alloc _ _⟩
  case round =>
    obtain ⟨k, l, zss, us, hk, rfl, rfl, HT, O, Bl⟩ := hrel
    by_cases hlt : k < a.size
    · have hk1 : k + 1 ≤ a.size := hlt
      have hfa := rdTo_facts (st a) k zss l HT.out
      have hst := st_at a k hlt
      obtain ⟨c, hc⟩ : ∃ c, c = st a k := ⟨_, rfl⟩
      rw [← hc] at hst
      have HC := hid hc
      clear hc
      by_cases h91 : c = 91
      · have hb : ((c.toNat : Int) == 91) = true := by rw [h91]; rfl
        have hAs : 0 < (stA zss l).length := stA_pos zss l hfa.2.2.1
        have HB0 : Hid (rdTo (st a) (k + 1) = some ((stA zss l).set ((stA zss l).length - 1) (rowAt (stA zss l) ((stA zss l).length - 1) ++ [(l : Int)]), l + 1)) := by
          simp only [Hid]; rw [rdTo, HT.out]; simp only [Option.bind_some]; rw [← HC.out, h91, rdStep_open]
        have hfb := rdTo_facts (st a) (k + 1) _ _ HB0.out
        have hAm : (stA zss l).length ≤ 1048576 := by have := hfb.2.2.2.2; simp at this; omega
        have hAr : (rowAt (stA zss l) ((stA zss l).length - 1)).length < 1048576 := by
          have h3 := hfb.2.2.2.1 (rowAt (stA zss l) ((stA zss l).length - 1) ++ [(l : Int)]) (List.mem_set (by omega) _)
          simp at h3; omega
        have hlk := hfa.2.1
        have HA : Hid ((if l = 0 then zss ++ [[]] else zss) = stA zss l) := rfl
        obtain ⟨A, hA⟩ : ∃ A, A = stA zss l := ⟨_, rfl⟩
        rw [← hA] at hAs hAm hAr HA HB0
        have hAl : A.length - 1 < A.length := by omega
        obtain ⟨NX, hNX⟩ : ∃ NX, NX = A.set (A.length - 1) (rowAt A (A.length - 1) ++ [(l : Int)]) := ⟨_, rfl⟩
        rw [← hNX] at HB0
        have HB := hid hNX.symm
        have hAw : wrap64 ((A.length : Int) - 1) = ((A.length - 1 : Nat) : Int) := by rw [IntWalk.wrap64_in _ (by omega)]; omega
        have hzl := hfa.2.2.2.2
        have H91 := hid h91
        clear hA hNX hfa hfb h91
        by_cases h0 : l = 0
        · have hA : Hid (zss ++ [[]] = A) := by simp only [Hid]; rw [← HA.out, if_pos h0]
          have hz : ((l : Int) == 0) = true := by simp; exact h0
          have HL0 := hid h0
          clear h0
          go_wp2_with (first
            | (at_builtin; refine wpl_app2 rfl _ _ _ rfl Try.underlying32 info_ii rfl (O.mono (below_alloc _ _)) ⟨wr.heap.size, 0, none⟩ 1 (.slice none 0 0) [] rfl (cell_new1 _ _ _) (OwnI.nil _ _) (parted_nil _) (fun j _ => parted_nil _) (by omega) (by have := Bl.size; simp; omega) ?_; intro v' W1 O1 G1 B1 P1; clear G1 P1; rw [hA.out] at O1; obtain ⟨ao1, cap1, rfl⟩ := O1.form; obtain ⟨g, rfl⟩ := O1.addr hAs; have c1 := O1.cell _ hAl; have B0 := (Bl.alloc Bl.size (.cells #[.slice none 0 0] 22)).trans B1; clear B1)
            | (at_builtin; (refine wpl_appW (v := vat (us ++ [.slice none 0 0]) (A.length - 1)) rfl _ _ _ rfl Try.underlying22 info_i64 rfl ((O1.own _ hAl).mono (below_alloc _ _)) ⟨W1.heap.size, 0, none⟩ 1 _ rfl (cell_new1 _ _ _) hAr (by have := B0.size; simp; omega) ?_); intro u' W2 O2 G2 B2 P2; obtain ⟨aou, capu, rfl⟩ := O2.form; have h3 := (O1.mono (below_alloc W1 _)).outer (A.length - 1) hAl G2; have c3 := h3.1; have f3 := h3.2.1; have g3 := h3.2.2; clear h3; obtain ⟨O3, -⟩ := (O1.mono (below_alloc W1 _)).put (A.length - 1) hAl G2 O2 (P2.imp id (fun e b hb => by rw [e] at hb; simp at hb; simp; omega)); rw [HB.out] at O3; have B3 := ((B0.alloc B0.size (.cells #[.int .i64 (l : Int)] 2)).trans B2).setCell (p := ⟨g, A.length - 1, none⟩) O1.glt.1 (.slice aou (rowAt A (A.length - 1) ++ [(l : Int)]).length capu); clear P2 G2 O2 B2))
          rw [List.length_append, List.length_singleton] at O3 B3
          go_roundw
          case rel => exact ⟨k + 1, l + 1, _, _, by omega, by go_num, by go_num, HB0, O3, B3⟩
          case measure => simp [intOf]; omega
        · have hA : Hid (zss = A) := by simp only [Hid]; rw [← HA.out, if_neg h0]
          have hz : ((l : Int) == 0) = false := by simp; exact h0
          have HL0 := hid h0
          clear h0
          have O1 := O
          rw [hA.out] at O1
          obtain ⟨ao1, cap1, rfl⟩ := O1.form
          obtain ⟨g, rfl⟩ := O1.addr hAs
          have c1 := O1.cell _ hAl
          go_wp2_with (at_builtin; (refine wpl_appW (v := vat us (A.length - 1)) rfl _ _ _ rfl Try.underlying22 info_i64 rfl ((O1.own _ hAl).mono (below_alloc _ _)) ⟨wr.heap.size, 0, none⟩ 1 _ rfl (cell_new1 _ _ _) hAr (by have := Bl.size; simp; omega) ?_); intro u' W2 O2 G2 B2 P2; obtain ⟨aou, capu, rfl⟩ := O2.form; have h3 := (O1.mono (below_alloc wr _)).outer (A.length - 1) hAl G2; have c3 := h3.1; have f3 := h3.2.1; have g3 := h3.2.2; clear h3; obtain ⟨O3, -⟩ := (O1.mono (below_alloc wr _)).put (A.length - 1) hAl G2 O2 (P2.imp id (fun e b hb => by rw [e] at hb; simp at hb; simp; omega)); rw [HB.out] at O3; have B3 := ((Bl.alloc Bl.size (.cells #[.int .i64 (l : Int)] 2)).trans B2).setCell (p := ⟨g, A.length - 1, none⟩) O1.glt.1 (.slice aou (rowAt A (A.length - 1) ++ [(l : Int)]).length capu); clear P2 G2 O2 B2)
          rw [List.length_append, List.length_singleton] at O3 B3
          go_roundw
          case rel => exact ⟨k + 1, l + 1, _, _, by omega, by go_num, by go_num, HB0, O3, B3⟩
          case measure => simp [intOf]; omega
      · have hb : ((c.toNat : Int) == 91) = false := by
          simp; intro e; have e2 : c.toNat = 91 := (by omega); exact h91 (UInt8.toNat_inj.1 (by rw [e2]; rfl))
        by_cases h93 : c = 93
        · have hb2 : ((c.toNat : Int) == 93) = true := by rw [h93]; rfl
          by_cases h0 : 0 < l
          · have HB0 : Hid (rdTo (st a) (k + 1) = some (zss, l - 1)) := by
              simp only [Hid]; rw [rdTo, HT.out]; simp only [Option.bind_some]; rw [← HC.out, h93, rdStep_shut _ _ h0]
            have h1 : (0 : Int) < (l : Int) := by omega
            have hlk := hfa.2.1
            have HE1 := hid (show (l : Int) - 1 = ((l - 1 : Nat) : Int) by omega)
            clear h91 h93 hfa
            go_wp2
            go_roundw
            case rel => exact ⟨k + 1, l - 1, zss, us, by omega, by go_num, by rw [← HE1.out], HB0, O, Bl⟩
            case measure => simp [intOf]; omega
          · have HF : Hid (rdTo (st a) (k + 1) = none) := by
              simp only [Hid]; rw [rdTo, HT.out]; simp only [Option.bind_some]; rw [← HC.out, h93]; unfold rdStep; rw [if_neg (by decide), if_neg (by simp; omega)]
            have h1 : (l : Int) = 0 := by omega
            have HL0 := hid h0
            obtain rfl : l = 0 := by omega
            clear h91 h93 hfa h0
            go_wp2
            go_ret2
            exact ⟨_, false, rfl, Bl, .inr (.inr ⟨rfl, rdR_fail hk1 HF.out⟩)⟩
        · have hb2 : ((c.toNat : Int) == 93) = false := by
            simp; intro e; have e2 : c.toNat = 93 := (by omega); exact h93 (UInt8.toNat_inj.1 (by rw [e2]; rfl))
          have HF : Hid (rdTo (st a) (k + 1) = none) := by
            simp only [Hid]; rw [rdTo, HT.out]; simp only [Option.bind_some]; rw [← HC.out]; unfold rdStep; rw [if_neg h91, if_neg (fun h => h93 h.1)]
          clear h91 h93 hfa
          go_wp2
          go_ret2
          exact ⟨_, false, rfl, Bl, .inr (.inr ⟨rfl, rdR_fail hk1 HF.out⟩)⟩
    · obtain rfl : k = a.size := by omega
      by_cases h0 : l = 0
      · have HE : Hid (rdR (st a) a.size = some zss) := by simp only [Hid]; unfold rdR; rw [HT.out, h0]; rfl
        subst h0
        go_wp2
        go_ret2
        exact ⟨_, true, rfl, Bl, .inl ⟨rfl, zss, HE.out, ⟨us, O⟩⟩⟩
      · have HE : Hid (rdR (st a) a.size = none) := by
          simp only [Hid]; unfold rdR; rw [HT.out]
          cases l with
          | zero => exact absurd rfl h0
          | succ l => rfl
        have hz : ((l : Int) == 0) = false := by simp; exact h0
        clear h0
        go_wp2
        go_ret2
        exact ⟨_, false, rfl, Bl, .inr (.inr ⟨rfl, HE.out⟩)⟩
set_option maxHeartbeats 1000000 in
theorem l03Read_any (a : ByteArray) (w : World) (ha : a.size ≤ 1048576) :
    Calls Try.prog 36 #[.string a] w (RdP w a) := by
  go_enter Try.func36, Try.ntmps36
  go_wp2
  go_loopw [4, 5, 6] (fun vo vl i wr => ∃ (k l : Nat) (zss : List (List Int)) (us : List Value), k ≤ a.size ∧ i = .int .i64 k ∧ vl = .int .i64 l ∧ Hid (rdTo (st a) k = some (zss, l)) ∧ Own2 w.heap.size wr vo us zss ∧ Below w.heap.size w wr) (fun _ _ i _ => a.size - (intOf i).toNat)
  case atStart => exact ⟨0, 0, [], [], Nat.zero_le _, rfl, rfl, rfl, Own2.litAt (by simp) (by omega), below_alloc _ _⟩
  case round =>
    obtain ⟨k, l, zss, us, hk, rfl, rfl, HT, O, Bl⟩ := hrel
    by_cases hlt : k < a.size
    · have hk1 : k + 1 ≤ a.size := hlt
      have hfa := rdTo_facts (st a) k zss l HT.out
      have hst := st_at a k hlt
      obtain ⟨c, hc⟩ : ∃ c, c = st a k := ⟨_, rfl⟩
      rw [← hc] at hst
      have HC := hid hc
      clear hc
      by_cases h91 : c = 91
      · have hb : ((c.toNat : Int) == 91) = true := by rw [h91]; rfl
        have hAs : 0 < (stA zss l).length := stA_pos zss l hfa.2.2.1
        have HB0 : Hid (rdTo (st a) (k + 1) = some ((stA zss l).set ((stA zss l).length - 1) (rowAt (stA zss l) ((stA zss l).length - 1) ++ [(l : Int)]), l + 1)) := by
          simp only [Hid]; rw [rdTo, HT.out]; simp only [Option.bind_some]; rw [← HC.out, h91, rdStep_open]
        have hfb := rdTo_facts (st a) (k + 1) _ _ HB0.out
        have hAm : (stA zss l).length ≤ 1048576 := by have := hfb.2.2.2.2; simp at this; omega
        have hAr : (rowAt (stA zss l) ((stA zss l).length - 1)).length < 1048576 := by
          have h3 := hfb.2.2.2.1 (rowAt (stA zss l) ((stA zss l).length - 1) ++ [(l : Int)]) (List.mem_set (by omega) _)
          simp at h3; omega
        have hlk := hfa.2.1
        have HA : Hid ((if l = 0 then zss ++ [[]] else zss) = stA zss l) := rfl
        obtain ⟨A, hA⟩ : ∃ A, A = stA zss l := ⟨_, rfl⟩
        rw [← hA] at hAs hAm hAr HA HB0
        have hAl : A.length - 1 < A.length := by omega
        obtain ⟨NX, hNX⟩ : ∃ NX, NX = A.set (A.length - 1) (rowAt A (A.length - 1) ++ [(l : Int)]) := ⟨_, rfl⟩
        rw [← hNX] at HB0
        have HB := hid hNX.symm
        have hAw : wrap64 ((A.length : Int) - 1) = ((A.length - 1 : Nat) : Int) := by rw [IntWalk.wrap64_in _ (by omega)]; omega
        have hzl := hfa.2.2.2.2
        have H91 := hid h91
        clear hA hNX hfa hfb h91
        by_cases h0 : l = 0
        · have hA : Hid (zss ++ [[]] = A) := by simp only [Hid]; rw [← HA.out, if_pos h0]
          have hz : ((l : Int) == 0) = true := by simp; exact h0
          have HL0 := hid h0
          clear h0
          have q1 : Hid (((wr.alloc (.cells #[] 2)).alloc (.cells #[.slice (some ⟨wr.heap.size, 0, none⟩) 0 0] 22)).cell? ⟨wr.heap.size + 1, 0, none⟩ = some (.slice (some ⟨wr.heap.size, 0, none⟩) 0 0)) := by
            have := cell_new1 (wr.alloc (.cells #[] 2)) (.slice (some ⟨wr.heap.size, 0, none⟩) 0 0) 22
            simp [Hid] at this ⊢
          have q2 : Hid (Parted (.slice (some ⟨wr.heap.size, 0, none⟩) 0 0) u4) := parted_lt wr.heap.size (fun b hb => by simp [Value.ownBlock] at hb; omega) (fun b hb => (O.lt b hb).2)
          have q3 : Hid (∀ j, j < us.length → Parted (.slice (some ⟨wr.heap.size, 0, none⟩) 0 0) (vat us j)) := fun j hj => parted_lt wr.heap.size (fun b hb => by simp [Value.ownBlock] at hb; omega) (fun b hb => ((O.own j (by have := O.len; omega)).own_lt b hb).2)
          go_wp2_with (first
            | (at_builtin; refine wpl_app2 (u := .slice (some ⟨wr.heap.size, 0, none⟩) 0 0) rfl _ _ _ rfl Try.underlying32 info_ii rfl ((O.mono (below_alloc _ _)).mono (below_alloc _ _)) ⟨wr.heap.size + 1, 0, none⟩ 1 [] rfl q1.out ((OwnI.lit wr w.heap.size Bl.size).mono (below_alloc _ _)) q2.out q3.out (by omega) (by have := Bl.size; simp; omega) ?_; intro v' W1 O1 G1 B1 P1; clear G1 P1; rw [hA.out] at O1; obtain ⟨ao1, cap1, rfl⟩ := O1.form; obtain ⟨g, rfl⟩ := O1.addr hAs; have c1 := O1.cell _ hAl; have B0 := ((Bl.alloc Bl.size (.cells #[] 2)).alloc (by have := Bl.size; simp; omega) (.cells #[.slice (some ⟨wr.heap.size, 0, none⟩) 0 0] 22)).trans B1; clear B1)
            | (at_builtin; (refine wpl_appW (v := vat (us ++ [.slice (some ⟨wr.heap.size, 0, none⟩) 0 0]) (A.length - 1)) rfl _ _ _ rfl Try.underlying22 info_i64 rfl ((O1.own _ hAl).mono (below_alloc _ _)) ⟨W1.heap.size, 0, none⟩ 1 _ rfl (cell_new1 _ _ _) hAr (by have := B0.size; simp; omega) ?_); intro u' W2 O2 G2 B2 P2; obtain ⟨aou, capu, rfl⟩ := O2.form; have h3 := (O1.mono (below_alloc W1 _)).outer (A.length - 1) hAl G2; have c3 := h3.1; have f3 := h3.2.1; have g3 := h3.2.2; clear h3; obtain ⟨O3, -⟩ := (O1.mono (below_alloc W1 _)).put (A.length - 1) hAl G2 O2 (P2.imp id (fun e b hb => by rw [e] at hb; simp at hb; simp; omega)); rw [HB.out] at O3; have B3 := ((B0.alloc B0.size (.cells #[.int .i64 (l : Int)] 2)).trans B2).setCell (p := ⟨g, A.length - 1, none⟩) O1.glt.1 (.slice aou (rowAt A (A.length - 1) ++ [(l : Int)]).length capu); clear P2 G2 O2 B2))
          rw [List.length_append, List.length_singleton] at O3 B3
          go_roundw
          case rel => exact ⟨k + 1, l + 1, _, _, by omega, by go_num, by go_num, HB0, O3, B3⟩
          case measure => simp [intOf]; omega
        · have hA : Hid (zss = A) := by simp only [Hid]; rw [← HA.out, if_neg h0]
          have hz : ((l : Int) == 0) = false := by simp; exact h0
          have HL0 := hid h0
          clear h0
          have O1 := O
          rw [hA.out] at O1
          obtain ⟨ao1, cap1, rfl⟩ := O1.form
          obtain ⟨g, rfl⟩ := O1.addr hAs
          have c1 := O1.cell _ hAl
          go_wp2_with (at_builtin; (refine wpl_appW (v := vat us (A.length - 1)) rfl _ _ _ rfl Try.underlying22 info_i64 rfl ((O1.own _ hAl).mono (below_alloc _ _)) ⟨wr.heap.size, 0, none⟩ 1 _ rfl (cell_new1 _ _ _) hAr (by have := Bl.size; simp; omega) ?_); intro u' W2 O2 G2 B2 P2; obtain ⟨aou, capu, rfl⟩ := O2.form; have h3 := (O1.mono (below_alloc wr _)).outer (A.length - 1) hAl G2; have c3 := h3.1; have f3 := h3.2.1; have g3 := h3.2.2; clear h3; obtain ⟨O3, -⟩ := (O1.mono (below_alloc wr _)).put (A.length - 1) hAl G2 O2 (P2.imp id (fun e b hb => by rw [e] at hb; simp at hb; simp; omega)); rw [HB.out] at O3; have B3 := ((Bl.alloc Bl.size (.cells #[.int .i64 (l : Int)] 2)).trans B2).setCell (p := ⟨g, A.length - 1, none⟩) O1.glt.1 (.slice aou (rowAt A (A.length - 1) ++ [(l : Int)]).length capu); clear P2 G2 O2 B2)
          rw [List.length_append, List.length_singleton] at O3 B3
          go_roundw
          case rel => exact ⟨k + 1, l + 1, _, _, by omega, by go_num, by go_num, HB0, O3, B3⟩
          case measure => simp [intOf]; omega
      · have hb : ((c.toNat : Int) == 91) = false := by
          simp; intro e; have e2 : c.toNat = 91 := (by omega); exact h91 (UInt8.toNat_inj.1 (by rw [e2]; rfl))
        by_cases h93 : c = 93
        · have hb2 : ((c.toNat : Int) == 93) = true := by rw [h93]; rfl
          by_cases h0 : 0 < l
          · have HB0 : Hid (rdTo (st a) (k + 1) = some (zss, l - 1)) := by
              simp only [Hid]; rw [rdTo, HT.out]; simp only [Option.bind_some]; rw [← HC.out, h93, rdStep_shut _ _ h0]
            have h1 : (0 : Int) < (l : Int) := by omega
            have hlk := hfa.2.1
            have HE1 := hid (show (l : Int) - 1 = ((l - 1 : Nat) : Int) by omega)
            clear h91 h93 hfa
            go_wp2
            go_roundw
            case rel => exact ⟨k + 1, l - 1, zss, us, by omega, by go_num, by rw [← HE1.out], HB0, O, Bl⟩
            case measure => simp [intOf]; omega
          · have HF : Hid (rdTo (st a) (k + 1) = none) := by
              simp only [Hid]; rw [rdTo, HT.out]; simp only [Option.bind_some]; rw [← HC.out, h93]; unfold rdStep; rw [if_neg (by decide), if_neg (by simp; omega)]
            have h1 : (l : Int) = 0 := by omega
            have HL0 := hid h0
            obtain rfl : l = 0 := by omega
            clear h91 h93 hfa h0
            go_wp2
            go_ret2
            exact ⟨_, false, rfl, Bl, .inr ⟨rfl, rdR_fail hk1 HF.out⟩⟩
        · have hb2 : ((c.toNat : Int) == 93) = false := by
            simp; intro e; have e2 : c.toNat = 93 := (by omega); exact h93 (UInt8.toNat_inj.1 (by rw [e2]; rfl))
          have HF : Hid (rdTo (st a) (k + 1) = none) := by
            simp only [Hid]; rw [rdTo, HT.out]; simp only [Option.bind_some]; rw [← HC.out]; unfold rdStep; rw [if_neg h91, if_neg (fun h => h93 h.1)]
          clear h91 h93 hfa
          go_wp2
          go_ret2
          exact ⟨_, false, rfl, Bl, .inr ⟨rfl, rdR_fail hk1 HF.out⟩⟩
    · obtain rfl : k = a.size := by omega
      by_cases h0 : l = 0
      · have HE : Hid (rdR (st a) a.size = some zss) := by simp only [Hid]; unfold rdR; rw [HT.out, h0]; rfl
        subst h0
        go_wp2
        go_ret2
        exact ⟨_, true, rfl, Bl, .inl ⟨rfl, zss, HE.out, ⟨us, O⟩⟩⟩
      · have HE : Hid (rdR (st a) a.size = none) := by
          simp only [Hid]; unfold rdR; rw [HT.out]
          cases l with
          | zero => exact absurd rfl h0
          | succ l => rfl
        have hz : ((l : Int) == 0) = false := by simp; exact h0
        clear h0
        go_wp2
        go_ret2
        exact ⟨_, false, rfl, Bl, .inr ⟨rfl, HE.out⟩⟩
end Go.Proofs.Ythjdmkjncaemgaa
