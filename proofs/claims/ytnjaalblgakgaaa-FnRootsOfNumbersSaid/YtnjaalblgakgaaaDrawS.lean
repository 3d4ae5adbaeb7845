/-
  The draws of series, and the laws' own draws of lists.
-/
import Derived.Test.YtnjaalblgakgaaaDraw
import Derived.Test.YtnjaalblgakgaaaDice
namespace Go.Proofs.Ytnjaalblgakgaaa
open Go.RowKit
set_option maxRecDepth 100000
theorem of_set {base g : Nat} {w : World} {n cap : Nat} {zs : List Int} (O : OwnI base w (.slice (some ⟨g, 0, none⟩) n cap) zs) (j : Nat) (x : Int) :
    OwnI base (w.setCell ⟨g, j, none⟩ (.int .i64 x)) (.slice (some ⟨g, 0, none⟩) n cap) (zs.set j x) := (O.set j x).1
theorem l02Draw_any (b : Nat) (cv : Value) (n : Nat) (w : World) (S : Src 74 b cv w) (hn : n ≤ 1000) :
    Calls Try.prog 101 #[.pointer (some ⟨b, 0, none⟩), .int .i64 n] w fun e w' => ∃ r zs, e = .returned r ∧ OwnI w.heap.size w' r zs ∧ zs.length = n ∧ Src 74 b cv w' ∧ w.grownBy w' (some b) := by
  have hb := S.lt
  go_enter Try.func101, Try.ntmps101
  go_wp2_with fail
  refine (l01List_any b cv n _ S hn).mono ?_
  rintro e w1 ⟨r, zs, rfl, O, -, hz, S1, G1⟩
  have HZ := hid hz
  clear hz
  go_wp2_with fail
  refine (l01Next_any b cv 4 _ S1 (by omega)).mono ?_
  rintro e w2 ⟨x, rfl, -, S2, G2⟩
  have O2 := O.away G2 hb
  have G3 := grown_trans G1 G2
  clear O S1 G1 G2
  by_cases c0 : x = 0
  · obtain ⟨ao, cap, rfl⟩ := O2.form
    go_wp2
    go_loopw [6] (fun i wr => ∃ (k : Nat) (ys : List Int), i = .int .i64 k ∧ 1 ≤ k ∧ (k ≤ zs.length ∨ k = 1) ∧ Hid (ys.length = zs.length) ∧ OwnI w.heap.size wr (.slice ao zs.length cap) ys ∧ Src 74 b cv wr ∧ w.grownBy wr (some b)) (fun i _ => zs.length - (intOf i).toNat)
    case atStart => exact ⟨1, zs, rfl, by omega, .inr rfl, rfl, O2, S2, G3⟩
    case round =>
      obtain ⟨k, ys, rfl, hk1, hk, HY, O, S, G⟩ := hrel
      by_cases hlt : k < zs.length
      · have HO := hid O
        clear O O2
        have hlim := HO.out.lim
        have hyl := HY.out
        have hzl : zs.length ≤ 1048576 := by omega
        clear hyl
        go_wp2_with fail
        refine (l01Next_any b cv 2 _ S (by omega)).mono ?_
        rintro e w3 ⟨x, rfl, -, S3, G4⟩
        have O3 := HO.out.away G4 hb
        obtain ⟨g, rfl⟩ := O3.addr (by rw [HY.out]; omega)
        have G5 := grown_trans G G4
        clear G4 G
        by_cases c1 : x = 0
        · have hfr := O3.free k
          have hc := O3.cell k (by rw [HY.out]; omega)
          have hg := O3.glt
          have O4 := of_set O3 k 0
          have S4 := S3.grown (grown_set w3 g k (.int .i64 0)) (fun r hr => by cases hr; omega)
          have G6 := gb_then G5 (grown_set w3 g k (.int .i64 0)) (fun r hr => by cases hr; exact .inl hg.1)
          have HO4 := hid O4
          clear O4
          go_wp2
          go_roundw
          case rel => exact ⟨k + 1, _, by go_num, by omega, .inl (by omega), by simp only [Hid, List.length_set]; exact HY.out, HO4.out, S4, G6⟩
          case measure => simp [intOf]; omega
        · go_wp2
          go_roundw
          case rel => exact ⟨k + 1, _, by go_num, by omega, .inl (by omega), HY, O3, S3, G5⟩
          case measure => simp [intOf]; omega
      · have hyl := HY.out
        go_wp2
        go_ret
        exact ⟨_, ys, rfl, O, by rw [hyl, HZ.out], S, G⟩
  · go_wp2
    go_ret
    exact ⟨_, zs, rfl, O2, HZ.out, S2, G3⟩
/-- How many elements a slice has. -/
def OwnLen : Value → Nat
  | .slice _ n _ => n
  | _ => 0
set_option maxHeartbeats 3200000 in
theorem l02Begin_any (b : Nat) (cv : Value) (first : Int) (w : World) (S : Src 74 b cv w) :
    Calls Try.prog 73 #[.pointer (some ⟨b, 0, none⟩), .int .i64 first] w fun e w' => ∃ r zs, e = .returned r ∧ OwnI w.heap.size w' r zs ∧ zs.length ≤ 17 ∧ Src 74 b cv w' ∧ w.grownBy w' (some b) := by
  have hb := S.lt
  go_enter Try.func73, Try.ntmps73
  go_wp2_with fail
  refine (l01Next_any b cv 10 _ S (by omega)).mono ?_
  rintro e w1 ⟨x, rfl, ⟨hx0, hx1, -⟩, S1, G1⟩
  have hx2 := hx1 (by omega)
  obtain ⟨x', rfl⟩ := Int.eq_ofNat_of_zero_le hx0
  clear hx1 hx0
  go_wp2_with fail
  refine (l01Next_any b cv 8 _ S1 (by omega)).mono ?_
  rintro e w2 ⟨y, rfl, -, S2, G2⟩
  have G2' := grown_trans G1 G2
  by_cases c0 : y = 0
  · have hb2 := S2.lt
    go_wp2_with fail
    refine (l01Pick_any b cv _ [16, 15, 1] _ (S2.alloc _) (RdI_lits [16, 15, 1] w2 2 (by simp)) (.inr (by simp [Value.ownBlock]; omega)) (by simp) (by simp)).mono ?_
    rintro e w3 ⟨ni, rfl, hn, S3, G3⟩
    have hn' : 1 ≤ ni ∧ ni ≤ 16 := by simp at hn; omega
    have G3' := grown_trans (gb_alloc G2' _) G3
    clear hn
    obtain ⟨n, rfl⟩ := Int.eq_ofNat_of_zero_le (show 0 ≤ ni by omega)
    have hn1 : 1 ≤ n := by omega
    have hn2 : n ≤ 16 := by omega
    clear hn' S1 S2 G1 G2 G2' G3
    go_wp2_with fail
    refine (l02Draw_any b cv n _ S3 (by omega)).mono ?_
    rintro e w4 ⟨r, zs, rfl, O4, hz4, S4, G4⟩
    have HZ := hid hz4
    clear hz4
    have O4 := O4.lower G3'.size
    have G4 := grown_trans G3' G4
    go_wp2_with fail
    refine (l01Next_any b cv 10 _ S4 (by omega)).mono ?_
    rintro e w5 ⟨u, rfl, -, S5, G5⟩
    have O5 := O4.away G5 hb
    have G5' := grown_trans G4 G5
    clear O4 S4 G4 G5 S3 G3'
    by_cases c1 : 0 < u
    · obtain ⟨ao0, cap0, rfl⟩ := O5.form
      obtain ⟨g0, rfl⟩ := O5.addr (by rw [HZ.out]; omega)
      have hfr := O5.free 0
      have hc := O5.cell 0 (by rw [HZ.out]; omega)
      have hg := O5.glt
      have O5s := of_set O5 0 first
      have S5s := S5.grown (grown_set w5 g0 0 (.int .i64 first)) (fun r hr => by cases hr; omega)
      have G5s := gb_then G5' (grown_set w5 g0 0 (.int .i64 first)) (fun r hr => by cases hr; exact .inl hg.1)
      have hpos : (0 : Int) < (zs.length : Int) := by rw [HZ.out]; omega
      have HO5 := hid O5s
      clear O5 S5 G5' O5s
      have O5s := HO5.out
      clear HO5
      go_wp2_with fail
      refine (l01Next_any b cv 30 _ S5s (by omega)).mono ?_
      rintro e w6 ⟨z, rfl, -, S6, G6⟩
      have O6 := O5s.away G6 hb
      have G6' := grown_trans G5s G6
      clear O5s S5s G5s G6
      by_cases s0 : z = 0
      · have O7 := OwnI.lit w6 w.heap.size G6'.size
        have S7 := S6.alloc (.cells #[] 2)
        have G7 := gb_alloc G6' (.cells #[] 2)
        go_wp2
        go_ret
        exact ⟨_, [], rfl, O7, by simp, S7, G7⟩
      by_cases s1 : z = 1
      · have HO := hid O6
        have hlim := O6.lim
        have HL := hid ((by rw [List.length_set]; exact HZ.out : (zs.set 0 first).length = n))
        clear O6
        go_wp2_with fail
        refine (l01Next_any b cv (n : Int) _ S6 (by omega)).mono ?_
        rintro e w7 ⟨q, rfl, ⟨hq0, hq1, -⟩, S7, G7⟩
        have hq2 := hq1 (by omega)
        clear hq1
        have hb7 := S7.lt
        go_wp2_with fail
        refine (l01Pick_any b cv _ [-1, 10007] _ (S7.alloc _) (RdI_lits [-1, 10007] w7 2 (by simp)) (.inr (by simp [Value.ownBlock]; omega)) (by simp) (by simp)).mono ?_
        rintro e w8 ⟨r, rfl, -, S8, G8⟩
        have O8 := ((HO.out.away G7 hb).mono (below_alloc w7 _)).away G8 hb
        have G8' := grown_trans (gb_alloc (grown_trans G6' G7) _) G8
        obtain ⟨k, rfl⟩ := Int.eq_ofNat_of_zero_le hq0
        have hfr := O8.free k
        have hc := O8.cell k (by have := HL.out; omega)
        have hg := O8.glt
        have O9 := of_set O8 k r
        have S9 := S8.grown (grown_set w8 g0 k (.int .i64 r)) (fun r hr => by cases hr; omega)
        have G9 := gb_then G8' (grown_set w8 g0 k (.int .i64 r)) (fun r hr => by cases hr; exact .inl hg.1)
        have hkk : (k : Int) < (zs.length : Int) := by have := HZ.out; omega
        have HO9 := hid O9
        clear O8 O9 HO G7 G8 G6' hq0
        go_wp2
        go_ret
        exact ⟨_, _, rfl, HO9.out, by have := HL.out; rw [List.length_set]; omega, S9, G9⟩
      by_cases s2 : z = 2
      · have HL := hid ((by rw [List.length_set]; exact HZ.out : (zs.set 0 first).length = n))
        go_wp2
        go_loopw [6] (fun o wr => ∃ (ys : List Int), OwnI w.heap.size wr o ys ∧ ys.length ≤ 17 ∧ Src 74 b cv wr ∧ w.grownBy wr (some b)) (fun o _ => 17 - OwnLen o)
        case atStart => exact ⟨_, O6, by have := HL.out; omega, S6, G6'⟩
        case round =>
          obtain ⟨ys, O, hy, S, G⟩ := hrel
          obtain ⟨ao2, cap2, rfl⟩ := O.form
          have hG := G.size
          have hlt := O.own_lt
          have HO := hid O
          clear O6
          by_cases hle : ys.length ≤ 16
          · have hle' : (ys.length : Int) ≤ 16 := by omega
            go_wp2_with (at_builtin; refine wpl_app rfl _ _ _ rfl Try.underlying22 info_i64 rfl (HO.out.mono (below_alloc _ _)) ⟨wr.heap.size, 0, none⟩ 1 _ rfl (cell_new1 _ _ _) (by omega) (by simp <;> omega) ?_; intro v' W1 O9 G9 B9)
            have S9 := (S.alloc (.cells #[.int .i64 1] 2)).grown G9 (fun r hr => by have := hlt r hr; omega)
            have G10 := gb_then (gb_alloc G (.cells #[.int .i64 1] 2)) G9 (fun r hr => .inl (hlt r hr).1)
            obtain ⟨ao9, cap9, rfl⟩ := O9.form
            clear G9 B9 hlt
            go_roundw
            case rel => exact ⟨_, O9, by simp only [List.length_append, List.length_singleton]; omega, S9, G10⟩
            case measure => simp only [OwnLen, List.length_append, List.length_singleton]; omega
          · have hle' : (16 : Int) < (ys.length : Int) := by omega
            go_wp2
            go_ret
            exact ⟨_, _, rfl, HO.out, hy, S, G⟩
      · go_wp2
        go_ret
        exact ⟨_, _, rfl, O6, by have := (by rw [List.length_set]; exact HZ.out : (zs.set 0 first).length = n); omega, S6, G6'⟩
    · obtain ⟨ao, cap, rfl⟩ := O5.form
      go_wp2_with fail
      refine (l01Next_any b cv 30 _ S5 (by omega)).mono ?_
      rintro e w6 ⟨z, rfl, -, S6, G6⟩
      have O6 := O5.away G6 hb
      have G6' := grown_trans G5' G6
      clear O5 S5 G5' G6
      by_cases s0 : z = 0
      · have O7 := OwnI.lit w6 w.heap.size G6'.size
        have S7 := S6.alloc (.cells #[] 2)
        have G7 := gb_alloc G6' (.cells #[] 2)
        go_wp2
        go_ret
        exact ⟨_, [], rfl, O7, by simp, S7, G7⟩
      by_cases s1 : z = 1
      · have HO := hid O6
        have hlim := O6.lim
        have HL := hid (show zs.length = n from HZ.out)
        clear O6
        go_wp2_with fail
        refine (l01Next_any b cv (n : Int) _ S6 (by omega)).mono ?_
        rintro e w7 ⟨q, rfl, ⟨hq0, hq1, -⟩, S7, G7⟩
        have hq2 := hq1 (by omega)
        clear hq1
        have hb7 := S7.lt
        go_wp2_with fail
        refine (l01Pick_any b cv _ [-1, 10007] _ (S7.alloc _) (RdI_lits [-1, 10007] w7 2 (by simp)) (.inr (by simp [Value.ownBlock]; omega)) (by simp) (by simp)).mono ?_
        rintro e w8 ⟨r, rfl, -, S8, G8⟩
        have O8 := ((HO.out.away G7 hb).mono (below_alloc w7 _)).away G8 hb
        have G8' := grown_trans (gb_alloc (grown_trans G6' G7) _) G8
        obtain ⟨k, rfl⟩ := Int.eq_ofNat_of_zero_le hq0
        obtain ⟨g, rfl⟩ := O8.addr (by have := HL.out; omega)
        have hfr := O8.free k
        have hc := O8.cell k (by have := HL.out; omega)
        have hg := O8.glt
        have O9 := of_set O8 k r
        have S9 := S8.grown (grown_set w8 g k (.int .i64 r)) (fun r hr => by cases hr; omega)
        have G9 := gb_then G8' (grown_set w8 g k (.int .i64 r)) (fun r hr => by cases hr; exact .inl hg.1)
        have hkk : (k : Int) < (zs.length : Int) := by have := HZ.out; omega
        have HO9 := hid O9
        clear O8 O9 HO G7 G8 G6' hq0
        go_wp2
        go_ret
        exact ⟨_, _, rfl, HO9.out, by have := HL.out; rw [List.length_set]; omega, S9, G9⟩
      by_cases s2 : z = 2
      · have HL := hid (show zs.length = n from HZ.out)
        go_wp2
        go_loopw [6] (fun o wr => ∃ (ys : List Int), OwnI w.heap.size wr o ys ∧ ys.length ≤ 17 ∧ Src 74 b cv wr ∧ w.grownBy wr (some b)) (fun o _ => 17 - OwnLen o)
        case atStart => exact ⟨_, O6, by have := HL.out; omega, S6, G6'⟩
        case round =>
          obtain ⟨ys, O, hy, S, G⟩ := hrel
          obtain ⟨ao2, cap2, rfl⟩ := O.form
          have hG := G.size
          have hlt := O.own_lt
          have HO := hid O
          clear O6
          by_cases hle : ys.length ≤ 16
          · have hle' : (ys.length : Int) ≤ 16 := by omega
            go_wp2_with (at_builtin; refine wpl_app rfl _ _ _ rfl Try.underlying22 info_i64 rfl (HO.out.mono (below_alloc _ _)) ⟨wr.heap.size, 0, none⟩ 1 _ rfl (cell_new1 _ _ _) (by omega) (by simp <;> omega) ?_; intro v' W1 O9 G9 B9)
            have S9 := (S.alloc (.cells #[.int .i64 1] 2)).grown G9 (fun r hr => by have := hlt r hr; omega)
            have G10 := gb_then (gb_alloc G (.cells #[.int .i64 1] 2)) G9 (fun r hr => .inl (hlt r hr).1)
            obtain ⟨ao9, cap9, rfl⟩ := O9.form
            clear G9 B9 hlt
            go_roundw
            case rel => exact ⟨_, O9, by simp only [List.length_append, List.length_singleton]; omega, S9, G10⟩
            case measure => simp only [OwnLen, List.length_append, List.length_singleton]; omega
          · have hle' : (16 : Int) < (ys.length : Int) := by omega
            go_wp2
            go_ret
            exact ⟨_, _, rfl, HO.out, hy, S, G⟩
      · go_wp2
        go_ret
        exact ⟨_, _, rfl, O6, by have := show zs.length = n from HZ.out; omega, S6, G6'⟩
  · obtain ⟨n, hn⟩ : ∃ n, n = 1 + x' := ⟨_, rfl⟩
    have hn0 : (1 : Int) + (x' : Int) = (n : Int) := by omega
    have hn1 : 1 ≤ n := by omega
    have hn2 : n ≤ 16 := by omega
    clear hn S1 G1 G2
    go_wp2_with fail
    clear hn0
    refine (l02Draw_any b cv n _ S2 (by omega)).mono ?_
    rintro e w4 ⟨r, zs, rfl, O4, hz4, S4, G4⟩
    have HZ := hid hz4
    clear hz4
    have O4 := O4.lower G2'.size
    have G4 := grown_trans G2' G4
    go_wp2_with fail
    refine (l01Next_any b cv 10 _ S4 (by omega)).mono ?_
    rintro e w5 ⟨u, rfl, -, S5, G5⟩
    have O5 := O4.away G5 hb
    have G5' := grown_trans G4 G5
    clear O4 S4 G4 G5 S2 G2'
    by_cases c1 : 0 < u
    · obtain ⟨ao0, cap0, rfl⟩ := O5.form
      obtain ⟨g0, rfl⟩ := O5.addr (by rw [HZ.out]; omega)
      have hfr := O5.free 0
      have hc := O5.cell 0 (by rw [HZ.out]; omega)
      have hg := O5.glt
      have O5s := of_set O5 0 first
      have S5s := S5.grown (grown_set w5 g0 0 (.int .i64 first)) (fun r hr => by cases hr; omega)
      have G5s := gb_then G5' (grown_set w5 g0 0 (.int .i64 first)) (fun r hr => by cases hr; exact .inl hg.1)
      have hpos : (0 : Int) < (zs.length : Int) := by rw [HZ.out]; omega
      have HO5 := hid O5s
      clear O5 S5 G5' O5s
      have O5s := HO5.out
      clear HO5
      go_wp2_with fail
      refine (l01Next_any b cv 30 _ S5s (by omega)).mono ?_
      rintro e w6 ⟨z, rfl, -, S6, G6⟩
      have O6 := O5s.away G6 hb
      have G6' := grown_trans G5s G6
      clear O5s S5s G5s G6
      by_cases s0 : z = 0
      · have O7 := OwnI.lit w6 w.heap.size G6'.size
        have S7 := S6.alloc (.cells #[] 2)
        have G7 := gb_alloc G6' (.cells #[] 2)
        go_wp2
        go_ret
        exact ⟨_, [], rfl, O7, by simp, S7, G7⟩
      by_cases s1 : z = 1
      · have HO := hid O6
        have hlim := O6.lim
        have HL := hid ((by rw [List.length_set]; exact HZ.out : (zs.set 0 first).length = n))
        clear O6
        go_wp2_with fail
        refine (l01Next_any b cv (n : Int) _ S6 (by omega)).mono ?_
        rintro e w7 ⟨q, rfl, ⟨hq0, hq1, -⟩, S7, G7⟩
        have hq2 := hq1 (by omega)
        clear hq1
        have hb7 := S7.lt
        go_wp2_with fail
        refine (l01Pick_any b cv _ [-1, 10007] _ (S7.alloc _) (RdI_lits [-1, 10007] w7 2 (by simp)) (.inr (by simp [Value.ownBlock]; omega)) (by simp) (by simp)).mono ?_
        rintro e w8 ⟨r, rfl, -, S8, G8⟩
        have O8 := ((HO.out.away G7 hb).mono (below_alloc w7 _)).away G8 hb
        have G8' := grown_trans (gb_alloc (grown_trans G6' G7) _) G8
        obtain ⟨k, rfl⟩ := Int.eq_ofNat_of_zero_le hq0
        have hfr := O8.free k
        have hc := O8.cell k (by have := HL.out; omega)
        have hg := O8.glt
        have O9 := of_set O8 k r
        have S9 := S8.grown (grown_set w8 g0 k (.int .i64 r)) (fun r hr => by cases hr; omega)
        have G9 := gb_then G8' (grown_set w8 g0 k (.int .i64 r)) (fun r hr => by cases hr; exact .inl hg.1)
        have hkk : (k : Int) < (zs.length : Int) := by have := HZ.out; omega
        have HO9 := hid O9
        clear O8 O9 HO G7 G8 G6' hq0
        go_wp2
        go_ret
        exact ⟨_, _, rfl, HO9.out, by have := HL.out; rw [List.length_set]; omega, S9, G9⟩
      by_cases s2 : z = 2
      · have HL := hid ((by rw [List.length_set]; exact HZ.out : (zs.set 0 first).length = n))
        go_wp2
        go_loopw [6] (fun o wr => ∃ (ys : List Int), OwnI w.heap.size wr o ys ∧ ys.length ≤ 17 ∧ Src 74 b cv wr ∧ w.grownBy wr (some b)) (fun o _ => 17 - OwnLen o)
        case atStart => exact ⟨_, O6, by have := HL.out; omega, S6, G6'⟩
        case round =>
          obtain ⟨ys, O, hy, S, G⟩ := hrel
          obtain ⟨ao2, cap2, rfl⟩ := O.form
          have hG := G.size
          have hlt := O.own_lt
          have HO := hid O
          clear O6
          by_cases hle : ys.length ≤ 16
          · have hle' : (ys.length : Int) ≤ 16 := by omega
            go_wp2_with (at_builtin; refine wpl_app rfl _ _ _ rfl Try.underlying22 info_i64 rfl (HO.out.mono (below_alloc _ _)) ⟨wr.heap.size, 0, none⟩ 1 _ rfl (cell_new1 _ _ _) (by omega) (by simp <;> omega) ?_; intro v' W1 O9 G9 B9)
            have S9 := (S.alloc (.cells #[.int .i64 1] 2)).grown G9 (fun r hr => by have := hlt r hr; omega)
            have G10 := gb_then (gb_alloc G (.cells #[.int .i64 1] 2)) G9 (fun r hr => .inl (hlt r hr).1)
            obtain ⟨ao9, cap9, rfl⟩ := O9.form
            clear G9 B9 hlt
            go_roundw
            case rel => exact ⟨_, O9, by simp only [List.length_append, List.length_singleton]; omega, S9, G10⟩
            case measure => simp only [OwnLen, List.length_append, List.length_singleton]; omega
          · have hle' : (16 : Int) < (ys.length : Int) := by omega
            go_wp2
            go_ret
            exact ⟨_, _, rfl, HO.out, hy, S, G⟩
      · go_wp2
        go_ret
        exact ⟨_, _, rfl, O6, by have := (by rw [List.length_set]; exact HZ.out : (zs.set 0 first).length = n); omega, S6, G6'⟩
    · obtain ⟨ao, cap, rfl⟩ := O5.form
      go_wp2_with fail
      refine (l01Next_any b cv 30 _ S5 (by omega)).mono ?_
      rintro e w6 ⟨z, rfl, -, S6, G6⟩
      have O6 := O5.away G6 hb
      have G6' := grown_trans G5' G6
      clear O5 S5 G5' G6
      by_cases s0 : z = 0
      · have O7 := OwnI.lit w6 w.heap.size G6'.size
        have S7 := S6.alloc (.cells #[] 2)
        have G7 := gb_alloc G6' (.cells #[] 2)
        go_wp2
        go_ret
        exact ⟨_, [], rfl, O7, by simp, S7, G7⟩
      by_cases s1 : z = 1
      · have HO := hid O6
        have hlim := O6.lim
        have HL := hid (show zs.length = n from HZ.out)
        clear O6
        go_wp2_with fail
        refine (l01Next_any b cv (n : Int) _ S6 (by omega)).mono ?_
        rintro e w7 ⟨q, rfl, ⟨hq0, hq1, -⟩, S7, G7⟩
        have hq2 := hq1 (by omega)
        clear hq1
        have hb7 := S7.lt
        go_wp2_with fail
        refine (l01Pick_any b cv _ [-1, 10007] _ (S7.alloc _) (RdI_lits [-1, 10007] w7 2 (by simp)) (.inr (by simp [Value.ownBlock]; omega)) (by simp) (by simp)).mono ?_
        rintro e w8 ⟨r, rfl, -, S8, G8⟩
        have O8 := ((HO.out.away G7 hb).mono (below_alloc w7 _)).away G8 hb
        have G8' := grown_trans (gb_alloc (grown_trans G6' G7) _) G8
        obtain ⟨k, rfl⟩ := Int.eq_ofNat_of_zero_le hq0
        obtain ⟨g, rfl⟩ := O8.addr (by have := HL.out; omega)
        have hfr := O8.free k
        have hc := O8.cell k (by have := HL.out; omega)
        have hg := O8.glt
        have O9 := of_set O8 k r
        have S9 := S8.grown (grown_set w8 g k (.int .i64 r)) (fun r hr => by cases hr; omega)
        have G9 := gb_then G8' (grown_set w8 g k (.int .i64 r)) (fun r hr => by cases hr; exact .inl hg.1)
        have hkk : (k : Int) < (zs.length : Int) := by have := HZ.out; omega
        have HO9 := hid O9
        clear O8 O9 HO G7 G8 G6' hq0
        go_wp2
        go_ret
        exact ⟨_, _, rfl, HO9.out, by have := HL.out; rw [List.length_set]; omega, S9, G9⟩
      by_cases s2 : z = 2
      · have HL := hid (show zs.length = n from HZ.out)
        go_wp2
        go_loopw [6] (fun o wr => ∃ (ys : List Int), OwnI w.heap.size wr o ys ∧ ys.length ≤ 17 ∧ Src 74 b cv wr ∧ w.grownBy wr (some b)) (fun o _ => 17 - OwnLen o)
        case atStart => exact ⟨_, O6, by have := HL.out; omega, S6, G6'⟩
        case round =>
          obtain ⟨ys, O, hy, S, G⟩ := hrel
          obtain ⟨ao2, cap2, rfl⟩ := O.form
          have hG := G.size
          have hlt := O.own_lt
          have HO := hid O
          clear O6
          by_cases hle : ys.length ≤ 16
          · have hle' : (ys.length : Int) ≤ 16 := by omega
            go_wp2_with (at_builtin; refine wpl_app rfl _ _ _ rfl Try.underlying22 info_i64 rfl (HO.out.mono (below_alloc _ _)) ⟨wr.heap.size, 0, none⟩ 1 _ rfl (cell_new1 _ _ _) (by omega) (by simp <;> omega) ?_; intro v' W1 O9 G9 B9)
            have S9 := (S.alloc (.cells #[.int .i64 1] 2)).grown G9 (fun r hr => by have := hlt r hr; omega)
            have G10 := gb_then (gb_alloc G (.cells #[.int .i64 1] 2)) G9 (fun r hr => .inl (hlt r hr).1)
            obtain ⟨ao9, cap9, rfl⟩ := O9.form
            clear G9 B9 hlt
            go_roundw
            case rel => exact ⟨_, O9, by simp only [List.length_append, List.length_singleton]; omega, S9, G10⟩
            case measure => simp only [OwnLen, List.length_append, List.length_singleton]; omega
          · have hle' : (16 : Int) < (ys.length : Int) := by omega
            go_wp2
            go_ret
            exact ⟨_, _, rfl, HO.out, hy, S, G⟩
      · go_wp2
        go_ret
        exact ⟨_, _, rfl, O6, by have := show zs.length = n from HZ.out; omega, S6, G6'⟩
end Go.Proofs.Ytnjaalblgakgaaa
