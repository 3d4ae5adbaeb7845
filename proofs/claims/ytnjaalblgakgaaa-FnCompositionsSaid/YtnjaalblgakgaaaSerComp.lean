/-
  The walks of compositions.
-/
import Derived.Test.YtnjaalblgakgaaaSerEval
import Derived.Test.YtnjaalblgakgaaaSerPow
import Derived.Test.YtnjaalblgakgaaaSerMul
import Derived.Test.YtnjaalblgakgaaaComp
namespace Go.Proofs.Ytnjaalblgakgaaa
open Go.RowKit Go.Shelf
set_option maxRecDepth 100000
attribute [local go_sem] Oper.semAt_some
/-- Compositions by Horner's scheme as the machine reckons them. -/
def cmpW (B : PS) (pre : List (Nat × Int)) : PS := pre.foldl (fun f x => fun i => if i = 0 then fI (wrap64 (vI (PS.mul f B 0) + x.2)) else PS.mul f B i) (fun _ => 0)
theorem cmpW_snoc (B : PS) (pre : List (Nat × Int)) (x : Nat × Int) : cmpW B (pre ++ [x]) = fun i => if i = 0 then fI (wrap64 (vI (PS.mul (cmpW B pre) B 0) + x.2)) else PS.mul (cmpW B pre) B i := by simp [cmpW]
theorem cmpW_back (A B : PS) (n j : Nat) (hj : j ≤ n) : cmpW B (back (lst n A) j) = PS.compF j (fun i => A (n - j + i)) B := by
  induction j with
  | zero => rfl
  | succ j ih =>
    rw [back, cmpW_snoc, ih (by omega), PS.compF, lst_length, lst_el _ _ _ (by omega)]
    have e : PS.tl (fun i => A (n - (j + 1) + i)) = fun i => A (n - j + i) := by
      funext i; simp only [PS.tl]; rw [show n - (j + 1) + (i + 1) = n - j + i by omega]
    rw [e]
    funext i
    have b1 := vI_bd (PS.mul (PS.compF j (fun i => A (n - j + i)) B) B 0)
    have b2 := vI_bd (A (n - 1 - j))
    simp only [PS.add, PS.cst]
    rw [PS.mul_comm B]
    by_cases hi : i = 0
    · subst hi
      rw [if_pos rfl, if_pos rfl, IntWalk.wrap64_in _ (by omega)]
      apply vI_inj
      rw [vI_fI, vI_add, show n - (j + 1) + 0 = n - 1 - j by omega, Int.add_comm]
    · rw [if_neg hi, if_neg hi]; grind
theorem cmpW_all (A B : PS) (n : Nat) (h0 : B 0 = 0) : lst n (cmpW B (back (lst n A) n)) = lst n (PS.comp A B) := by
  rw [cmpW_back _ _ _ _ (Nat.le_refl _)]
  apply lst_congr
  intro i hi
  rw [show (fun i => A (n - n + i)) = A by funext i; rw [show n - n + i = i by omega]]
  exact PS.compF_stable h0 _ _ _ _ hi (by omega)
theorem ownI_own {β : Type} (n₀ B : Nat) (t : TypeId) (f : β → List Int) : Own (fun s W => ∃ v, Boxed W B t v ∧ OwnI n₀ W v (f s)) := by
  rintro s X Y row ⟨v, hv, hr⟩ hg hrow
  obtain ⟨v', h1, h2, h3⟩ := holdsRow_own n₀ B t 2 1 (fun s : β => (f s).length) (fun s => (f s).map (Value.int .i64)) (fun s _ => (f s).length ≤ 1048576) s X Y row ⟨v, hv, hr.1, hr.2⟩ hg hrow
  exact ⟨v', h1, h2, h3⟩
theorem horner_end {n : Nat} {B : PS} {pre : List (Nat × Int)} {x : Nat × Int} {w W W3 : World} {g3 cap3 : Nat} {u : Value} {a : Act} (hBl : Below w.heap.size w W) (hg : W.heap.size ≤ g3)
    (O3 : OwnI W.heap.size W3 (.slice (some ⟨g3, 0, none⟩) n cap3) (lst n (PS.mul (cmpW B pre) B))) (K3 : KeepsOthers W W3) (B3 : Below w.heap.size W W3)
    (k5 : ∀ v, Boxed W (w.heap.size + 1 + 1 + 1) 22 v → Boxed W3 (w.heap.size + 1 + 1 + 1) 22 v)
    (b4 : Boxed W3 (w.heap.size + 1 + 1) 22 (.slice (some ⟨g3, 0, none⟩) n cap3)) (b5 : Boxed W3 w.heap.size 22 u) (hlt : w.heap.size + 1 + 1 < W.heap.size) :
    ownPostK (BackK w.heap.size (w.heap.size + 1 + 1 + 1))
      (fun pre W => ((∃ v, Boxed W (w.heap.size + 1 + 1) 22 v ∧ OwnI w.heap.size W v (lst n (cmpW B pre))) ∧ Boxed W w.heap.size 22 u) ∧ Below w.heap.size w W)
      (fun _ _ _ => False) (pre ++ [x]) W Exit.normal a
      (W3.setCell ⟨g3, 0, none⟩ (.int .i64 (IntKind.i64.wrap (vI (PS.mul (cmpW B pre) B 0) + x.2) % 10007))).drew := by
  have hv : IntKind.i64.wrap (vI (PS.mul (cmpW B pre) B 0) + x.2) % 10007 = vI (fI (wrap64 (vI (PS.mul (cmpW B pre) B 0) + x.2))) := by rw [vI_fI, IntKind.wrap_i64]; unfold wrap64; omega
  rw [hv]
  obtain ⟨O6, G6⟩ := O3.put 0 (fI (wrap64 (vI (PS.mul (cmpW B pre) B 0) + x.2)))
  have hb := hBl.size
  have B6 := (B3.setCell (p := ⟨g3, 0, none⟩) (by simp; omega) (.int .i64 (vI (fI (wrap64 (vI (PS.mul (cmpW B pre) B 0) + x.2)))))).drew
  refine ⟨K3.trans ((KeepsOthers.setCell _ _ _).trans (KeepsOthers.drew _)), ⟨B6, fun v b => (k5 v b).other (by have := b.lt; omega) _⟩, ⟨⟨_, b4.other (by omega) _, ?_⟩, b5.other (by omega) _⟩, hBl.trans B6⟩
  rw [cmpW_snoc]
  exact (O6.mono (below_drew _)).lower hb
set_option maxRecDepth 100000 in
set_option maxHeartbeats 4000000 in
theorem composeSeries_any (n : Nat) (A B : PS) (hB0 : B 0 = 0) (v u : Value) (w : World) (h : RdI w v (lst n A)) (h' : RdI w u (lst n B)) (hn : 1 ≤ n) :
    Calls Try.prog 64 #[v, u] w fun e w' => ∃ r, e = .returned r ∧ OwnI w.heap.size w' r (lst n (PS.comp A B)) ∧ Below w.heap.size w w' := by
  have H := hid h
  have H' := hid h'
  obtain ⟨ao, cap, rfl, hcap, hmax⟩ := h.formS
  obtain ⟨ao', cap', rfl, hcap', hmax'⟩ := h'.formS
  clear h h'
  have hmk := fun W => run_make_row' (P := Try.prog) 22 2 (.int .i64 0) 8 Try.underlying22 info_i64 rfl .i64 .i64 n (by omega) (by omega) W
  refine (callsIn_wide (n := 5)).1 ?_
  refine callsIn_of_wp_marks Try.func64 rfl trivial ?_ rfl
  simp only [Try.ntmps64, List.size_toArray, List.length_cons, List.length_nil, Nat.reduceAdd, Nat.reduceSub, Array.replicate_succ, Array.replicate_zero, List.push_toArray, List.append_toArray, List.nil_append, List.cons_append]
  gi_wp2_with (refine ⟨trivial, ?_⟩; gi_at_call 85; refine (back_in Fence.wide _ trivial rfl _ _ _ _).mono ?_; rintro e w' ⟨rfl, rfl⟩)
  have hA0 := below_alloc w (.cells #[.slice ao' n cap'] 22)
  have O0 := OwnI.made (w.alloc (.cells #[.slice ao' n cap'] 22)) n hmax w.heap.size (w.heap.size + 1) (by simp) (by omega)
  have hA1 := nx hA0 (below_alloc _ (.cells (madeCells #[Value.int .i64 0] n) 2))
  have bU := ((Boxed.new w 22 (.slice ao' n cap')).alloc (.cells (madeCells #[Value.int .i64 0] n) 2))
  obtain ⟨W0, hW0⟩ : ∃ W0, W0 = (w.alloc (.cells #[.slice ao' n cap'] 22)).alloc (.cells (madeCells #[Value.int .i64 0] n) 2) := ⟨_, rfl⟩
  have hsz : W0.heap.size = w.heap.size + 1 + 1 := by rw [hW0]; simp
  rw [← hW0] at O0 hA1 bU ⊢
  clear hA0 hW0 hmk
  have bO := (Boxed.new W0 22 (.slice (some ⟨w.heap.size + 1, 0, none⟩) n n)).alloc (.cells #[.slice ao n cap] 22)
  have bN := Boxed.new (W0.alloc (.cells #[.slice (some ⟨w.heap.size + 1, 0, none⟩) n n] 22)) 22 (.slice ao n cap)
  have hb1 := below_alloc W0 (.cells #[.slice (some ⟨w.heap.size + 1, 0, none⟩) n n] 22)
  have hb2 := below_alloc (W0.alloc (.cells #[.slice (some ⟨w.heap.size + 1, 0, none⟩) n n] 22)) (.cells #[.slice ao n cap] 22)
  have O1 := (O0.mono hb1).mono hb2
  have hB1 := nx (nx hA1 hb1) hb2
  have bU1 := (bU.alloc (.cells #[.slice (some ⟨w.heap.size + 1, 0, none⟩) n n] 22)).alloc (.cells #[.slice ao n cap] 22)
  rw [World.size_alloc] at bN
  rw [hsz] at bO bN
  obtain ⟨W1, hW1⟩ : ∃ W1, W1 = (W0.alloc (.cells #[.slice (some ⟨w.heap.size + 1, 0, none⟩) n n] 22)).alloc (.cells #[.slice ao n cap] 22) := ⟨_, rfl⟩
  have hsz1 : W1.heap.size = w.heap.size + 4 := by rw [hW1]; simp [hsz]
  rw [← hW1] at O1 hB1 bU1 bO bN ⊢
  clear hW1 hb1 hb2 O0 bU hA1 hsz
  refine wpIn_rangeFunc_ownF rfl (by omega) (gf := 104) (lb := #[.pointer (some ⟨w.heap.size + 1 + 1 + 1, 0, none⟩)]) rfl trivial (enters_of Try.func104 (by kernel_rfl) rfl)
    (back_stops Fence.wide _ trivial rfl (by omega) (w.heap.size + 1 + 1 + 1) (.slice ao n cap) (lst n A) w W1 hB1 bN H.out) backK_t (backK_b (by omega) (by omega)) (Below.refl _ _) (fun _ => rfl)
    (fun pre W => ((∃ v, Boxed W (w.heap.size + 1 + 1) 22 v ∧ OwnI w.heap.size W v (lst n (cmpW B pre))) ∧ Boxed W w.heap.size 22 (.slice ao' n cap')) ∧ Below w.heap.size w W)
    (fun _ _ _ => False)
    (OwnFrom.and (OwnFrom.and (Own.from (ownI_own _ _ _ _) _) (Own.from (boxed_own _ _ _) _)) (ownFrom_below (Nat.le_refl _) (by omega)))
    (fun _ _ _ _ _ hs _ _ => hs)
    ⟨⟨⟨_, bO, O1⟩, bU1⟩, hB1⟩
    ?a1 ?assign ?body ?done ?stop
  case assign =>
    intro l x W K hK
    gi_wp2
    exact hK
  case body =>
    rintro l pre x W ⟨⟨⟨v, b1, O⟩, b2⟩, hBl⟩ _
    obtain ⟨ao2, cap2, rfl⟩ := O.form
    obtain ⟨g, rfl⟩ := O.addr (by simp; omega)
    rw [lst_length] at b1 O
    have c1 := b1.cell
    have c2 := b2.cell
    have f1 := b1.frozen
    have hd : 1 ≤ 5 - 1 - 1 := by omega
    gi_wp2_with (refine ⟨trivial, ?_⟩; gi_at_call 81; refine (CallsIn.inRound l (callsIn_wide.2 (timesSeries_any n (cmpW B pre) B _ _ _ O.rd (H'.out.mono hBl)))).mono ?_; rintro e w2 ⟨r, rfl, O2, B2⟩; obtain ⟨ao3, cap3, rfl⟩ := O2.form; obtain ⟨g3, rfl⟩ := O2.addr (by simp; omega); rw [lst_length] at O2 ⊢; have b3 : Boxed w2 (w.heap.size + 1 + 1) 22 _ := (B2.block _ b1.lt).trans b1; have c3 := b3.cell; have f3 := b3.frozen)
    have b4 := b3.set (.slice (some ⟨g3, 0, none⟩) n cap3)
    have b5 : Boxed (w2.setCell ⟨w.heap.size + 1 + 1, 0, none⟩ (.slice (some ⟨g3, 0, none⟩) n cap3)) w.heap.size 22 (.slice ao' n cap') := Boxed.other ((B2.block _ b2.lt).trans b2) (by omega) _
    have hg3 := O2.glt
    have hlt1 := b1.lt
    have O3 := O2.grown (grownBy_setCell' w2 (w.heap.size + 1 + 1) (.slice (some ⟨g3, 0, none⟩) n cap3)) (.inr (by simp [Value.ownBlock]; omega))
    have K3 := (KeepsOthers.of_grownBy (grownBy_of_below B2 none) (fun j o e => by cases e)).trans (KeepsOthers.setCell w2 ⟨w.heap.size + 1 + 1, 0, none⟩ (.slice (some ⟨g3, 0, none⟩) n cap3))
    have B3 : Below w.heap.size W (w2.setCell ⟨w.heap.size + 1 + 1, 0, none⟩ (.slice (some ⟨g3, 0, none⟩) n cap3)) := (B2.mono hBl.size).setCell (p := ⟨w.heap.size + 1 + 1, 0, none⟩) (by simp; omega) _
    have k5 : ∀ v, Boxed W (w.heap.size + 1 + 1 + 1) 22 v → Boxed (w2.setCell ⟨w.heap.size + 1 + 1, 0, none⟩ (.slice (some ⟨g3, 0, none⟩) n cap3)) (w.heap.size + 1 + 1 + 1) 22 v := fun v b => Boxed.other ((B2.block _ b.lt).trans b) (by omega) _
    obtain ⟨W3, hW3⟩ : ∃ W3, W3 = w2.setCell ⟨w.heap.size + 1 + 1, 0, none⟩ (.slice (some ⟨g3, 0, none⟩) n cap3) := ⟨_, rfl⟩
    rw [← hW3] at b4 b5 O3 K3 B3 k5 ⊢
    clear hW3 b3 c3 f3 c1 c2 f1 O2
    have c4 := b4.cell
    have c6 := O3.cellS 0 (by omega)
    have f6 := O3.free 0
    have n0 : (0 : Int) < (n : Int) := by omega
    gi_wp2
    have hmx : Try.prog.follows .mixedOrders = true := by kernel_rfl
    gi_region_with_o (refine ⟨trivial, ?_⟩; gi_at_call 63; refine (CallsIn.inRound l (callsIn_wide.2 (num_any _ _))).mono ?_; rintro e w' ⟨rfl, rfl⟩)
    all_goals gi_wp2
    all_goals exact horner_end hBl hg3.1 O3 K3 B3 k5 b4 b5 hlt1
  case done =>
    rintro D ys W hD rfl ⟨⟨⟨v, b1, O⟩, b2⟩, hBl⟩ hK
    obtain ⟨ao2, cap2, rfl⟩ := O.form
    simp only [lst_length] at O b1
    have c1 := b1.cell
    gi_wp2
    refine ⟨by simp, .inl ⟨_, _, rfl, run_takeDeferred hK, ?_⟩⟩
    rw [cmpW_all _ _ _ hB0] at O
    exact ⟨_, results_tmp rfl _ _ _, _, rfl, ⟨ownsRow_putObj O.1 _ hK rfl, O.2⟩, hBl.trans (belowK_b (w := w) (Nat.le_refl _) W D _ _ (by omega) hK rfl rfl)⟩
  case stop =>
    rintro D c pre W _ _ h _
    exact h.elim
theorem l02Compose_any (n : Nat) (A B : PS) (hB0 : B 0 = 0) (v u : Value) (w : World) (h : RdI w v (lst n A)) (h' : RdI w u (lst n B)) (hn : 1 ≤ n) :
    Calls Try.prog 60 #[v, u] w fun e w' => ∃ r, e = .returned r ∧ OwnI w.heap.size w' r (lst n (PS.comp A B)) ∧ Below w.heap.size w w' := by
  obtain ⟨ao, cap, rfl, hcap, hmax⟩ := h.formS
  obtain ⟨ao', cap', rfl, hcap', hmax'⟩ := h'.formS
  have H := hid h
  have H' := hid h'
  clear h h'
  have hmk := fun W => run_make_row' (P := Try.prog) 22 2 (.int .i64 0) 8 Try.underlying22 info_i64 rfl .i64 .i64 n (by omega) (by omega) W
  go_enter Try.func60, Try.ntmps60
  go_upto_region 1 with fail
  go_cut [5, 6] (fun p s wx => OwnI w.heap.size wx p (lst n (PS.cst 1)) ∧ OwnI w.heap.size wx s (lst n (fun _ => 0)) ∧ Below w.heap.size w wx)
  case first =>
    go_region_with (first | (go_at_call 96; refine (l02Unit_any n 0 _ (by omega) (by omega) (by omega) (by omega)).mono ?_; rintro e w' ⟨r, rfl, O1, B1⟩))
    all_goals (go_wp2_with fail; go_meet)
    all_goals rw [unit_cst] at O1
    · exact two_a O1 B1 hmax
    · exact two_b O1 B1 hmax
  case rest =>
    obtain ⟨O1, O2, B1⟩ := hcut
    go_wp2
    go_loopw [5, 6, 7] (fun p s i wr => ∃ k : Nat, k ≤ n ∧ i = .int .i64 k ∧ OwnI w.heap.size wr p (lst n (PS.pw B k)) ∧ OwnI w.heap.size wr s (lst n (fun i => PS.sm (fun m => A m * PS.pw B m i) k)) ∧ Below w.heap.size w wr) (fun _ _ i _ => n - (intOf i).toNat)
    case atStart => exact ⟨0, Nat.zero_le _, rfl, O1, O2, B1⟩
    case round =>
      obtain ⟨k, hk, rfl, Op, Os, Bl⟩ := hrel
      by_cases hlt : k < n
      · have H2 := H'.out.mono Bl
        obtain ⟨b, off, rfl, hcell⟩ := (H.out.mono Bl).at_ (k := k) (by simp; omega)
        rw [lst_el _ _ _ hlt] at hcell
        go_wp2_with fail
        refine (l02Times_any n (PS.pw B k) (A k) _ _ Op.rd).mono ?_
        rintro e w2 ⟨s2, rfl, Os2, B2⟩
        go_wp2_with fail
        refine (l02Add_any n _ (PS.smul (A k) (PS.pw B k)) _ _ _ (Os.mono B2).rd Os2.rd).mono ?_
        rintro e w3 ⟨s3, rfl, Os3, B3⟩
        go_wp2_with fail
        refine (l02Mul_any n (PS.pw B k) B _ _ _ ((Op.mono B2).mono B3).rd ((H2.mono B2).mono B3)).mono ?_
        rintro e w4 ⟨p3, rfl, Op3, B4⟩
        go_wp2
        go_roundw
        case rel => exact ⟨k + 1, by omega, by go_num, Op3.lower (nx Bl (nx B2 B3)).size, (Os3.mono B4).lower (nx Bl B2).size, nx Bl (nx B2 (nx B3 B4))⟩
        case measure => simp [intOf]; omega
      · go_wp2
        go_ret
        obtain rfl : k = n := by omega
        have e : lst k (fun i => PS.sm (fun m => A m * PS.pw B m i) k) = lst k (PS.comp A B) := lst_congr fun i hi => by
          rw [← PS.compF_sum]; exact PS.compF_stable hB0 _ _ _ _ hi (by omega)
        rw [e] at Os
        exact ⟨_, rfl, Os, Bl⟩
end Go.Proofs.Ytnjaalblgakgaaa
