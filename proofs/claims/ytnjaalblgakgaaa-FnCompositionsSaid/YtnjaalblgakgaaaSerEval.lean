/-
  The walks of the values of series.
-/
import Derived.Test.YtnjaalblgakgaaaSerScale
import Derived.Test.YtnjaalblgakgaaaBack
namespace Go.Proofs.Ytnjaalblgakgaaa
open Go.RowKit Go.Shelf
set_option maxRecDepth 100000
attribute [local go_sem] Oper.semAt_some
/-- The first k rounds of Horner's scheme from the last of n coefficients. -/
def hz (c : F) (A : PS) (n : Nat) : Nat → F
  | 0 => 0
  | k + 1 => hz c A n k * c + A (n - 1 - k)
theorem hz_sm (c : F) (A : PS) (n k : Nat) (h : k ≤ n) : hz c A n k = PS.sm (fun i => A (n - k + i) * c ^ i) k := by
  induction k with
  | zero => rfl
  | succ k ih =>
    rw [hz, ih (by omega), PS.sm_head]
    have e : PS.sm (fun i => A (n - (k + 1) + (i + 1)) * c ^ (i + 1)) k = c * PS.sm (fun i => A (n - k + i) * c ^ i) k := by
      rw [← PS.sm_mul]
      apply PS.sm_congr
      intro i hi
      rw [show n - (k + 1) + (i + 1) = n - k + i by omega, pow_succ]
      grind
    rw [e, pow_zero, show n - (k + 1) + 0 = n - 1 - k by omega]
    grind
/-- The value of a series with n coefficients. -/
def evS (c : F) (A : PS) (n : Nat) : F := PS.sm (fun i => A i * c ^ i) n
theorem hz_ev (c : F) (A : PS) (n : Nat) : hz c A n n = evS c A n := by
  rw [hz_sm c A n n (Nat.le_refl _), evS]
  apply PS.sm_congr
  intro i _
  rw [show n - n + i = i by omega]
def evalR (zs : List Int) (k : Int) : Int × Int := if code1 zs k = 0 then (vI (evS (fI k) (ser zs) zs.length), 0) else (0, code1 zs k)
/-- The sum that Horner's scheme has reached when some pairs have come. -/
def horn (c : F) (A : PS) (pre : List (Nat × Int)) (n : Nat) : F := hz c A n pre.length
/-- Horner's scheme as the machine reckons it. -/
def hornW (k : Int) (pre : List (Nat × Int)) : Int := pre.foldl (fun s x => wrap64 (wrap64 (s * k) + x.2) % 10007) 0
theorem hornW_snoc (k : Int) (pre : List (Nat × Int)) (x : Nat × Int) : hornW k (pre ++ [x]) = wrap64 (wrap64 (hornW k pre * k) + x.2) % 10007 := by simp [hornW]
theorem hornW_back (c : F) (A : PS) (zs : List Int) (hE : ∀ i, i < zs.length → el zs i = vI (A i)) (j : Nat) (hj : j ≤ zs.length) : hornW (vI c) (back zs j) = vI (hz c A zs.length j) := by
  induction j with
  | zero => simp [hornW, back, hz, vI_zero]
  | succ j ih =>
    rw [back, hornW_snoc, ih (by omega), hz, vI_add, vI_mul, hE _ (by omega)]
    have b1 := vI_bd (hz c A zs.length j)
    have b2 := vI_bd c
    have b3 := vI_bd (A (zs.length - 1 - j))
    have m := mul_bd b1.1 b1.2 b2.1 b2.2
    rw [IntWalk.wrap64_in (vI (hz c A zs.length j) * vI c) (by omega), IntWalk.wrap64_in _ (by omega)]
    omega
set_option maxRecDepth 100000 in
set_option maxHeartbeats 4000000 in
theorem evaluateSeries_any (v : Value) (k : Int) (zs : List Int) (w : World) (h : RdI w v zs) :
    Calls Try.prog 36 #[v, .int .i64 k] w fun e w' => e = .returned (.tuple #[.int .i64 (evalR zs k).1, .int .i64 (evalR zs k).2]) ∧ Below w.heap.size w w' := by
  obtain ⟨ao, cap, rfl⟩ := h.form
  have hA0 := below_alloc w (.cells #[.int .i64 k] 2)
  have hA1 := below_alloc (w.alloc (.cells #[.int .i64 k] 2)) (.cells #[.slice ao zs.length cap] 22)
  have hA2 := below_alloc ((w.alloc (.cells #[.int .i64 k] 2)).alloc (.cells #[.slice ao zs.length cap] 22)) (.cells #[.int .i64 k] 2)
  have hlit := (RdII_lit1 _ _ zs 22 (h.mono hA0)).mono hA2
  rw [show (w.alloc (.cells #[.int .i64 k] 2)).heap.size = w.heap.size + 1 by simp] at hlit
  have hlit2 := RdI_lit1 ((w.alloc (.cells #[.int .i64 k] 2)).alloc (.cells #[.slice ao zs.length cap] 22)) k 2
  rw [show ((w.alloc (.cells #[.int .i64 k] 2)).alloc (.cells #[.slice ao zs.length cap] 22)).heap.size = w.heap.size + 1 + 1 by simp] at hlit2
  have hB := nx (nx hA0 hA1) hA2
  have bZ := ((Boxed.new w 2 (.int .i64 k)).alloc (.cells #[.slice ao zs.length cap] 22)).alloc (.cells #[.int .i64 k] 2)
  by_cases hc : code1 zs k = 0
  · obtain ⟨hs, hk⟩ := code1_zero hc
    have s1 := isSer_yes hs
    have nk := isNum_yes hk
    obtain ⟨A, hA⟩ : ∃ A, A = ser zs := ⟨_, rfl⟩
    obtain ⟨c, hcc⟩ : ∃ c, c = fI k := ⟨_, rfl⟩
    have HR : Hid (evalR zs k = (vI (evS c A zs.length), 0)) := by simp [Hid, evalR, hc, hA, hcc]
    have HE : Hid (∀ i, i < zs.length → el zs i = vI (A i)) := by
      simp only [Hid]; intro i hi
      have := lst_el zs.length A i hi
      rw [hA, lst_ser s1.2.2] at this
      rw [hA]; exact this
    have hkc : k = vI c := by rw [hcc, vI_fI_num hk]
    have HK := hid hkc
    have HC := hid hc
    have hH := hid h
    clear hs hk s1 hA hc hcc hkc h
    refine (callsIn_wide (n := 5)).1 ?_
    refine callsIn_of_wp_marks Try.func36 rfl trivial ?_ rfl
    simp only [Try.ntmps36, List.size_toArray, List.length_cons, List.length_nil, Nat.reduceAdd, Nat.reduceSub, Array.replicate_succ, Array.replicate_zero, List.push_toArray, List.append_toArray, List.nil_append, List.cons_append]
    gi_wp2_with fail
    refine ⟨trivial, ?_⟩
    refine (callsIn_wide.2 (checkSeries_any _ _ [zs] [k] _ hlit hlit2)).mono ?_; rintro e w' ⟨rfl, rfl⟩; rw [serCode1', HC.out]
    obtain ⟨W0, hW0⟩ : ∃ W0, W0 = (((w.alloc (.cells #[.int .i64 k] 2)).alloc (.cells #[.slice ao zs.length cap] 22)).alloc (.cells #[.int .i64 k] 2)) := ⟨_, rfl⟩
    have hsz : W0.heap.size = w.heap.size + 3 := by rw [hW0]; simp
    rw [← hW0] at hB bZ ⊢
    clear hlit hlit2 hA0 hA1 hA2 hW0
    gi_wp2_with (refine ⟨trivial, ?_⟩; gi_at_call 85; refine (back_in Fence.wide _ trivial rfl _ _ _ _).mono ?_; rintro e w' ⟨rfl, rfl⟩)
    have bS := Boxed.new W0 2 (.int .i64 0)
    have bN := Boxed.new (W0.alloc (.cells #[.int .i64 0] 2)) 22 (.slice ao zs.length cap)
    have hB0 := nx (nx hB (below_alloc W0 (.cells #[.int .i64 0] 2))) (below_alloc _ (.cells #[.slice ao zs.length cap] 22))
    rw [World.size_alloc] at bN
    have bZ2 := (bZ.alloc (.cells #[.int .i64 0] 2)).alloc (.cells #[.slice ao zs.length cap] 22)
    have bS2 := bS.alloc (.cells #[.slice ao zs.length cap] 22)
    rw [hsz] at bS bN bS2
    obtain ⟨W1, hW1⟩ : ∃ W1, W1 = (W0.alloc (.cells #[.int .i64 0] 2)).alloc (.cells #[.slice ao zs.length cap] 22) := ⟨_, rfl⟩
    have hsz1 : W1.heap.size = w.heap.size + 5 := by rw [hW1]; simp [hsz]
    rw [← hW1] at hB0 bN bZ2 bS2 ⊢
    clear bS bZ hW1 hsz hB
    refine wpIn_rangeFunc_ownF rfl (by omega) (gf := 104) (lb := #[.pointer (some ⟨w.heap.size + 3 + 1, 0, none⟩)]) rfl trivial (enters_of Try.func104 (by kernel_rfl) rfl)
      (back_stops Fence.wide _ trivial rfl (by omega) (w.heap.size + 3 + 1) (.slice ao zs.length cap) zs w W1 hB0 bN hH.out) backK_t (backK_b (by omega) (by omega)) (Below.refl _ _) (fun _ => rfl)
      (fun pre W => (Boxed W (w.heap.size + 3) 2 (.int .i64 (hornW k pre)) ∧ Boxed W w.heap.size 2 (.int .i64 k)) ∧ Below w.heap.size w W)
      (fun _ _ _ => False)
      (OwnFrom.and (OwnFrom.and (Own.from (boxed_own _ _ _) _) (Own.from (boxed_own _ _ _) _)) (ownFrom_below (Nat.le_refl _) (by omega)))
      (fun _ _ _ _ _ hs _ _ => hs)
      ⟨⟨bS2, bZ2⟩, hB0⟩
      ?a1 ?assign ?body ?done ?stop
    case assign =>
      intro l x W K hK
      gi_wp2
      exact hK
    case body =>
      rintro l pre x W ⟨⟨b1, b2⟩, hBl⟩ _
      have c1 := b1.cell
      have c2 := b2.cell
      have f1 := b1.frozen
      have hd : 1 ≤ 5 - 1 - 1 := by omega
      gi_wp2_with (refine ⟨trivial, ?_⟩; gi_at_call 63; refine (CallsIn.inRound l (callsIn_wide.2 (num_any _ _))).mono ?_; rintro e w' ⟨rfl, rfl⟩)
      exact ⟨KeepsOthers.setCell _ _ _, ⟨(Below.refl w.heap.size W).setCell (p := ⟨w.heap.size + 3, 0, none⟩) (by simp) _, fun v b => b.other (by omega) _⟩, ⟨by rw [hornW_snoc]; exact b1.set _, b2.other (by omega) _⟩, hBl.setCell (p := ⟨w.heap.size + 3, 0, none⟩) (by simp) _⟩
    case done =>
      rintro D ys W hD rfl ⟨⟨b1, b2⟩, hBl⟩ hK
      have c1 := b1.cell
      gi_wp2
      refine ⟨by simp, .inl ⟨_, _, rfl, run_takeDeferred hK, ?_⟩⟩
      refine ⟨_, results_tmp2 rfl _ _ _, ?_, hBl.trans (belowK_b (w := w) (Nat.le_refl _) W D _ _ (by omega) hK rfl rfl)⟩
      rw [HR.out, ← hz_ev, ← hornW_back c A zs HE.out zs.length (Nat.le_refl _), ← HK.out]
      rfl
    case stop =>
      rintro D c pre W _ _ h _
      exact h.elim
  · have HR : Hid (evalR zs k = (0, code1 zs k)) := by simp [Hid, evalR, hc]
    have hb : (code1 zs k != 0) = true := by simpa using hc
    clear hc
    go_enter Try.func36, Try.ntmps36
    go_wp2_with fail
    refine (checkSeries_any _ _ [zs] [k] _ hlit hlit2).mono ?_; rintro e w' ⟨rfl, rfl⟩; rw [serCode1']
    go_wp2
    go_ret2
    rw [HR.out]
    exact ⟨rfl, hB⟩
end Go.Proofs.Ytnjaalblgakgaaa
