/-
  The law FnNumberTexts is proved of the program: for every input the call returns true, and each argument reads afterwards as it read before. Its conditions: the arguments can be read as data; the library's table of the powers of ten and its two errors read as the program's text lays them (the card ties them).
-/
import Derived.Test.YtmhcpaffdchboaaDoorRows
import Derived.Test.YtmhcpaffdchboaaDoorCards
import Derived.Test.YtmhcpaffdchboaaDoorTie
import Derived.Test.YtmhcpaffdchboaaDoorLaidWrap
import Derived.Test.YtmhcpaffdchboaaDoorParS
import Derived.Test.YtmhcpaffdchboaaDoorTxtR
import Derived.Test.YtmhcpaffdchboaaDoorDrawT
import Derived.Test.YtmhcpaffdchboaaDoorLawN
import Derived.WalkKit
import Derived.ProofKit
import Derived.LaidMore
import Derived.OpenShut
import Derived.ShutString
import Derived.ChangeOld
import Derived.Below
import Derived.Stop.Joined
import Derived.Lib.LaidTab
import Derived.SevenTiedAt
namespace Go.Proofs.YtmhcpaffdchboaaDoor.fnNumberTexts
open Go.ChangeShapes Go.WideShapes Go.ChangeAt Go.RowKit
open Go.ChangeMaps (open_string shut_string)
set_option linter.unusedVariables false
theorem own : ownKnob Tryd.prog.godebug = none := by kernel_rfl
theorem laidOut : laidOutB Tryd.prog = true := by kernel_rfl
def laids : List (String × DataW Unit) := Rows.fnNumberTextsRow.laid
theorem door_met (os : Os) (args : Array Value) : laidMetH Tryd.prog laids ((World.doorLaid Tryd.prog 62 os).forCall (fun _ _ => 0) ⟨#[], args, []⟩).memory :=
  laidMetH_of_parts3 (fuel := 8) (laidMet_of_run' 8 (by kernel_rfl) (by kernel_rfl)) (by kernel_rfl) (by kernel_rfl)
theorem mul_bd {a b : Int} (h1 : 0 ≤ a) (h2 : a ≤ 10006) (h3 : 0 ≤ b) (h4 : b ≤ 10006) : -100140049 ≤ a * b ∧ a * b ≤ 100140049 := by
  have h5 := Int.mul_nonneg h1 h3
  have h6 := Int.mul_le_mul h2 h4 h3 (by omega)
  omega
theorem nof_bd (p q : Int) : 0 ≤ (numberOfR p q).1 ∧ (numberOfR p q).1 ≤ 10006 := by
  unfold numberOfR
  split
  · split
    · exact ⟨by simp, by simp⟩
    · unfold frac; simp only; omega
  · exact ⟨by simp, by simp⟩
theorem nof_law (p q : Int) (h : (numberOfR p q).2 = 0) : (numberOfR p q).1 * (q % 10007) % 10007 = p % 10007 := by
  unfold numberOfR at h ⊢
  split at h
  · rename_i hb
    rw [if_pos hb]
    split at h
    · simp at h
    · rename_i hq
      rw [if_neg hq]
      simp only [frac]
      have hm := mul_inv (a := q % 10007) (by omega) (by omega)
      rw [Int.mul_emod, Int.emod_emod_of_dvd _ (Int.dvd_refl _), ← Int.mul_emod, Int.mul_assoc, Int.mul_comm (invM (q % 10007)), Int.mul_emod, hm, Int.mul_one, Int.emod_emod_of_dvd _ (Int.dvd_refl _), Int.emod_emod_of_dvd _ (Int.dvd_refl _)]
  · simp at h
set_option maxRecDepth 100000 in
set_option maxHeartbeats 8000000 in
theorem walk {w : World} (L : Lds w) (v0 : Value) (i0 : InB w v0) :
    Calls Tryd.prog 5 #[v0] w fun e w' => e = .returned (.bool true) ∧ Below w.heap.size w w' := by
  obtain ⟨ao0, n0, cap0, rfl, hn0, hin⟩ := i0
  by_cases hs0 : n0 ≤ 4096
  rotate_left
  · clear hin
    have hs0 : 4096 < n0 := by omega
    go_enter Tryd.func5, Tryd.ntmps5
    go_wp2_with fail
    refine (big_any ao0 n0 cap0 _ hn0).mono ?_
    rintro e w1 ⟨rfl, rfl⟩
    rw [show decide (4096 < n0) = true by simp; omega]
    go_wp2
    go_ret
    exact ⟨rfl, Below.refl _ _⟩
  have C0 := hid (hin hs0)
  clear hin
  go_enter Tryd.func5, Tryd.ntmps5
  go_wp2_with fail
  refine (big_any ao0 n0 cap0 _ hn0).mono ?_
  rintro e w1 ⟨rfl, rfl⟩
  rw [show decide (4096 < n0) = false by simp; omega]
  go_wp2_with fail
  refine (drawNumberText_any _ n0 _ C0.out).mono ?_
  rintro e w2 ⟨a, rfl, B2⟩
  go_wp2_with fail
  refine (numberTextE_any a _ (L.mono B2).tab).mono ?_
  rintro e w3 ⟨rfl, B3'⟩
  have B3 := nx B2 B3'
  go_wp2_with fail
  refine (sNumberText_any a _).mono ?_
  rintro e w4 ⟨rfl, B4'⟩
  have B4 := nx B3 B4'
  clear B3' B4'
  by_cases hn : isNum a = true
  · have hb := isNum_bd hn
    have hr : ntR a = (bA (numT a), 0) := by rw [ntR, if_pos hn]; rfl
    have HBK := hid (numT_back a hb.1 hb.2)
    have HL := hid (numT_len a hb.1 hb.2)
    rw [hr]
    obtain ⟨S, hS⟩ : ∃ S, S = bA (numT a) := ⟨_, rfl⟩
    have HS : Hid (parseR (bL S) = (a, 0)) := by simp only [Hid]; rw [hS, bL_bA]; exact HBK.out
    have hsz : S.size ≤ 1048576 := by rw [hS, bA_size]; have := HL.out; omega
    rw [← hS]
    clear hS hr hn
    go_wp2_with fail
    refine (parseNumber_any S _ hsz (L.mono B4)).mono ?_
    rintro e w5 ⟨rfl, B5'⟩
    have B5 := nx B4 B5'
    rw [HS.out]
    go_wp2_with fail
    refine (drawNumberOf_any _ n0 _ ((C0.out.mono B5).lower B5.size)).mono ?_
    rintro e w6 ⟨p, q, rfl, B6'⟩
    have B6 := nx B5 B6'
    obtain ⟨n, HN⟩ : ∃ n, Hid (numberOfR p q = n) := ⟨_, rfl⟩
    have nb := nof_bd p q
    have nl := nof_law p q
    rw [HN.out] at nb nl
    obtain ⟨n1, n2⟩ := n
    obtain ⟨nb1, nb2⟩ := nb
    have nb1 : 0 ≤ n1 := nb1
    have nb2 : n1 ≤ 10006 := nb2
    have NL := hid nl
    clear nl
    go_wp2_with fail
    refine (numberOf_any p q _).mono ?_
    rintro e w' ⟨rfl, rfl⟩
    rw [HN.out]
    go_wp2_with fail
    refine (sNumberOf_any p q _).mono ?_
    rintro e w' ⟨rfl, rfl⟩
    rw [HN.out]
    by_cases hc : n2 = 0
    rotate_left
    · have hne : (n2 != 0) = true := by simpa using hc
      clear hc
      go_wp2
      go_ret
      exact ⟨rfl, B6⟩
    obtain ⟨m, HM⟩ : ∃ m, Hid (q % 10007 = m) := ⟨_, rfl⟩
    have mb := md_bd q
    have NM : Hid (n1 * m % 10007 = p % 10007) := by rw [← HM.out]; exact NL.out hc
    rw [HM.out] at mb
    clear NL
    have wb : -100140049 ≤ n1 * m ∧ n1 * m ≤ 100140049 := mul_bd nb1 nb2 mb.1 mb.2
    obtain ⟨k, HK⟩ : ∃ k, Hid (n1 * m = k) := ⟨_, rfl⟩
    rw [HK.out] at wb NM
    subst hc
    go_wp2_with fail
    refine (mod5_any q _).mono ?_
    rintro e w' ⟨rfl, rfl⟩
    rw [HM.out]
    go_wp2_with fail
    refine (mod5_any _ _).mono ?_
    rintro e w' ⟨rfl, rfl⟩
    rw [HK.out, IntWalk.wrap64_in _ (by omega), NM.out]
    go_wp2_with fail
    refine (mod5_any p _).mono ?_
    rintro e w' ⟨rfl, rfl⟩
    go_wp2
    go_ret
    exact ⟨rfl, B6⟩
  · have hr : ntR a = (⟨#[]⟩, 2) := by rw [ntR, if_neg hn]
    rw [hr]
    clear hr hn
    go_wp2_with fail
    refine (drawNumberOf_any _ n0 _ ((C0.out.mono B4).lower B4.size)).mono ?_
    rintro e w6 ⟨p, q, rfl, B6'⟩
    have B6 := nx B4 B6'
    obtain ⟨n, HN⟩ : ∃ n, Hid (numberOfR p q = n) := ⟨_, rfl⟩
    have nb := nof_bd p q
    have nl := nof_law p q
    rw [HN.out] at nb nl
    obtain ⟨n1, n2⟩ := n
    obtain ⟨nb1, nb2⟩ := nb
    have nb1 : 0 ≤ n1 := nb1
    have nb2 : n1 ≤ 10006 := nb2
    have NL := hid nl
    clear nl
    go_wp2_with fail
    refine (numberOf_any p q _).mono ?_
    rintro e w' ⟨rfl, rfl⟩
    rw [HN.out]
    go_wp2_with fail
    refine (sNumberOf_any p q _).mono ?_
    rintro e w' ⟨rfl, rfl⟩
    rw [HN.out]
    by_cases hc : n2 = 0
    rotate_left
    · have hne : (n2 != 0) = true := by simpa using hc
      clear hc
      go_wp2
      go_ret
      exact ⟨rfl, B6⟩
    obtain ⟨m, HM⟩ : ∃ m, Hid (q % 10007 = m) := ⟨_, rfl⟩
    have mb := md_bd q
    have NM : Hid (n1 * m % 10007 = p % 10007) := by rw [← HM.out]; exact NL.out hc
    rw [HM.out] at mb
    clear NL
    have wb : -100140049 ≤ n1 * m ∧ n1 * m ≤ 100140049 := mul_bd nb1 nb2 mb.1 mb.2
    obtain ⟨k, HK⟩ : ∃ k, Hid (n1 * m = k) := ⟨_, rfl⟩
    rw [HK.out] at wb NM
    subst hc
    go_wp2_with fail
    refine (mod5_any q _).mono ?_
    rintro e w' ⟨rfl, rfl⟩
    rw [HM.out]
    go_wp2_with fail
    refine (mod5_any _ _).mono ?_
    rintro e w' ⟨rfl, rfl⟩
    rw [HK.out, IntWalk.wrap64_in _ (by omega), NM.out]
    go_wp2_with fail
    refine (mod5_any p _).mono ?_
    rintro e w' ⟨rfl, rfl⟩
    go_wp2
    go_ret
    exact ⟨rfl, B6⟩

set_option maxRecDepth 100000 in
theorem lifted (os : Os) (started : os.Started) (H : Type) (enc : TypeId × Value → H) :
    ReturnsInHanded {} Tryd.checked os 5 .any (fun w args => (Rows.fnNumberTextsSpec.pre enc Tryd.prog Tryd.f5 [] false w args ∧ laidMetH Tryd.prog laids w) ∧ sizedMet enc Tryd.prog Tryd.f5 (OpenSpec.ofChange Rows.fnNumberTextsSpec) false w args)
      (Rows.fnNumberTextsSpec.post enc Tryd.prog Tryd.f5 false true false false) := by
  refine returnsInHanded_laid_shaped (C := Tryd.checked) (X := fun w _ => laidMetH Tryd.prog laids w) (fun _ _ _ hh h => h.of_heap hh) own started (by kernel_rfl) Tryd.func5
    (ChangeSpec.witness_shaped (enc := enc) (C := Tryd.checked) (os := os) (X := fun w _ => laidMetH Tryd.prog laids w) false (World.doorLaid Tryd.prog 62 os) #[.slice none 0 0] 8 rfl (World.shaped_of_RefB (by kernel_rfl) (by kernel_rfl)) (by kernel_rfl) (by kernel_rfl) (by kernel_rfl) (door_met os _)) ?_
  intro W base args ds gs before hval0 hW _ _ hL hsh
  have hval : ∀ (j : Nat) t v, Tryd.f5.params[j]? = some t → args[j]? = some v → Value.okWide Tryd.prog W .any base t v := hval0
  have hW' := hW
  obtain ⟨p, q, hA0, hV, rfl, hfz, hnd⟩ := hW
  have hA : DataW.TrodAll enc Tryd.prog W 0 (fun _ => true) true Tryd.f5.params.toList args.toList ds p := hA0
  rw [Tryd.params5] at hA hval
  obtain ⟨v0, vs0, d0, ds0, p0, q0, hargs, rfl, rfl, h0, r0⟩ := trodAll_cons hA
  obtain ⟨rfl, rfl, rfl⟩ := trodAll_nil r0
  obtain rfl : args = #[v0] := by cases args; simp_all
  obtain ⟨rfl, rfl⟩ := trodVars_none hV
  have k0 := h0
  have lt0 : ∀ x ∈ p0, x.block < W.heap.size := by obtain ⟨m, hm⟩ := k0; exact DataW.trod_lt m _ _ _ hm
  have i0 : InB W v0 := InB.open_ Tryd.underlying28 Tryd.underlying5 (by kernel_rfl) (hval 0 28 v0 rfl rfl) h0
  clear hA0 hval0
  refine (walk (lds_of hL hsh) v0 i0).mono fun e W' ⟨he, bel⟩ => ?_
  subst he
  exact ⟨_, rfl, _, _, _, [], _, [], hW', trodAll_mk1 (shut_bool Tryd.underlying4 _), (trodAll_cons_mk (Below.trod laidOut (by kernel_rfl) (of_decide_eq_true (by kernel_rfl)) k0 bel lt0) trodAll_mk0), rfl, bel.frame _, fun h => by cases h⟩
theorem over : Rows.FnNumberTextsSaid :=
  OpenClaim.holds_of_wide 5 Tryd.f5 rfl rfl rfl rfl rfl rfl rfl ⟨rfl, rfl, rfl, rfl, rfl⟩ rfl rfl rfl rfl rfl (by kernel_rfl) Tryd.func5 (by kernel_rfl)
    (of_decide_eq_true (by kernel_rfl)) (by unfold Func.isWrapper; first | (rw [if_pos (by decide +kernel)]; kernel_rfl) | (rw [if_neg (by decide +kernel)]; exact ⟨rfl, rfl⟩))
    (fun os started H enc _ => lifted os started H enc)
theorem proved : Rows.FnNumberTextsCardSaid :=
  Claim7.holds_tied_plain_at .later [] [.data, .data, .data, .sentinel, .sentinel] true (true, "b38578c545a470b256a02bb92f1fe02b6c885e8010289bdd148927cc2e8a8670") true
    over (fun _ h => by cases h) (by kernel_rfl) (fun _ h => by cases h) fnNumberTexts_row_tie rfl ⟨rfl, rfl⟩ (by kernel_rfl) rfl
    (fun f fn hf hfn => by
      obtain rfl : f = 5 := (Option.some.inj ((show Tryd.prog.funcNamed Rows.fnNumberTextsRow.func = some 5 by kernel_rfl).symm.trans hf)).symm
      obtain rfl : fn = Tryd.f5 := (Option.some.inj (Tryd.func5.symm.trans hfn)).symm
      exact ⟨by kernel_rfl, fun j t ht => by
        rw [Tryd.params5] at ht
        have h3 : t = 28 := by
          rcases j with _ | j
          · simpa using ht.symm
          · simp at ht
        subst h3
        exact (show Tryd.prog.wantsStandIn 28 = false by kernel_rfl)⟩)
    (by kernel_rfl)
#print axioms proved
end Go.Proofs.YtmhcpaffdchboaaDoor.fnNumberTexts
