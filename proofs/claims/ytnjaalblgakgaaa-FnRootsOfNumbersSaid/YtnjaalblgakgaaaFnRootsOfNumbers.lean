/-
  The law FnRootsOfNumbers is proved of the program: for every input the call returns true, and each argument reads afterwards as it read before. Its one condition: the arguments can be read as data.
-/
import Derived.Test.YtnjaalblgakgaaaRows
import Derived.Test.YtnjaalblgakgaaaLawN
import Derived.Test.YtnjaalblgakgaaaDrawL
import Derived.WalkKit
import Derived.ProofKit
import Derived.OpenShut
import Derived.ShutString
import Derived.ChangeOld
import Derived.Below
namespace Go.Proofs.Ytnjaalblgakgaaa.fnRootsOfNumbers
open Go.ChangeShapes Go.WideShapes Go.ChangeAt Go.RowKit
open Go.ChangeMaps (open_string shut_string)
set_option linter.unusedVariables false
theorem own : ownKnob Try.prog.godebug = none := by kernel_rfl
theorem laidOut : laidOutB Try.prog = true := by kernel_rfl
set_option maxRecDepth 100000 in
set_option maxHeartbeats 8000000 in
theorem walk {w : World} (v0 : Value) (i0 : InB w v0) :
    Calls Try.prog 9 #[v0] w fun e w' => e = .returned (.bool true) ∧ Below w.heap.size w w' := by
  obtain ⟨ao0, n0, cap0, rfl, hn0, hin⟩ := i0
  by_cases hs0 : n0 ≤ 4096
  rotate_left
  · clear hin
    have hs0 : 4096 < n0 := by omega
    go_enter Try.func9, Try.ntmps9
    go_wp2_with fail
    refine (big_any ao0 n0 cap0 _ hn0).mono ?_
    rintro e w1 ⟨rfl, rfl⟩
    rw [show decide (4096 < n0) = true by simp; omega]
    go_wp2
    go_ret
    exact ⟨rfl, Below.refl _ _⟩
  have C0 := hid (hin hs0)
  clear hin
  go_enter Try.func9, Try.ntmps9
  go_wp2_with fail
  refine (big_any ao0 n0 cap0 _ hn0).mono ?_
  rintro e w1 ⟨rfl, rfl⟩
  rw [show decide (4096 < n0) = false by simp; omega]
  go_wp2_with fail
  refine (drawSquareRoot_any _ n0 _ C0.out).mono ?_
  rintro e w1 ⟨a, rfl, B1⟩
  have T := B1
  go_wp2_with fail
  refine (squareRoot_any a _).mono ?_
  rintro e w' ⟨rfl, rfl⟩
  go_wp2_with fail
  refine (sSquareRoot_any a _).mono ?_
  rintro e w' ⟨rfl, rfl⟩
  by_cases hc : (sqrtR a).2 = 0
  rotate_left
  · have hne : ((sqrtR a).2 == 0) = false := by simpa using hc
    have S0 := T.size
    go_wp2_with fail
    refine (roll_any _ n0 602 _ ((C0.out.mono T).lower S0) (by omega) (by omega)).mono ?_
    rintro e w2 ⟨rfl, S, B2⟩
    replace T := nx T B2
    go_wp2_with fail
    refine (number5_any _ _ _ S).mono ?_
    rintro e w3 ⟨b, rfl, b0, b1, S3, G3⟩
    replace T := below_of_grow T G3 S0 T.size
    by_cases hle : b ≤ (-b) % 10007
    · have hb := isNum_iff.2 ⟨b0, b1⟩
      have E2 := hid (powerR_nat hb 2 (by omega))
      have E3 := hid (powerR_nat hb 3 (by omega))
      have E5 := hid (powerR_nat hb 5 (by omega))
      have F2 := hid (sqrt_sq hb)
      have F3 := hid (root_cube hb)
      have F5 := hid (root_fifth hb)
      have hnb := md_bd (-b)
      clear hb
      replace F2 := F2.out
      rw [if_pos hle] at F2
      replace F2 := hid F2
      go_wp2_with fail
      refine (powerNumber_any b (2 : Nat) _).mono ?_
      rintro e w' ⟨rfl, rfl⟩
      rw [E2.out]
      go_wp2_with fail
      refine (squareRoot_any (powM b 2) _).mono ?_
      rintro e w' ⟨rfl, rfl⟩
      rw [F2.out]
      go_wp2_with fail
      refine (powerNumber_any b (3 : Nat) _).mono ?_
      rintro e w' ⟨rfl, rfl⟩
      rw [E3.out]
      go_wp2_with fail
      refine (rootNumber_any (powM b 3) 3 _).mono ?_
      rintro e w' ⟨rfl, rfl⟩
      rw [F3.out]
      go_wp2_with fail
      refine (powerNumber_any b (5 : Nat) _).mono ?_
      rintro e w' ⟨rfl, rfl⟩
      rw [E5.out]
      go_wp2_with fail
      refine (rootNumber_any (powM b 5) 5 _).mono ?_
      rintro e w' ⟨rfl, rfl⟩
      rw [F5.out]
      go_wp2_with (go_at_call 37; refine (mod5_any (-b) _).mono ?_; rintro e w' ⟨rfl, rfl⟩)
      go_ret
      exact ⟨rfl, T⟩
    · have hb := isNum_iff.2 ⟨b0, b1⟩
      have E2 := hid (powerR_nat hb 2 (by omega))
      have E3 := hid (powerR_nat hb 3 (by omega))
      have E5 := hid (powerR_nat hb 5 (by omega))
      have F2 := hid (sqrt_sq hb)
      have F3 := hid (root_cube hb)
      have F5 := hid (root_fifth hb)
      have hnb := md_bd (-b)
      clear hb
      replace F2 := F2.out
      rw [if_neg hle] at F2
      replace F2 := hid F2
      go_wp2_with fail
      refine (powerNumber_any b (2 : Nat) _).mono ?_
      rintro e w' ⟨rfl, rfl⟩
      rw [E2.out]
      go_wp2_with fail
      refine (squareRoot_any (powM b 2) _).mono ?_
      rintro e w' ⟨rfl, rfl⟩
      rw [F2.out]
      go_wp2_with fail
      refine (powerNumber_any b (3 : Nat) _).mono ?_
      rintro e w' ⟨rfl, rfl⟩
      rw [E3.out]
      go_wp2_with fail
      refine (rootNumber_any (powM b 3) 3 _).mono ?_
      rintro e w' ⟨rfl, rfl⟩
      rw [F3.out]
      go_wp2_with fail
      refine (powerNumber_any b (5 : Nat) _).mono ?_
      rintro e w' ⟨rfl, rfl⟩
      rw [E5.out]
      go_wp2_with fail
      refine (rootNumber_any (powM b 5) 5 _).mono ?_
      rintro e w' ⟨rfl, rfl⟩
      rw [F5.out]
      have hq : ((-b) % 10007 == b) = false := by simp; omega
      have hq2 : (-b) % 10007 ≤ b := by omega
      go_wp2_with (go_at_call 37; refine (mod5_any (-b) _).mono ?_; rintro e w' ⟨rfl, rfl⟩)
      go_ret
      exact ⟨rfl, T⟩
  obtain ⟨r, E, r0, r1, L⟩ := sqrtR_zero hc
  rw [E]
  clear hc
  have L1 := hid L
  have hm1 := (mul_bd r0 r1 r0 r1).1
  have hm2 := (mul_bd r0 r1 r0 r1).2
  clear L E
  go_wp2_with fail
  refine (mod5_any (r * r) _).mono ?_
  rintro e w' ⟨rfl, rfl⟩
  rw [L1.out]
  have S0 := T.size
  go_wp2_with fail
  refine (roll_any _ n0 602 _ ((C0.out.mono T).lower S0) (by omega) (by omega)).mono ?_
  rintro e w2 ⟨rfl, S, B2⟩
  replace T := nx T B2
  go_wp2_with fail
  refine (number5_any _ _ _ S).mono ?_
  rintro e w3 ⟨b, rfl, b0, b1, S3, G3⟩
  replace T := below_of_grow T G3 S0 T.size
  by_cases hle : b ≤ (-b) % 10007
  · have hb := isNum_iff.2 ⟨b0, b1⟩
    have E2 := hid (powerR_nat hb 2 (by omega))
    have E3 := hid (powerR_nat hb 3 (by omega))
    have E5 := hid (powerR_nat hb 5 (by omega))
    have F2 := hid (sqrt_sq hb)
    have F3 := hid (root_cube hb)
    have F5 := hid (root_fifth hb)
    have hnb := md_bd (-b)
    clear hb
    replace F2 := F2.out
    rw [if_pos hle] at F2
    replace F2 := hid F2
    go_wp2_with fail
    refine (powerNumber_any b (2 : Nat) _).mono ?_
    rintro e w' ⟨rfl, rfl⟩
    rw [E2.out]
    go_wp2_with fail
    refine (squareRoot_any (powM b 2) _).mono ?_
    rintro e w' ⟨rfl, rfl⟩
    rw [F2.out]
    go_wp2_with fail
    refine (powerNumber_any b (3 : Nat) _).mono ?_
    rintro e w' ⟨rfl, rfl⟩
    rw [E3.out]
    go_wp2_with fail
    refine (rootNumber_any (powM b 3) 3 _).mono ?_
    rintro e w' ⟨rfl, rfl⟩
    rw [F3.out]
    go_wp2_with fail
    refine (powerNumber_any b (5 : Nat) _).mono ?_
    rintro e w' ⟨rfl, rfl⟩
    rw [E5.out]
    go_wp2_with fail
    refine (rootNumber_any (powM b 5) 5 _).mono ?_
    rintro e w' ⟨rfl, rfl⟩
    rw [F5.out]
    go_wp2_with (go_at_call 37; refine (mod5_any (-b) _).mono ?_; rintro e w' ⟨rfl, rfl⟩)
    go_ret
    exact ⟨rfl, T⟩
  · have hb := isNum_iff.2 ⟨b0, b1⟩
    have E2 := hid (powerR_nat hb 2 (by omega))
    have E3 := hid (powerR_nat hb 3 (by omega))
    have E5 := hid (powerR_nat hb 5 (by omega))
    have F2 := hid (sqrt_sq hb)
    have F3 := hid (root_cube hb)
    have F5 := hid (root_fifth hb)
    have hnb := md_bd (-b)
    clear hb
    replace F2 := F2.out
    rw [if_neg hle] at F2
    replace F2 := hid F2
    go_wp2_with fail
    refine (powerNumber_any b (2 : Nat) _).mono ?_
    rintro e w' ⟨rfl, rfl⟩
    rw [E2.out]
    go_wp2_with fail
    refine (squareRoot_any (powM b 2) _).mono ?_
    rintro e w' ⟨rfl, rfl⟩
    rw [F2.out]
    go_wp2_with fail
    refine (powerNumber_any b (3 : Nat) _).mono ?_
    rintro e w' ⟨rfl, rfl⟩
    rw [E3.out]
    go_wp2_with fail
    refine (rootNumber_any (powM b 3) 3 _).mono ?_
    rintro e w' ⟨rfl, rfl⟩
    rw [F3.out]
    go_wp2_with fail
    refine (powerNumber_any b (5 : Nat) _).mono ?_
    rintro e w' ⟨rfl, rfl⟩
    rw [E5.out]
    go_wp2_with fail
    refine (rootNumber_any (powM b 5) 5 _).mono ?_
    rintro e w' ⟨rfl, rfl⟩
    rw [F5.out]
    have hq : ((-b) % 10007 == b) = false := by simp; omega
    have hq2 : (-b) % 10007 ≤ b := by omega
    go_wp2_with (go_at_call 37; refine (mod5_any (-b) _).mono ?_; rintro e w' ⟨rfl, rfl⟩)
    go_ret
    exact ⟨rfl, T⟩

set_option maxRecDepth 100000 in
theorem lifted (os : Os) (started : os.Started) (H : Type) (enc : TypeId × Value → H) :
    ReturnsInHanded {} Try.checked os 9 .any (Rows.fnRootsOfNumbersSpec.pre6 enc Try.prog Try.f9 Rows.fnRootsOfNumbersRow.domain false) (Rows.fnRootsOfNumbersSpec.post enc Try.prog Try.f9 false true false false) := by
  refine returnsInHanded_of_change (C := Try.checked) own started (by kernel_rfl) Try.func9
    (ChangeSpec.witness6 (enc := enc) (C := Try.checked) false ⟨#[], #[.slice none 0 0], []⟩ 8 (by kernel_rfl) (by kernel_rfl) (by kernel_rfl) (by kernel_rfl)) ?_
  intro W base args ds gs before hval0 hW hcnd _
  have hval : ∀ (j : Nat) t v, Try.f9.params[j]? = some t → args[j]? = some v → Value.okWide Try.prog W .any base t v := hval0
  have hW' := hW
  obtain ⟨p, q, hA0, hV, rfl, hfz, hnd⟩ := hW
  have hA : DataW.TrodAll enc Try.prog W 0 (fun _ => true) true Try.f9.params.toList args.toList ds p := hA0
  rw [Try.params9] at hA hval
  obtain ⟨v0, vs0, d0, ds0, p0, q0, hargs, rfl, rfl, h0, r0⟩ := trodAll_cons hA
  obtain ⟨rfl, rfl, rfl⟩ := trodAll_nil r0
  obtain rfl : args = #[v0] := by cases args; simp_all
  obtain ⟨rfl, rfl⟩ := trodVars_none hV
  have k0 := h0
  have lt0 : ∀ x ∈ p0, x.block < W.heap.size := by obtain ⟨m, hm⟩ := k0; exact DataW.trod_lt m _ _ _ hm
  have i0 : InB W v0 := InB.open_ Try.underlying31 Try.underlying5 (by kernel_rfl) (hval 0 31 v0 rfl rfl) h0
  clear hA0 hval0
  refine (walk v0 i0).mono fun e W' ⟨he, bel⟩ => ?_
  subst he
  exact ⟨_, rfl, _, _, _, [], _, [], hW', trodAll_mk1 (shut_bool Try.underlying4 _), (trodAll_cons_mk (Below.trod laidOut (by kernel_rfl) (of_decide_eq_true (by kernel_rfl)) k0 bel lt0) trodAll_mk0), rfl, bel.frame _, fun h => by cases h⟩
theorem over : Rows.fnRootsOfNumbersRow.holds Try.pinned (OpenSpec.ofChange Rows.fnRootsOfNumbersSpec) :=
  OpenClaim.holds_of_wide 9 Try.f9 rfl rfl rfl rfl rfl rfl rfl ⟨rfl, rfl, rfl, rfl, rfl⟩ rfl rfl rfl rfl rfl (by kernel_rfl) Try.func9 (by kernel_rfl)
    (of_decide_eq_true (by kernel_rfl)) (by unfold Func.isWrapper; first | (rw [if_pos (by decide +kernel)]; kernel_rfl) | (rw [if_neg (by decide +kernel)]; exact ⟨rfl, rfl⟩))
    (fun os started H enc _ => lifted os started H enc)
theorem proved : Rows.FnRootsOfNumbersSaid := over
#print axioms proved
end Go.Proofs.Ytnjaalblgakgaaa.fnRootsOfNumbers
