/-
  A region that draws its order: first what reads, in an order of our own, then the rest, whose order is forced.
-/
import Derived.StillTail
import Derived.StillTactics
namespace Go.Proofs.Ytmhcpaffdchboaa
section
variable {P : Program} {ops : Array Oper} {md : Region.Mode} {w : World}
def pickOps (ops : Array Oper) (idx : List Nat) : List Oper := idx.filterMap fun i => ops[i]?
/-- Whatever comes up next only reads, f times over; then L. -/
def anyStill (P : Program) (md : Region.Mode) (ops : Array Oper) (w : World) (L : Array Bool → Act → Prop) : Nat → Array Bool → Act → Prop
  | 0, l, a => L l a
  | f + 1, l, a => Region.ready md ops l ≠ [] ∧ ∀ i ∈ Region.ready md ops l, stOp P ops w i (anyStill P md ops w L f (l.setIfInBounds i true)) a
theorem any_of_anyStill {g : Nat} {L : Array Bool → Act → Prop} {Q' : Exit → Act → World → Prop} (hL : ∀ l a, L l a → wpAny P md ops Q' g l a w) (f : Nat) :
    ∀ l a, anyStill P md ops w L f l a → wpAny P md ops Q' (f + g) l a w := by
  induction f with
  | zero => intro l a h; rw [Nat.zero_add]; exact hL l a h
  | succ f ih =>
    intro l a h
    rw [show f + 1 + g = f + g + 1 by omega]
    refine ⟨fun e => absurd e h.1, fun i hi => wpOp_of_stOp (fun a' => ih _ a') (h.2 i hi)⟩
/-- What has come up had all it waits for. -/
def Shut0 (md : Region.Mode) (ops : Array Oper) (l : Array Bool) : Prop :=
  ∀ j oj, ops[j]? = some oj → l.getD j false = true → ∀ e ∈ oj.after, Region.binds md e = true → l.getD e.on false = true
theorem Shut0.next {l : Array Bool} {i : Nat} (h : Shut0 md ops l) (hi : i ∈ Region.ready md ops l) : Shut0 md ops (l.setIfInBounds i true) := by
  obtain ⟨_, oi, hoi, hall⟩ := mem_ready.1 hi
  intro j oj hj hl e he hb
  by_cases hij : i = j
  · subst hij
    cases hoi.symm.trans hj
    exact getD_set_true (hall e he hb)
  · rw [getD_set_ne false hij] at hl
    exact getD_set_true (h j oj hj hl e he hb)
/-- The order ends with t or with nothing; and i, if it has not come up, is waited for by t or by one that has come up at the end. -/
theorem anyStill_first {i t : Nat} {oi : Oper} {v : Value} {L : Array Bool → Act → Prop} {lE : Array Bool} (hi : ops[i]? = some oi) (hsel : ∀ (j : Nat) (o : Oper) cs b, ops[j]? = some o → o.op ≠ .select cs b)
    (hL : ∀ l a, L l a → l = lE) (hE : ∀ j ∈ Region.ready md ops lE, j = t)
    (hW : Region.waitsFor md ops t i = true ∨ ∃ j, j ≠ i ∧ Region.waitsFor md ops j i = true ∧ lE.getD j false = true) (f : Nat) :
    ∀ (l : Array Bool) (a : Act), Shut0 md ops l →
      (∀ j oj, ops[j]? = some oj → j ≠ i → l.getD j true = false → (∀ e ∈ oj.after, Region.binds md e = true → e.on ≠ i) → oi.apart ops oj = true) →
      i ∈ Region.ready md ops l → YieldsAt P ops w oi v a →
      anyStill P md ops w L f (l.setIfInBounds i true) (a.put oi.dst v) → anyStill P md ops w L (f + 1) l a := by
  induction f with
  | zero =>
    intro l a hs _ hr hy H
    refine ⟨fun e => (by rw [e] at hr; cases hr), fun j hj => ?_⟩
    by_cases hji : j = i
    · subst hji; exact hy.stOp hi H
    · exfalso
      have hun := getD_both (mem_ready.1 hr).1
      have hlE := hL _ _ H
      have hj2 := ready_mono hj hji
      rw [hlE] at hj2
      have hjt := hE j hj2
      subst hjt
      rcases hW with hW | ⟨k, hk, hW, hkE⟩
      · obtain ⟨oj, hoj, e, he, hb, hon⟩ := Region.waitsFor_spec hW
        obtain ⟨_, o', ho', hall⟩ := mem_ready.1 hj
        cases ho'.symm.trans hoj
        have := hall e he hb
        rw [hon, hun] at this; cases this
      · obtain ⟨ok, hok, e, he, hb, hon⟩ := Region.waitsFor_spec hW
        rw [← hlE, getD_set_ne false (Ne.symm hk)] at hkE
        have := hs k ok hok hkE e he hb
        rw [hon, hun] at this; cases this
  | succ f ih =>
    intro l a hs hfree hr hy H
    have hun := (mem_ready.1 hr).1
    refine ⟨fun e => (by rw [e] at hr; cases hr), fun j hj => ?_⟩
    by_cases hji : j = i
    · subst hji; exact hy.stOp hi H
    · have h1 := H.2 j (ready_mono hj hji)
      obtain ⟨hjun, oj, hoj, hall⟩ := mem_ready.1 hj
      have hnot : ∀ e ∈ oj.after, Region.binds md e = true → e.on ≠ i := fun e he hb heq => by
        have h1 := hall e he hb
        rw [heq, getD_both hun] at h1
        cases h1
      have h2 := stOp_put hoj (hfree j oj hoj hji hjun hnot) (fun cs b => hsel i oi cs b hi) (fun cs b => hsel j oj cs b hoj) hy h1
      refine stOp_mono (fun a' h3 => ih (l.setIfInBounds j true) a' (hs.next hj) (fun k ok hk hki hku hno => ?_) (ready_mono hr (Ne.symm hji)) h3.1 ?_) h2
      · refine hfree k ok hk hki ?_ hno
        by_cases hjk : j = k
        · subst hjk; exact hjun
        · rw [getD_set_ne true hjk] at hku; exact hku
      · rw [Array.setIfInBounds_comm _ _ hji]
        exact h3.2
def setAll (l : Array Bool) : List Nat → Array Bool
  | [] => l
  | i :: is => setAll (l.setIfInBounds i true) is
def tailOk (md : Region.Mode) (ops : Array Oper) : List Nat → Array Bool → Bool
  | [], l => (Region.ready md ops l).isEmpty
  | t :: ts, l => decide (Region.ready md ops l = [t]) && tailOk md ops ts (l.setIfInBounds t true)
def headOk (md : Region.Mode) (ops : Array Oper) (t : Nat) (lE : Array Bool) : List Nat → Array Bool → Bool
  | [], _ => true
  | i :: is, l => (Region.ready md ops l).contains i && Region.free md ops l i && (ops[i]?).isSome &&
      (Region.waitsFor md ops t i || (List.range ops.size).any (fun j => decide (j ≠ i) && Region.waitsFor md ops j i && lE.getD j false)) && headOk md ops t lE is (l.setIfInBounds i true)
def shutOk (md : Region.Mode) (ops : Array Oper) (l : Array Bool) : Bool :=
  (List.range ops.size).all fun j => !l.getD j false || ((ops[j]?).map fun o => o.after.all fun e => !Region.binds md e || l.getD e.on false).getD true
theorem shut_of {l : Array Bool} (h : shutOk md ops l = true) : Shut0 md ops l := by
  intro j oj hj hl e he hb
  have h1 := List.all_eq_true.1 h j (List.mem_range.2 (Array.getElem?_eq_some_iff.1 hj).1)
  rw [hl, hj] at h1
  simp only [Bool.not_true, Bool.false_or, Option.map_some, Option.getD_some] at h1
  have h2 := Array.all_eq_true'.1 h1 e he
  rw [hb] at h2
  simpa using h2
def orderOk (md : Region.Mode) (ops : Array Oper) (head : List Nat) (t : Nat) (ts : List Nat) (l : Array Bool) : Bool :=
  Region.noSelect ops && shutOk md ops l && headOk md ops t (setAll l head) head l && tailOk md ops (t :: ts) (setAll l head)
theorem anyStill_head {Lq : Act → Prop} {t : Nat} {lE : Array Bool} (hsel : Region.noSelect ops = true) (hE : ∀ j ∈ Region.ready md ops lE, j = t) :
    ∀ (head : List Nat) (l : Array Bool) (a : Act), Shut0 md ops l → setAll l head = lE → headOk md ops t lE head l = true → wpStill P ops w Lq (pickOps ops head) a →
      anyStill P md ops w (fun l' a' => l' = lE ∧ Lq a') head.length l a := by
  intro head
  induction head with
  | nil => intro l a _ he _ h; exact ⟨he, h⟩
  | cons i is ih =>
    intro l a hs he hB h
    simp only [headOk, Bool.and_eq_true, Bool.or_eq_true] at hB
    obtain ⟨⟨⟨⟨hr, hf⟩, ho⟩, hw⟩, hB'⟩ := hB
    obtain ⟨oi, hoi⟩ := Option.isSome_iff_exists.1 ho
    have hr' : i ∈ Region.ready md ops l := by simpa using hr
    simp only [pickOps, List.filterMap_cons, hoi] at h
    have hst : stOp P ops w i (wpStill P ops w Lq (pickOps ops is)) a := by unfold stOp; simp only [hoi]; exact h
    obtain ⟨v, hy, hK⟩ := yieldsAt_of_stOp hoi hst
    refine anyStill_first hoi (Region.noSelect_spec hsel) (fun _ _ h => h.1) hE ?_ is.length l a hs (Region.free_spec hoi hf) hr' hy (ih _ _ (hs.next hr') he hB' hK)
    rcases hw with hw | hw
    · exact .inl hw
    · obtain ⟨j, _, hj⟩ := List.any_eq_true.1 hw
      simp only [Bool.and_eq_true, decide_eq_true_eq] at hj
      exact .inr ⟨j, hj.1.1, hj.1.2, hj.2⟩
theorem any_of_tail {Q' : Exit → Act → World → Prop} : ∀ (ts : List Nat) (l : Array Bool) (a : Act) (w : World), tailOk md ops ts l = true → wpList P ops Q' (pickOps ops ts) a w → wpAny P md ops Q' ts.length l a w := by
  intro ts
  induction ts with
  | nil => intro l a w hB h; exact ⟨by simpa [tailOk] using hB, h⟩
  | cons t ts ih =>
    intro l a w hB h
    simp only [tailOk, Bool.and_eq_true, decide_eq_true_eq] at hB
    refine ⟨fun e => (by rw [hB.1] at e; cases e), fun i hi => ?_⟩
    rw [hB.1] at hi
    have hit : i = t := by simpa using hi
    subst hit
    obtain ⟨_, o, ho, _⟩ := mem_ready.1 (by rw [hB.1]; simp : i ∈ Region.ready md ops l)
    simp only [pickOps, List.filterMap_cons, ho] at h
    have hw : wpOp P ops Q' i (wpList P ops Q' (pickOps ops ts)) a w := by unfold wpOp; simp only [ho]; exact h
    exact wpOp_mono (fun a' w' h' => ih _ a' w' hB.2 h') hw
theorem wpAny_order {Q' : Exit → Act → World → Prop} (head : List Nat) (t : Nat) (ts : List Nat) {fuel : Nat} {l : Array Bool} {a : Act} (hn : fuel = head.length + (t :: ts).length) (hB : orderOk md ops head t ts l = true)
    (h : wpStill P ops w (fun a' => wpList P ops Q' (pickOps ops (t :: ts)) a' w) (pickOps ops head) a) : wpAny P md ops Q' fuel l a w := by
  simp only [orderOk, Bool.and_eq_true] at hB
  obtain ⟨⟨⟨h1, h2⟩, h3⟩, h4⟩ := hB
  subst hn
  have hE : ∀ j ∈ Region.ready md ops (setAll l head), j = t := fun j hj => by
    simp only [tailOk, Bool.and_eq_true, decide_eq_true_eq] at h4
    rw [h4.1] at hj; simpa using hj
  refine any_of_anyStill (L := fun l' a' => l' = setAll l head ∧ wpList P ops Q' (pickOps ops (t :: ts)) a' w) (fun l' a' hl => ?_) head.length l a (anyStill_head h1 hE head l a (shut_of h2) rfl h3 h)
  obtain ⟨rfl, h5⟩ := hl
  exact any_of_tail (t :: ts) _ _ _ h4 h5
theorem wp_region_start {id : Nat} {Q : Exit → Act → World → Prop} {a : Act} {w : World} (hm : P.follows .mixedOrders = true)
    (h : wpAny P .any ops Q ops.size (Array.replicate ops.size false) a w.drew) : (Code.region id ops true).wp P Q a w := wp_region_any hm h
end
end Go.Proofs.Ytmhcpaffdchboaa
