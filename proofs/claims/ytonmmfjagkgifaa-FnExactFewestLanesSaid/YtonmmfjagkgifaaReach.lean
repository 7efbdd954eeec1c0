/- Nets, plain: what can be reached by one or more lanes. -/
import Derived.Test.YtonmmfjagkgifaaNet12
set_option linter.unusedVariables false
set_option linter.unusedSimpArgs false
namespace Go.Proofs.Ytonmmfjagkgifaa

def Edge (n : NetD) (i j : Nat) : Prop := ∃ l ∈ n.lanes, ∃ h, h < 301 ∧ i = l.frm.toNat * 301 + h ∧ spn l n (l.to.toNat * 301 + h) (l.to.toNat * 301 + 300) j = true
theorem stepL_iff (n : NetD) (g : Nat → Bool) (j : Nat) : stepL n g n.lanes j = true ↔ ∃ i, g i = true ∧ Edge n i j := by
  simp only [stepL, List.any_eq_true, Bool.and_eq_true, List.mem_range]
  constructor
  · rintro ⟨l, hl, h, hh, h1, h2⟩
    exact ⟨_, h1, l, hl, h, hh, rfl, h2⟩
  · rintro ⟨i, h1, l, hl, h, hh, rfl, h2⟩
    exact ⟨l, hl, h, hh, h1, h2⟩
inductive Reach (n : NetD) (i0 : Nat) : Nat → Prop
  | one {j : Nat} (h : Edge n i0 j) : Reach n i0 j
  | more {i j : Nat} (hi : Reach n i0 i) (h : Edge n i j) : Reach n i0 j
theorem edge_lt {n : NetD} (hv : validNet n = true) {i j : Nat} (h : Edge n i j) : i < 2408 ∧ j < 2408 := by
  obtain ⟨l, hl, h, hh, rfl, hs⟩ := h
  obtain ⟨f, t, hlv⟩ := laneV_of hv hl
  obtain ⟨e1, e2, f8, t8, _⟩ := hlv
  simp only [spn, decide_eq_true_eq] at hs
  omega
/-- The hour of a place. -/
theorem edge_hour {n : NetD} (hv : validNet n = true) {i j : Nat} (h : Edge n i j) : i % 301 < j % 301 := by
  obtain ⟨l, hl, h, hh, rfl, hs⟩ := h
  obtain ⟨f, t, hlv⟩ := laneV_of hv hl
  obtain ⟨e1, e2, f8, t8, l1, lm, m40, s0, s40⟩ := hlv
  simp only [spn, decide_eq_true_eq] at hs
  omega
/-- The rest that is not yet known. -/
def left (g : Nat → Bool) : Nat := ((List.range 2408).filter fun j => !g j).length
theorem filter_len_lt {p q : Nat → Bool} : ∀ (l : List Nat), (∀ j ∈ l, q j = true → p j = true) → (∃ j ∈ l, p j = true ∧ q j = false) → (l.filter q).length < (l.filter p).length
  | [], _, h => by obtain ⟨j, hj, _⟩ := h; cases hj
  | x :: l, hsub, h => by
    have hle : (l.filter q).length ≤ (l.filter p).length := by
      clear h
      have hs := fun j hj => hsub j (List.mem_cons_of_mem _ hj)
      clear hsub
      induction l with
      | nil => simp
      | cons y l ih =>
        have := ih (fun j hj => hs j (List.mem_cons_of_mem _ hj))
        cases hq : q y with
        | true => simp [hq, hs y (by simp) hq]; omega
        | false => cases hp : p y <;> simp [hq, hp] <;> omega
    obtain ⟨j, hj, hp, hq⟩ := h
    rcases List.mem_cons.1 hj with rfl | hj
    · simp [hp, hq]; omega
    · have := filter_len_lt l (fun j hj => hsub j (List.mem_cons_of_mem _ hj)) ⟨j, hj, hp, hq⟩
      cases hqx : q x with
      | true => simp [hqx, hsub x (by simp) hqx]; omega
      | false => cases hpx : p x <;> simp [hqx, hpx] <;> omega
theorem left_lt {g g' : Nat → Bool} (hsub : ∀ j, g j = true → g' j = true) (h : ∃ j, j < 2408 ∧ g j = false ∧ g' j = true) : left g' < left g := by
  refine filter_len_lt _ (fun j _ hj => ?_) ?_
  · cases e : g j with
    | true => rw [hsub j e] at hj; cases hj
    | false => rfl
  · obtain ⟨j, h1, h2, h3⟩ := h
    exact ⟨j, by simpa using h1, by simp [h2], by simp [h3]⟩
/-- A round of the search: what is known and the places that are new. -/
structure Srch (n : NetD) (i0 : Nat) (out now : Nat → Bool) : Prop where
  known : ∀ j, j < 2408 → out j = true → Reach n i0 j
  fresh : ∀ j, j < 2408 → now j = true → j = i0 ∨ Reach n i0 j
  done : ∀ i j, i < 2408 → Edge n i j → (out i = true ∨ i = i0) → now i = false → out j = true
theorem Srch.start (n : NetD) (i0 : Nat) : Srch n i0 (fun _ => false) (only i0) where
  known j _ h := by cases h
  fresh j _ h := by simp only [only, decide_eq_true_eq] at h; exact .inl h
  done i j _ _ h hn := by
    rcases h with h | h
    · cases h
    · subst h; simp [only] at hn
theorem Srch.round {n : NetD} (hv : validNet n = true) {i0 : Nat} {out now : Nat → Bool} (h : Srch n i0 out now) :
    Srch n i0 (gor out (stepL n now n.lanes)) (fun j => stepL n now n.lanes j && !out j) where
  known j hj hg := by
    simp only [gor, Bool.or_eq_true] at hg
    rcases hg with hg | hg
    · exact h.known j hj hg
    · obtain ⟨i, hi, he⟩ := (stepL_iff n now j).1 hg
      rcases h.fresh i (edge_lt hv he).1 hi with rfl | hr
      · exact .one he
      · exact .more hr he
  fresh j hj hg := by
    simp only [Bool.and_eq_true] at hg
    obtain ⟨i, hi, he⟩ := (stepL_iff n now j).1 hg.1
    rcases h.fresh i (edge_lt hv he).1 hi with rfl | hr
    · exact .inr (.one he)
    · exact .inr (.more hr he)
  done i j hi he ho hn := by
    simp only [gor, Bool.or_eq_true]
    have ho' : out i = true ∨ i = i0 := by
      rcases ho with ho | ho
      · simp only [gor, Bool.or_eq_true] at ho
        rcases ho with ho | ho
        · exact .inl ho
        · rw [ho] at hn
          simp at hn
          exact .inl hn
      · exact .inr ho
    cases hnow : now i with
    | true => exact .inr ((stepL_iff n now j).2 ⟨i, hnow, he⟩)
    | false => exact .inl (h.done i j hi he ho' hnow)
theorem Srch.end {n : NetD} (hv : validNet n = true) {i0 : Nat} {out now : Nat → Bool} (h : Srch n i0 out now) (hno : ∀ j, j < 2408 → now j = false) (j : Nat) (hj : j < 2408) : out j = true ↔ Reach n i0 j := by
  constructor
  · exact h.known j hj
  · intro hr
    clear hj
    induction hr with
    | one he => exact h.done _ _ (edge_lt hv he).1 he (.inr rfl) (hno _ (edge_lt hv he).1)
    | more hi he ih => exact h.done _ _ (edge_lt hv he).1 he (.inl ih) (hno _ (edge_lt hv he).1)
end Go.Proofs.Ytonmmfjagkgifaa
