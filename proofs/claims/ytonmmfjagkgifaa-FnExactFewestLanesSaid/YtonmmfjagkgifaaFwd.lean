/- Nets, plain: the way that both tell. -/
import Derived.Test.YtonmmfjagkgifaaAhead
set_option linter.unusedVariables false
set_option linter.unusedSimpArgs false
namespace Go.Proofs.Ytonmmfjagkgifaa

/-- The first station from which the rest can be done. -/
def pick (n : NetD) (ah now : Nat → Bool) : Option Nat := (List.range n.st.toNat).find? fun s => meetG (stepL n now (n.lanes.filter (toSt s))) ah
def fwd (n : NetD) (j0 : Nat) : Nat → (Nat → Bool) → List Nat → List Nat
  | 0, _, out => out
  | k + 1, now, out => match pick n (ahead n j0 k) now with
    | some s => fwd n j0 k (stepL n now (n.lanes.filter (toSt s))) (out ++ [s])
    | none => fwd n j0 k now out
/-- What lives at one station alone. -/
def At (s : Nat) (g : Nat → Bool) : Prop := ∀ i, g i = true → ∃ h, h < 301 ∧ i = s * 301 + h
theorem at_only (s h : Nat) (hh : h < 301) : At s (only (s * 301 + h)) := fun i hi => by
  simp only [only, decide_eq_true_eq] at hi
  exact ⟨h, hh, hi⟩
theorem at_step {n : NetD} (hv : validNet n = true) (now : Nat → Bool) (s : Nat) : At s (stepL n now (n.lanes.filter (toSt s))) := fun i hi => by
  simp only [stepL, List.any_eq_true, Bool.and_eq_true, List.mem_range, List.mem_filter, toSt, decide_eq_true_eq] at hi
  obtain ⟨l, ⟨hl, ht⟩, h, hh, _, hs⟩ := hi
  obtain ⟨f, t, hlv⟩ := laneV_of hv hl
  obtain ⟨e1, e2, f8, t8, l1, lm, m40, s0, s40⟩ := hlv
  simp only [spn, decide_eq_true_eq] at hs
  exact ⟨i - s * 301, by omega, by omega⟩
end Go.Proofs.Ytonmmfjagkgifaa
