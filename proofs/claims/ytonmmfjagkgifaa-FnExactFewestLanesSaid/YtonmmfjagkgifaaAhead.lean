/- Nets, plain: how many lanes it takes. -/
import Derived.Test.YtonmmfjagkgifaaNet16
set_option linter.unusedVariables false
set_option linter.unusedSimpArgs false
namespace Go.Proofs.Ytonmmfjagkgifaa

theorem backL_iff {n : NetD} (hv : validNet n = true) (g : Nat → Bool) (i : Nat) : backL n g n.lanes i = true ↔ ∃ j, Edge n i j ∧ g j = true := by
  simp only [backL, backH, backAt, List.any_eq_true, Bool.and_eq_true, List.mem_range, decide_eq_true_eq]
  constructor
  · rintro ⟨l, hl, h, hh, hi, u, hu, hs, hg⟩
    exact ⟨_, ⟨l, hl, h, hh, hi, hs⟩, hg⟩
  · rintro ⟨j, ⟨l, hl, h, hh, hi, hs⟩, hg⟩
    obtain ⟨f, t, hlv⟩ := laneV_of hv hl
    obtain ⟨e1, e2, f8, t8, l1, lm, m40, s0, s40⟩ := hlv
    have hj : l.to.toNat * 301 + (j - l.to.toNat * 301) = j ∧ j - l.to.toNat * 301 < 301 := by
      simp only [spn, decide_eq_true_eq] at hs
      omega
    exact ⟨l, hl, h, hh, hi, j - l.to.toNat * 301, hj.2, by rw [hj.1]; exact hs, by rw [hj.1]; exact hg⟩
def ahead (n : NetD) (j0 : Nat) : Nat → (Nat → Bool)
  | 0 => only j0
  | k + 1 => backL n (ahead n j0 k) n.lanes
theorem ahead_hour {n : NetD} (hv : validNet n = true) {j0 : Nat} : ∀ (k i : Nat), ahead n j0 k i = true → i % 301 + k ≤ j0 % 301
  | 0, i, h => by
    simp only [ahead, only, decide_eq_true_eq] at h
    subst h; omega
  | k + 1, i, h => by
    obtain ⟨j, he, hg⟩ := (backL_iff hv _ _).1 h
    have := ahead_hour hv k j hg
    have := edge_hour hv he
    omega
theorem reach_ahead {n : NetD} (hv : validNet n = true) {i j0 j : Nat} (h : Reach n i j) : ∀ m, ahead n j0 m j = true → ∃ k, 1 ≤ k ∧ ahead n j0 k i = true := by
  induction h with
  | one he => intro m hm; exact ⟨m + 1, by omega, (backL_iff hv _ _).2 ⟨_, he, hm⟩⟩
  | more hi he ih => intro m hm; exact ih (m + 1) ((backL_iff hv _ _).2 ⟨_, he, hm⟩)
theorem ahead_some {n : NetD} (hv : validNet n = true) {i j0 : Nat} (h : Reach n i j0) : ∃ k, 1 ≤ k ∧ k ≤ 300 ∧ ahead n j0 k i = true := by
  obtain ⟨k, h1, h2⟩ := reach_ahead (j0 := j0) hv h 0 (by simp [ahead, only])
  have := ahead_hour hv k i h2
  exact ⟨k, h1, by omega, h2⟩
end Go.Proofs.Ytonmmfjagkgifaa
