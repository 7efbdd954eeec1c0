/- Plain: the laws LeftOver and MatchReturns hold. -/
import Derived.Test.YtonmmfjagkgifaaMat4
import Derived.Test.YtonmmfjagkgifaaArgO
set_option linter.unusedVariables false
set_option linter.unusedSimpArgs false
namespace Go.Proofs.Ytonmmfjagkgifaa

theorem rng_of {os : List S_Order} {rs : List S_Return} (ho : ∀ y ∈ os, okS_Order y) (hr : ∀ y ∈ rs, okS_Return y) : Rng os rs :=
  ⟨fun o h => by have := ho o h; unfold okS_Order at this; omega, fun r h => by have := hr r h; unfold okS_Return at this; omega⟩
theorem c06_eq {a : Int} : (!decide (a = a)) = false := by simp
theorem ok_law_LeftOver {os : List S_Order} {rs : List S_Return} {days : Int} (ho : ∀ y ∈ os, okS_Order y) (hr : ∀ y ∈ rs, okS_Return y) (_ : IntKind.i64.min ≤ days ∧ days ≤ IntKind.i64.max) : w_laws_FnExactLeftOver os rs days (fun r => r = true) := by
  have hg := rng_of ho hr
  have hol := overLO_len (os := os) (rs := rs) (days := days)
  intro hl1 hl2
  refine ok_szOrderS (by omega) (by omega) ⟨fun _ => rfl, fun e1 => ?_⟩
  have n1 : ¬ (1048576 : Int) - os.length < 0 := fun h => by rw [if_pos h] at e1; simp at e1
  rw [if_neg n1]
  refine ok_szReturnS (by omega) (by omega) ⟨fun _ => rfl, fun e2 => ?_⟩
  have n2 : ¬ (1048576 : Int) - os.length - rs.length < 0 := fun h => by rw [if_pos h] at e2; simp at e2
  refine ok_toOrderS (by omega) (ok_toReturnS (by omega) ⟨by omega, by omega, ok_spec_LeftOver hg ?_⟩)
  refine ok_toOrderS (by omega) (ok_toReturnS (by omega) ⟨by omega, by omega, ok_impl_LeftOver hg ⟨by omega, by omega, ok_eqInt64S ?_⟩⟩)
  refine ⟨fun e => by simp at e, fun _ => ?_⟩
  refine ok_toOrderS (by omega) ⟨by omega, ok_eqOrderS ⟨fun e => by simp at e, fun _ => ?_⟩⟩
  refine ok_toReturnS (by omega) ⟨by omega, ok_eqReturnS ⟨fun e => by simp at e, fun _ => ?_⟩⟩
  refine ok_markOrderS (by omega) (by omega) (by omega) (ok_markReturnS (by omega) (by omega) (by omega) ?_)
  refine ⟨fun x => x = false, ?_, fun _ => ok_eqInt64S rfl, fun e => by rw [decide_eq_true_eq] at e; omega⟩
  rintro x rfl
  refine ⟨fun e => by simp at e, fun _ => ok_markInt64S (by omega) (by omega) (by omega) ⟨by rw [marksInt64_len]; omega, ok_heldInt64S (by omega) (by omega) (by omega) ⟨fun e => by rw [decide_eq_true_eq] at e; omega, fun _ => ⟨fun e => by simp at e, fun _ => ?_⟩⟩⟩⟩
  refine ok_toOrderS (by omega) (ok_toReturnS (by omega) ⟨by omega, by omega, ok_impl_LeftOver hg ⟨by omega, ok_eqInt64S ?_⟩⟩)
  refine ⟨fun e => by simp at e, fun _ => ok_heldInt64S (by omega) (by omega) (by omega) ⟨fun e => by rw [decide_eq_true_eq] at e; omega, fun _ => ⟨fun e => by simp at e, fun _ => rfl⟩⟩⟩
theorem ok_law_MatchReturns {os : List S_Order} {rs : List S_Return} {days : Int} (ho : ∀ y ∈ os, okS_Order y) (hr : ∀ y ∈ rs, okS_Return y) (_ : IntKind.i64.min ≤ days ∧ days ≤ IntKind.i64.max) : w_laws_FnExactMatchReturns os rs days (fun r => r = true) := by
  have hg := rng_of ho hr
  have hol := msMR_len (os := os) (rs := rs) (days := days) hg
  intro hl1 hl2
  refine ok_szOrderS (by omega) (by omega) ⟨fun _ => rfl, fun e1 => ?_⟩
  have n1 : ¬ (1048576 : Int) - os.length < 0 := fun h => by rw [if_pos h] at e1; simp at e1
  rw [if_neg n1]
  refine ok_szReturnS (by omega) (by omega) ⟨fun _ => rfl, fun e2 => ?_⟩
  have n2 : ¬ (1048576 : Int) - os.length - rs.length < 0 := fun h => by rw [if_pos h] at e2; simp at e2
  refine ok_toOrderS (by omega) (ok_toReturnS (by omega) ⟨by omega, by omega, ok_spec_MatchReturns hg ?_⟩)
  refine ok_toOrderS (by omega) (ok_toReturnS (by omega) ⟨by omega, by omega, ok_impl_MatchReturns hg ⟨by omega, by omega, ok_eqMatchS ?_⟩⟩)
  refine ⟨fun e => by simp at e, fun _ => ?_⟩
  refine ok_toOrderS (by omega) ⟨by omega, ok_eqOrderS ⟨fun e => by simp at e, fun _ => ?_⟩⟩
  refine ok_toReturnS (by omega) ⟨by omega, ok_eqReturnS ⟨fun e => by simp at e, fun _ => ?_⟩⟩
  refine ok_markOrderS (by omega) (by omega) (by omega) (ok_markReturnS (by omega) (by omega) (by omega) ?_)
  refine ⟨fun x => x = false, ?_, fun _ => ok_eqMatchS rfl, fun e => by rw [decide_eq_true_eq] at e; omega⟩
  rintro x rfl
  refine ⟨fun e => by simp at e, fun _ => ok_markMatchS (by omega) (by omega) (by omega) ⟨by rw [marksMatch_len]; omega, ok_heldMatchS (by omega) (by omega) (by omega) ⟨fun e => by rw [decide_eq_true_eq] at e; omega, fun _ => ⟨fun e => by simp at e, fun _ => ?_⟩⟩⟩⟩
  refine ok_toOrderS (by omega) (ok_toReturnS (by omega) ⟨by omega, by omega, ok_impl_MatchReturns hg ⟨by omega, ok_eqMatchS ?_⟩⟩)
  refine ⟨fun e => by simp at e, fun _ => ok_heldMatchS (by omega) (by omega) (by omega) ⟨fun e => by rw [decide_eq_true_eq] at e; omega, fun _ => ⟨fun e => by simp at e, fun _ => rfl⟩⟩⟩
end Go.Proofs.Ytonmmfjagkgifaa
