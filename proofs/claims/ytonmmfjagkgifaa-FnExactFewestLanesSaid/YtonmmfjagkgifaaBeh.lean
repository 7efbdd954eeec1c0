/- Nets, plain: what the reference finds hour by hour. -/
import Derived.Test.YtonmmfjagkgifaaNet14
set_option linter.unusedVariables false
set_option linter.unusedSimpArgs false
namespace Go.Proofs.Ytonmmfjagkgifaa

def src (l : LaneD) (h : Nat) : Nat := l.frm.toNat * 301 + h
def arr (l : LaneD) (n : NetD) (h : Nat) : Nat → Bool := spn l n (l.to.toNat * 301 + h) (l.to.toNat * 301 + 300)
structure Beh (n : NetD) (i0 h : Nat) (ls : List LaneD) (out : Nat → Bool) : Prop where
  known : ∀ j, out j = true → Reach n i0 j
  done : ∀ l ∈ n.lanes, ∀ h', h' < h → h' < 301 → ∀ j, (out (src l h') = true ∨ src l h' = i0) → arr l n h' j = true → out j = true
  part : ∀ l ∈ ls, ∀ j, (out (src l h) = true ∨ src l h = i0) → arr l n h j = true → out j = true
theorem Beh.start (n : NetD) (i0 : Nat) : Beh n i0 (i0 % 301) [] (fun _ => false) where
  known j h := by cases h
  done l hl h' hh h3 j hs hj := by
    rcases hs with hs | hs
    · cases hs
    · exfalso; unfold src at hs; omega
  part l hl := by cases hl
theorem arr_hour {n : NetD} (hv : validNet n = true) {l : LaneD} (hl : l ∈ n.lanes) {h f' h' : Nat} (hh : h' < 301) (ha : arr l n h (f' * 301 + h') = true) : h < h' := by
  obtain ⟨f, t, hlv⟩ := laneV_of hv hl
  obtain ⟨e1, e2, f8, t8, l1, lm, m40, s0, s40⟩ := hlv
  simp only [arr, spn, decide_eq_true_eq] at ha
  omega
theorem Beh.hit {n : NetD} (hv : validNet n = true) {i0 h : Nat} {ls : List LaneD} {out : Nat → Bool} (b : Beh n i0 h ls out) {l : LaneD} (hl : l ∈ n.lanes) (hh : h < 301) (hsrc : out (src l h) = true ∨ src l h = i0) : Beh n i0 h (ls ++ [l]) (gor out (arr l n h)) where
  known j hj := by
    simp only [gor, Bool.or_eq_true] at hj
    rcases hj with hj | hj
    · exact b.known j hj
    · have he : Edge n (src l h) j := ⟨l, hl, h, hh, rfl, hj⟩
      rcases hsrc with hs | hs
      · exact .more (b.known _ hs) he
      · rw [hs] at he; exact .one he
  done l' hl' h' hlt h3 j hs hj := by
    simp only [gor, Bool.or_eq_true] at hs ⊢
    rcases hs with (hs | hs) | hs
    · exact .inl (b.done l' hl' h' hlt h3 j (.inl hs) hj)
    · have := arr_hour hv hl h3 hs; omega
    · exact .inl (b.done l' hl' h' hlt h3 j (.inr hs) hj)
  part l' hl' j hs hj := by
    simp only [gor, Bool.or_eq_true] at hs ⊢
    rcases List.mem_append.1 hl' with hm | hm
    · rcases hs with (hs | hs) | hs
      · exact .inl (b.part l' hm j (.inl hs) hj)
      · have := arr_hour hv hl hh hs; omega
      · exact .inl (b.part l' hm j (.inr hs) hj)
    · simp only [List.mem_singleton] at hm
      subst hm
      exact .inr hj
theorem Beh.miss {n : NetD} {i0 h : Nat} {ls : List LaneD} {out : Nat → Bool} (b : Beh n i0 h ls out) {l : LaneD} (hsrc : ¬ (out (src l h) = true ∨ src l h = i0)) : Beh n i0 h (ls ++ [l]) out where
  known := b.known
  done := b.done
  part l' hl' j hs hj := by
    rcases List.mem_append.1 hl' with hm | hm
    · exact b.part l' hm j hs hj
    · simp only [List.mem_singleton] at hm
      subst hm
      exact absurd hs hsrc
theorem Beh.next {n : NetD} {i0 h : Nat} {out : Nat → Bool} (b : Beh n i0 h n.lanes out) : Beh n i0 (h + 1) [] out where
  known := b.known
  done l hl h' hlt h3 j hs hj := by
    by_cases e : h' = h
    · subst e; exact b.part l hl j hs hj
    · exact b.done l hl h' (by omega) h3 j hs hj
  part l hl := by cases hl
theorem Beh.end {n : NetD} {i0 : Nat} {out : Nat → Bool} (b : Beh n i0 301 [] out) (j : Nat) : out j = true ↔ Reach n i0 j := by
  constructor
  · exact b.known j
  · intro hr
    induction hr with
    | one he =>
      obtain ⟨l, hl, h, hh, e, hs⟩ := he
      exact b.done l hl h hh hh _ (.inr e.symm) hs
    | more hi he ih =>
      obtain ⟨l, hl, h, hh, e, hs⟩ := he
      exact b.done l hl h hh hh _ (.inl (by unfold src; rw [← e]; exact ih)) hs
end Go.Proofs.Ytonmmfjagkgifaa
