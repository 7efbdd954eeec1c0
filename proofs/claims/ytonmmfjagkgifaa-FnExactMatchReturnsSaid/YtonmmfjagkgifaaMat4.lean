/- Plain: the laws LeftOver and MatchReturns. -/
import Derived.Test.YtonmmfjagkgifaaMat3
set_option linter.unusedVariables false
set_option linter.unusedSimpArgs false
namespace Go.Proofs.Ytonmmfjagkgifaa

/-! ### what a return has left over -/
def sumR : List S_Match → Int → Int
  | [], _ => 0
  | m :: l, i => (if m.fReturn = i then m.fNumber else 0) + sumR l i
theorem sumR_app (l l' : List S_Match) (i : Int) : sumR (l ++ l') i = sumR l i + sumR l' i := by
  induction l with
  | nil => simp [sumR]
  | cons m l ih => simp only [List.cons_append, sumR, ih]; omega
theorem w64_sub2 (a b : Int) : IntKind.i64.wrap (IntKind.i64.wrap a - IntKind.i64.wrap b) = IntKind.i64.wrap (a - b) := by
  simp only [IntKind.wrap, IntKind.bits, IntKind.signed]; simp; omega
theorem w8_id {n : Nat} (h : n ≤ 127) : IntKind.i8.wrap (n : Int) = n := wrap_i8 (by omega) (by omega)
/-- What a run of return k keeps. -/
structure Keep (k : Nat) (s s' : MS) : Prop where
  sum : s'.left + sumR s'.ms k = s.left + sumR s.ms k
  oth : ∀ j : Nat, j ≠ k → sumR s'.ms j = sumR s.ms j
  mem : ∀ m ∈ s'.ms, m ∈ s.ms ∨ m.fReturn = k
theorem stp_keep {os : List S_Order} {r : S_Return} {days : Int} {k : Nat} (hk : k ≤ 127) {s : MS} {j : Int} : Keep k s (stp os r days k s j) := by
  unfold stp
  split
  · refine ⟨?_, fun i hi => ?_, fun m hm => ?_⟩
    · show s.left - _ + sumR (s.ms ++ [_]) _ = _
      rw [sumR_app]
      simp only [sumR, w8_id hk, if_true]
      omega
    · show sumR (s.ms ++ [_]) _ = _
      rw [sumR_app]
      simp only [sumR, w8_id hk]
      rw [if_neg (by omega)]; omega
    · have hm' : m ∈ s.ms ++ [_] := hm
      rw [List.mem_append] at hm'
      rcases hm' with h | h
      · exact .inl h
      · rw [List.mem_singleton] at h
        right; rw [h]; exact w8_id hk
  · exact ⟨rfl, fun _ _ => rfl, fun m hm => .inl hm⟩
theorem run_keep {os : List S_Order} {r : S_Return} {days : Int} {k : Nat} (hk : k ≤ 127) : ∀ (l : List Int) {s : MS}, Keep k s (run os r days k s l)
  | [], s => ⟨rfl, fun _ _ => rfl, fun m hm => .inl hm⟩
  | j :: l, s => by
    rw [run_cons]
    have h1 := stp_keep (os := os) (r := r) (days := days) hk (s := s) (j := j)
    have h2 := run_keep (os := os) (r := r) (days := days) hk l (s := stp os r days k s j)
    refine ⟨h2.sum.trans h1.sum, fun i hi => (h2.oth i hi).trans (h1.oth i hi), fun m hm => ?_⟩
    rcases h2.mem m hm with h | h
    · exact h1.mem m h
    · exact .inr h
structure Tot (rs : List S_Return) (k : Nat) (t : MAR) : Prop where
  mem : ∀ m ∈ t.ms, ∃ i : Nat, i < k ∧ m.fReturn = i
  over : t.over = (List.range k).map fun j : Nat => IntKind.i64.wrap ((gt rs (j : Int)).fNumber - sumR t.ms j)
theorem sumR_none {l : List S_Match} {j : Int} (h : ∀ m ∈ l, m.fReturn ≠ j) : sumR l j = 0 := by
  induction l with
  | nil => rfl
  | cons m l ih => rw [sumR, if_neg (h m (by simp)), ih fun m hm => h m (by simp [hm])]; rfl
theorem all_tot {os : List S_Order} {rs : List S_Return} {days : Int} (hg : Good os rs) : ∀ {k : Nat}, k ≤ rs.length → Tot rs k (allR os rs days k)
  | 0, _ => ⟨fun m hm => by simp [allR] at hm, rfl⟩
  | k + 1, hk => by
    have t := all_tot (days := days) hg (show k ≤ rs.length by omega)
    have rl := hg.rl
    have kp := run_keep (os := os) (r := gt rs (k : Int)) (days := days) (show k ≤ 127 by omega) (ordered os) (s := s0 rs k (allR os rs days k))
    refine ⟨fun m hm => ?_, ?_⟩
    · rcases kp.mem m hm with h | h
      · obtain ⟨i, hi, e⟩ := t.mem m h
        exact ⟨i, by omega, e⟩
      · exact ⟨k, by omega, h⟩
    · show (allR os rs days k).over ++ [_] = _
      rw [t.over, List.range_succ, List.map_append]
      congr 1
      · apply List.map_congr_left
        intro j hj
        have hj' : j < k := by simpa using hj
        have := kp.oth j (by omega)
        show _ = IntKind.i64.wrap (_ - sumR (run _ _ _ _ _ _).ms _)
        rw [this]; rfl
      · simp only [List.map_cons, List.map_nil]
        congr 2
        have h1 := kp.sum
        have h2 : sumR (s0 rs k (allR os rs days k)).ms k = 0 := sumR_none fun m hm => by
          obtain ⟨i, hi, e⟩ := t.mem m hm
          omega
        rw [h2] at h1
        have h3 : (s0 rs k (allR os rs days k)).left = (gt rs (k : Int)).fNumber := rfl
        show (run _ _ _ _ _ _).left = _ - sumR (run _ _ _ _ _ _).ms _
        omega
/-! ### which arguments are good -/
structure Rng (os : List S_Order) (rs : List S_Return) : Prop where
  o : ∀ o ∈ os, (-32768 ≤ o.fNumber ∧ o.fNumber ≤ 32767) ∧ -32768 ≤ o.fDay ∧ o.fDay ≤ 32767
  r : ∀ r ∈ rs, (-32768 ≤ r.fNumber ∧ r.fNumber ≤ 32767) ∧ -32768 ≤ r.fDay ∧ r.fDay ≤ 32767
theorem good_of {os : List S_Order} {rs : List S_Return} {fine : Bool} (hr : Rng os rs) (h : code06 os rs fine = 0) : Good os rs := by
  have hv : (vO os && vR rs) = true := by
    unfold code06 at h
    split at h
    · assumption
    · omega
  simp only [vO, vR, Bool.and_eq_true, decide_eq_true_eq, List.all_eq_true] at hv
  obtain ⟨⟨ol, ho⟩, rl, hr2⟩ := hv
  refine ⟨fun k hk => ?_, fun k hk => ?_, ol, rl⟩
  · rw [gt_nat hk]
    have h1 := ho _ (List.getElem_mem hk)
    have h2 := hr.o _ (List.getElem_mem hk)
    simp only [ordOk, retOk, within, Bool.and_eq_true, decide_eq_true_eq] at h1
    rw [w64_id (n := os[k].fNumber) (by omega) (by omega), w64_id (n := os[k].fDay) (by omega) (by omega)] at h1
    exact ⟨by omega, by omega, by omega, by omega⟩
  · rw [gt_nat hk]
    have h1 := hr2 _ (List.getElem_mem hk)
    have h2 := hr.r _ (List.getElem_mem hk)
    simp only [retOk, within, Bool.and_eq_true, decide_eq_true_eq] at h1
    rw [w64_id (n := rs[k].fNumber) (by omega) (by omega), w64_id (n := rs[k].fDay) (by omega) (by omega)] at h1
    exact ⟨by omega, by omega, by omega, by omega⟩
/-! ### the two functions -/
def c06 (os : List S_Order) (rs : List S_Return) (days : Int) : Int := code06 os rs (within days 0 1000)
def overLO (os : List S_Order) (rs : List S_Return) (days : Int) : List Int := if c06 os rs days = 0 then (allR os rs days rs.length).over else []
def msMR (os : List S_Order) (rs : List S_Return) (days : Int) : List S_Match := if c06 os rs days = 0 then (allR os rs days rs.length).ms else []
theorem overLO_len {os : List S_Order} {rs : List S_Return} {days : Int} : (overLO os rs days).length ≤ rs.length := by
  unfold overLO
  split
  · rw [all_over]; omega
  · simp
theorem msMR_len {os : List S_Order} {rs : List S_Return} {days : Int} (hr : Rng os rs) : (msMR os rs days).length ≤ 1600 := by
  unfold msMR
  split
  · rename_i h; exact all_len' (good_of hr h) (Nat.le_refl _)
  · simp
theorem ok_impl_LeftOver {os : List S_Order} {rs : List S_Return} {days : Int} (hr : Rng os rs) {Q : List Int → Int → Prop} (h : Q (overLO os rs days) (c06 os rs days)) : w_impl_LeftOver os rs days Q := by
  intro hl1 hl2
  refine ok_daysCode ⟨fun e => ?_, fun e => ?_⟩
  · have e' : ¬ c06 os rs days = 0 := by simpa [c06] using e
    rw [overLO, if_neg e'] at h; exact h
  · have e' : c06 os rs days = 0 := by simpa [c06] using e
    rw [overLO, if_pos e', e'] at h
    exact ok_matches (good_of hr e') h
theorem ok_impl_MatchReturns {os : List S_Order} {rs : List S_Return} {days : Int} (hr : Rng os rs) {Q : List S_Match → Int → Prop} (h : Q (msMR os rs days) (c06 os rs days)) : w_impl_MatchReturns os rs days Q := by
  intro hl1 hl2
  refine ok_daysCode ⟨fun e => ?_, fun e => ?_⟩
  · have e' : ¬ c06 os rs days = 0 := by simpa [c06] using e
    rw [msMR, if_neg e'] at h; exact h
  · have e' : c06 os rs days = 0 := by simpa [c06] using e
    rw [msMR, if_pos e', e'] at h
    exact ok_matches (good_of hr e') h
theorem ok_spec_MatchReturns {os : List S_Order} {rs : List S_Return} {days : Int} (hr : Rng os rs) {Q : List S_Match → Int → Prop} (h : Q (msMR os rs days) (c06 os rs days)) : w_spec_MatchReturns os rs days Q := by
  intro hl1 hl2
  refine ok_l00In (ok_l06Asked ⟨fun e => ?_, fun e => ?_⟩)
  · have e' : ¬ c06 os rs days = 0 := by simpa [c06] using e
    rw [msMR, if_neg e'] at h; exact h
  · have e' : c06 os rs days = 0 := by simpa [c06] using e
    rw [msMR, if_pos e', e'] at h
    exact ok_l06Matches (good_of hr e') h
theorem ok_spec_LeftOver {os : List S_Order} {rs : List S_Return} {days : Int} (hr : Rng os rs) {Q : List Int → Int → Prop} (h : Q (overLO os rs days) (c06 os rs days)) : w_spec_LeftOver os rs days Q := by
  intro hl1 hl2
  refine ok_l00In (ok_l06Asked ⟨fun e => ?_, fun e => ?_⟩)
  · have e' : ¬ c06 os rs days = 0 := by simpa [c06] using e
    rw [overLO, if_neg e'] at h; exact h
  · have e' : c06 os rs days = 0 := by simpa [c06] using e
    rw [overLO, if_pos e', e'] at h
    have hg := good_of hr e'
    have rl := hg.rl
    refine ⟨fun m x xs => ∃ i : Nat, x = i ∧ i ≤ rs.length ∧ m = rs.length - i ∧ xs = (List.range i).map fun j : Nat => IntKind.i64.wrap ((gt rs (j : Int)).fNumber), ⟨_, 0, rfl, by omega, rfl, rfl⟩, ?_⟩
    rintro m x xs ⟨i, rfl, hi, rfl, rfl⟩
    constructor
    · intro e1
      rw [dec_lt] at e1
      refine ⟨in_nat e1, by simp only [List.length_map, List.length_range]; omega, rs.length - (i + 1), by omega, i + 1, w64_succ (by omega), by omega, rfl, ?_⟩
      rw [List.range_succ, List.map_append]; rfl
    intro e1
    rw [dec_nlt] at e1
    have hi' : i = rs.length := by omega
    subst hi'
    refine ok_l06Matches hg ?_
    have ht := all_tot (days := days) hg (Nat.le_refl _)
    have hlen := all_len' (days := days) hg (Nat.le_refl _)
    have hmem := ht.mem
    rw [ht.over] at h
    clear ht
    generalize (allR os rs days rs.length).ms = M at *
    refine ⟨fun m x xs => ∃ i : Nat, x = i ∧ i ≤ M.length ∧ m = M.length - i ∧ xs = (List.range rs.length).map fun j : Nat => IntKind.i64.wrap ((gt rs (j : Int)).fNumber - sumR (M.take i) j), ⟨_, 0, rfl, by omega, rfl, ?_⟩, ?_⟩
    · apply List.map_congr_left
      intro j hj
      simp [sumR]
    rintro m x xs ⟨i, rfl, hi, rfl, rfl⟩
    constructor
    · intro e2
      rw [dec_lt] at e2
      obtain ⟨c, hc, ec⟩ := hmem M[i] (List.getElem_mem e2)
      rw [gt_nat e2, ec]
      refine ⟨in_nat e2, in_nat (by simpa using hc), ?_⟩
      rintro ys rfl
      refine ⟨M.length - (i + 1), by omega, i + 1, w64_succ (by omega), by omega, rfl, ?_⟩
      rw [gt_map hc, w64_sub2, Int.toNat_natCast]
      apply List.ext_getElem?
      intro j
      rw [List.getElem?_set]
      simp only [List.length_map, List.length_range, List.getElem?_map]
      have hsum : ∀ j : Nat, sumR (M.take (i + 1)) j = sumR (M.take i) j + if c = j then M[i].fNumber else 0 := fun j => by
        rw [List.take_succ_eq_append_getElem e2, sumR_app]
        simp only [sumR, ec]
        by_cases hh : c = j
        · rw [if_pos hh, if_pos (by omega)]; omega
        · rw [if_neg hh, if_neg (by omega)]; omega
      by_cases hj : j < rs.length
      · simp only [List.getElem?_range hj, Option.map_some, hsum]
        by_cases hh : c = j
        · subst hh
          rw [if_pos rfl, if_pos hj, if_pos rfl]
          congr 2; omega
        · rw [if_neg hh, if_neg hh]
          congr 2; omega
      · have : (List.range rs.length)[j]? = none := by simp; omega
        by_cases hh : c = j
        · omega
        · rw [if_neg hh, this]; rfl
    · intro e2
      rw [dec_nlt] at e2
      have : i = M.length := by omega
      subst this
      rw [List.take_length]
      exact h
end Go.Proofs.Ytonmmfjagkgifaa
