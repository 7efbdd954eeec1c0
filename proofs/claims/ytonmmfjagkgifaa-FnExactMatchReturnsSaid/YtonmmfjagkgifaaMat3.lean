/- Plain: the matching of returns to orders, the program's walk and the reference's. -/
import Derived.Test.YtonmmfjagkgifaaMat2
set_option linter.unusedVariables false
set_option linter.unusedSimpArgs false
namespace Go.Proofs.Ytonmmfjagkgifaa

theorem ok_indices {n : Nat} (hn : n ≤ 1000000) {Q : List Int → Prop} (h : Q (ix n)) : w_impl_indices n Q := by
  refine ⟨by omega, by omega, fun i xs => i ≤ n ∧ xs = ix i, ⟨by omega, rfl⟩, ?_, ?_⟩
  · rintro i xs hi ⟨_, rfl⟩
    refine ⟨by rw [ix_len]; omega, by omega, ?_⟩
    rw [ix, ix, List.range_succ, List.map_append]; rfl
  · rintro xs ⟨_, rfl⟩
    rw [Int.toNat_natCast]; exact h
theorem ok_Compare {x y : Int} {Q : Int → Prop} (h : ∀ r, (r < 0 ↔ x < y) → Q r) : w_cmp_Compare_int16 x y Q := by
  unfold w_cmp_Compare_int16 w_cmp_isNaN_int16
  simp only [decide_true, Bool.not_true, Bool.false_eq_true, false_implies, true_implies, true_and]
  refine ⟨fun e => h _ ?_, fun e => ⟨fun e2 => h _ ?_, fun e2 => h _ ?_⟩⟩
  · rw [decide_eq_true_eq] at e; omega
  · rw [decide_eq_false_iff_not] at e; omega
  · rw [decide_eq_false_iff_not] at e; omega
theorem cmp_days {os : List S_Order} (hl : os.length ≤ 40) : Cmp (keyD os) (fun x => In x os.length) (fun x y Q' => w_impl_matches_1 x y os Q') := fun x y Q hx hy h _ => ⟨hx, hy, ok_Compare h⟩
theorem ok_sorted {os : List S_Order} (hl : os.length ≤ 40) {Q : List Int → Prop} (h : Q (ordered os)) : w_slices_SortStableFunc_int64 (ix os.length) (fun x y Q' => w_impl_matches_1 x y os Q') Q := by
  refine ⟨by rw [ix_len]; omega, ok_stable (cmp_days hl) rfl (by rw [ix_len]; omega) (fun k hk => ?_) (fun p q h1 h2 h3 => ?_) fun ys hs hk => ?_⟩
  · rw [ix_len] at hk
    rw [ix_gt hk]; exact in_nat hk
  · rw [ix_len] at h2
    rw [g, g, ix_gt h2, ix_gt (by omega)]; omega
  · rw [← hs.len] at hk
    rw [ordered_of hs.perm hk]; exact h
theorem run_snoc {os : List S_Order} {r : S_Return} {days i : Int} {s : MS} {l : List Int} {p : Nat} (hp : p < l.length) : run os r days i s (l.take (p + 1)) = stp os r days i (run os r days i s (l.take p)) (gt l (p : Int)) := by
  rw [List.take_succ_eq_append_getElem hp, run_app, gt_nat hp]; rfl
theorem ok_matches {os : List S_Order} {rs : List S_Return} {days : Int} (hg : Good os rs) {Q : List S_Match → List Int → Prop} (h : Q (allR os rs days rs.length).ms (allR os rs days rs.length).over) : w_impl_matches os rs days Q := by
  intro hl1 hl2
  have ol := hg.ol
  have rl := hg.rl
  refine ok_indices (by omega) ⟨by rw [ix_len]; omega, ok_sorted hg.ol ?_⟩
  refine ⟨fun i xs => xs = (List.range i).map fun j : Nat => (gt os (j : Int)).fNumber, rfl, ?_, ?_⟩
  · rintro i xs hi rfl
    refine ⟨by simp only [List.length_map, List.length_range]; omega, ?_⟩
    show _ = _
    rw [List.range_succ, List.map_append]; rfl
  rintro xs rfl
  refine ⟨fun k over ms hv => over = (allR os rs days k).over ∧ ms = (allR os rs days k).ms ∧ hv = (allR os rs days k).hv, ⟨rfl, rfl, rfl⟩, ?_, ?_⟩
  · rintro k over ms hv hk ⟨rfl, rfl, rfl⟩
    have f0 := all_fit0 (days := days) hg hk
    have hlen : (allR os rs days k).ms.length ≤ k * 40 := Nat.le_trans (all_len k) (Nat.mul_le_mul_left k ol)
    have hall := all_len' (days := days) hg (Nat.le_of_lt hk)
    refine ⟨by rw [ordered_len]; omega, fun p x over ms hv => over = (allR os rs days k).over ∧ (⟨x, hv, ms⟩ : MS) = run os (gt rs (k : Int)) days k (s0 rs k (allR os rs days k)) ((ordered os).take p), ⟨rfl, rfl⟩, ?_, ?_⟩
    · rintro p x over ms hv hp ⟨rfl, hs⟩
      obtain ⟨j, hj, ej⟩ := ordered_mem.1 (show (ordered os)[p] ∈ ordered os from List.getElem_mem hp)
      have ej' : gt (ordered os) (p : Int) = j := by rw [gt_nat hp, ej]
      have hs2 := run_snoc (os := os) (r := gt rs (k : Int)) (days := days) (i := k) (s := s0 rs k (allR os rs days k)) hp
      have hfit := run_fit (os := os) (r := gt rs (k : Int)) (days := days) (i := k) ((ordered os).take p) (fun x hx => ordered_mem.1 (List.mem_of_mem_take hx)) f0
      have hrl := (run_len (os := os) (r := gt rs (k : Int)) (days := days) (i := k) ((ordered os).take p) (s := s0 rs k (allR os rs days k))).2
      rw [← hs] at hs2 hfit hrl
      have hrl' : ms.length ≤ (allR os rs days k).ms.length + ((ordered os).take p).length := hrl
      rw [List.length_take, ordered_len] at hrl'
      rw [ej'] at hs2 ⊢
      have hz := zOf_le hfit hj
      have hhl : hv.length = os.length := hfit.h.len
      refine ⟨by rw [hhl]; exact in_nat hj, ?_⟩
      rintro z hzz
      have hzz' : z = zOf ⟨x, hv, ms⟩ j := hzz
      subst hzz'
      clear hzz
      have h1 := hfit.l0; have h2 := hfit.l1; have h3 := hfit.h.has j hj
      simp only at h1 h2 h3 hz
      refine ⟨fun b => b = elig os (gt rs (k : Int)) days ⟨x, hv, ms⟩ j, ?_, fun e => ⟨in_nat hj, ok_canMatch (hg.o j hj) (hg.r k hk) ?_⟩, fun e => ?_⟩
      · rintro b hb
        refine ⟨fun e => ⟨by omega, ?_⟩, fun e => ⟨rfl, ?_⟩⟩
        · rintro xs rfl
          refine ⟨rfl, ?_⟩
          rw [hs2, stp, if_pos (hb ▸ e)]
          have e1 : IntKind.i16.wrap (x - zOf ⟨x, hv, ms⟩ j) = x - zOf ⟨x, hv, ms⟩ j := wrap_i16 (by omega) (by omega)
          have e2 : IntKind.i16.wrap (gt hv (j : Int) - zOf ⟨x, hv, ms⟩ j) = gt hv (j : Int) - zOf ⟨x, hv, ms⟩ j := wrap_i16 (by omega) (by omega)
          rw [e1, e2]
        · rw [hs2, stp, if_neg (by rw [← hb, e]; simp)]
      · rw [elig, show decide (0 < zOf ⟨x, hv, ms⟩ j) = true from e, Bool.true_and]
      · rw [elig, show decide (0 < zOf ⟨x, hv, ms⟩ j) = false from e, Bool.false_and]
    · rintro x over ms hv ⟨rfl, hs⟩
      rw [List.take_length] at hs
      refine ⟨by rw [all_over]; omega, ?_⟩
      have e : allR os rs days (k + 1) = ⟨(allR os rs days k).over ++ [IntKind.i64.wrap x], hv, ms⟩ := by
        rw [allR, ← hs]
      show _ = (allR os rs days (k + 1)).over ∧ _ = (allR os rs days (k + 1)).ms ∧ _ = (allR os rs days (k + 1)).hv
      rw [e]
      exact ⟨rfl, rfl, rfl⟩
  · rintro over ms hv ⟨rfl, rfl, rfl⟩
    exact h
theorem ok_l00Min {a b : Int} {Q : Int → Prop} (h : Q (if b < a then b else a)) : w_spec_l00Min a b Q := by
  constructor
  · intro e
    rw [decide_eq_true_eq] at e
    rw [if_neg (by omega)] at h; exact h
  · intro e
    rw [decide_eq_false_iff_not] at e
    by_cases c : b < a
    · rw [if_pos c] at h; exact h
    · rw [if_neg c] at h
      have : b = a := by omega
      rw [this]; exact h
theorem ok_l06Matches {os : List S_Order} {rs : List S_Return} {days : Int} (hg : Good os rs) {Q : List S_Match → Prop} (h : Q (allR os rs days rs.length).ms) : w_spec_l06Matches os rs days Q := by
  intro hl1 hl2
  have ol := hg.ol
  have rl := hg.rl
  refine ⟨fun m x hv ms => ∃ i : Nat, x = i ∧ i ≤ os.length ∧ m = os.length - i ∧ hv = ((List.range i).map fun j : Nat => (gt os (j : Int)).fNumber) ∧ ms = [], ⟨_, 0, rfl, by omega, rfl, rfl, rfl⟩, ?_⟩
  rintro m x hv ms ⟨i, rfl, hi, rfl, rfl, rfl⟩
  constructor
  · intro e
    rw [dec_lt] at e
    refine ⟨in_nat e, by simp only [List.length_map, List.length_range]; omega, os.length - (i + 1), by omega, i + 1, w64_succ (by omega), by omega, rfl, ?_, rfl⟩
    rw [List.range_succ, List.map_append]; rfl
  intro e
  rw [dec_nlt] at e
  have hi' : i = os.length := by omega
  subst hi'
  refine ⟨fun m x hv ms => ∃ k : Nat, x = k ∧ k ≤ rs.length ∧ m = rs.length - k ∧ hv = (allR os rs days k).hv ∧ ms = (allR os rs days k).ms, ⟨_, 0, rfl, by omega, rfl, rfl, rfl⟩, ?_⟩
  rintro m x hv ms ⟨k, rfl, hk, rfl, rfl, rfl⟩
  constructor
  · intro e1
    rw [dec_lt] at e1
    have f0 := all_fit0 (days := days) hg e1
    refine ⟨in_nat e1, fun m x hv ms => Fit os.length ⟨x, hv, ms⟩ ∧ run os (gt rs (k : Int)) days k ⟨x, hv, ms⟩ (ordered os) = run os (gt rs (k : Int)) days k (s0 rs k (allR os rs days k)) (ordered os) ∧ m = x.toNat, ⟨_, f0, rfl, rfl⟩, ?_⟩
    have hend : ∀ x hv ms, run os (gt rs (k : Int)) days k ⟨x, hv, ms⟩ (ordered os) = run os (gt rs (k : Int)) days k (s0 rs k (allR os rs days k)) (ordered os) → (∀ x' ∈ ordered os, elig os (gt rs (k : Int)) days ⟨x, hv, ms⟩ x' = false) →
        hv = (allR os rs days (k + 1)).hv ∧ ms = (allR os rs days (k + 1)).ms := fun x hv ms h1 h2 => by
      rw [run_idle _ h2] at h1
      rw [allR, ← h1]
      exact ⟨rfl, rfl⟩
    rintro m x hv ms ⟨hf, hrun, rfl⟩
    have hx0 := hf.l0; have hx1 := hf.l1
    have hhl : hv.length = os.length := hf.h.len
    simp only at hx0 hx1
    constructor
    · intro e2
      rw [decide_eq_true_eq] at e2
      refine ⟨fun m best j hv' ms' => ∃ i : Nat, j = i ∧ i ≤ os.length ∧ m = os.length - i ∧ hv' = hv ∧ ms' = ms ∧ ((best = -1 ∧ ∀ c : Nat, c < i → elig os (gt rs (k : Int)) days ⟨x, hv, ms⟩ c = false) ∨ ∃ b : Nat, best = b ∧ b < i ∧ elig os (gt rs (k : Int)) days ⟨x, hv, ms⟩ b = true ∧ ∀ c : Nat, c < i → elig os (gt rs (k : Int)) days ⟨x, hv, ms⟩ c = true → c = b ∨ klt (keyD os) b c),
        ⟨_, 0, rfl, by omega, rfl, rfl, rfl, .inl ⟨rfl, fun c hc => by omega⟩⟩, ?_⟩
      rintro m best j hv' ms' ⟨i, rfl, hi, rfl, rfl, rfl, hbest⟩
      constructor
      · intro e3
        rw [dec_lt] at e3
        have hzi : decide (0 < zOf ⟨x, hv', ms'⟩ i) = decide (gt hv' (i : Int) > 0) := decide_eq_decide.2 (by
          show 0 < (if gt hv' (i : Int) < x then gt hv' (i : Int) else x) ↔ _
          split <;> omega)
        refine ⟨by rw [hhl]; exact in_nat e3, fun b => b = elig os (gt rs (k : Int)) days ⟨x, hv', ms'⟩ i, ?_, fun e4 => ⟨in_nat e3, ok_l06Can (hg.o i e3) (hg.r k e1) ?_⟩, fun e4 => ?_⟩
        · intro b hb
          have hn : best < 0 ∨ ∃ c : Nat, best = c ∧ c < os.length := by
            rcases hbest with ⟨h1, h2⟩ | ⟨c, h1, h2, _⟩
            · left; omega
            · exact .inr ⟨c, h1, by omega⟩
          refine ⟨fun _ => ⟨fun e4 => ?_, trivial⟩, fun e4 => ?_, fun e4 => ?_⟩
          · rw [decide_eq_false_iff_not] at e4
            rcases hn with h | ⟨c, rfl, hc⟩
            · omega
            · exact ⟨in_nat e3, in_nat hc, trivial⟩
          · rw [Bool.and_eq_true, Bool.or_eq_true, decide_eq_true_eq, decide_eq_true_eq] at e4
            obtain ⟨e5, e6⟩ := e4
            refine ⟨os.length - (i + 1), by omega, i + 1, w64_succ (by omega), by omega, rfl, rfl, rfl, .inr ⟨i, rfl, by omega, by rw [← hb, e5], fun c hc hce => ?_⟩⟩
            by_cases hci : c = i
            · exact .inl hci
            · right
              rcases hbest with ⟨h1, h2⟩ | ⟨c', rfl, h2, h3, h4⟩
              · rw [h2 c (by omega)] at hce; simp at hce
              · have e7 : keyD os i < keyD os c' := by rcases e6 with e6 | e6; · omega
                                                       · exact e6
                rcases h4 c (by omega) hce with h5 | h5
                · rw [h5]; exact .inl e7
                · exact klt.trans (.inl e7) h5
          · refine ⟨os.length - (i + 1), by omega, i + 1, w64_succ (by omega), by omega, rfl, rfl, rfl, ?_⟩
            rw [Bool.and_eq_false_iff, Bool.or_eq_false_iff, decide_eq_false_iff_not, decide_eq_false_iff_not] at e4
            rcases hbest with ⟨h1, h2⟩ | ⟨c', rfl, h2, h3, h4⟩
            · refine .inl ⟨h1, fun c hc => ?_⟩
              by_cases hci : c = i
              · rw [hci, ← hb]
                rcases e4 with e4 | e4
                · exact e4
                · omega
              · exact h2 c (by omega)
            · refine .inr ⟨c', rfl, by omega, h3, fun c hc hce => ?_⟩
              by_cases hci : c = i
              · right
                subst hci
                rcases e4 with e4 | e4
                · rw [← hb, e4] at hce; simp at hce
                · have e7 : ¬ keyD os c < keyD os c' := e4.2
                  unfold klt; omega
              · exact h4 c (by omega) hce
        · rw [elig, hzi, e4, Bool.true_and]
        · rw [elig, hzi, e4, Bool.false_and]
      · intro e3
        rw [dec_nlt] at e3
        have hi' : i = os.length := by omega
        subst hi'
        constructor
        · intro e4
          rw [decide_eq_true_eq] at e4
          rcases hbest with ⟨h1, h2⟩ | ⟨c, h1, h2, _⟩
          · obtain ⟨g1, g2⟩ := hend x hv' ms' hrun fun x' hx' => by
              obtain ⟨c, hc, rfl⟩ := ordered_mem.1 hx'
              exact h2 c hc
            exact ⟨rs.length - (k + 1), by omega, k + 1, w64_succ (by omega), by omega, rfl, g1, g2⟩
          · omega
        · intro e4
          rw [decide_eq_false_iff_not] at e4
          rcases hbest with ⟨h1, h2⟩ | ⟨b, rfl, hb, hel, hmin⟩
          · omega
          · have hz := zOf_le hf hb
            have hh := hf.h.has b hb
            simp only at hz hh
            have hzp : 0 < zOf ⟨x, hv', ms'⟩ b := by
              rw [elig, Bool.and_eq_true, decide_eq_true_eq] at hel
              exact hel.1
            have ez : (if IntKind.i64.wrap (gt hv' (b : Int)) < IntKind.i64.wrap x then IntKind.i64.wrap (gt hv' (b : Int)) else IntKind.i64.wrap x) = zOf ⟨x, hv', ms'⟩ b := by
              rw [w64_id (n := gt hv' (b : Int)) (by omega) (by omega), w64_id (n := x) (by omega) (by omega)]; rfl
            refine ⟨by rw [hhl]; exact in_nat hb, ok_l00Min ?_⟩
            rw [ez]
            have e0 : IntKind.i16.wrap (zOf ⟨x, hv', ms'⟩ b) = zOf ⟨x, hv', ms'⟩ b := wrap_i16 (by omega) (by omega)
            rw [e0]
            have e5 : IntKind.i16.wrap (x - zOf ⟨x, hv', ms'⟩ b) = x - zOf ⟨x, hv', ms'⟩ b := wrap_i16 (by omega) (by omega)
            have e6 : IntKind.i16.wrap (gt hv' (b : Int) - zOf ⟨x, hv', ms'⟩ b) = gt hv' (b : Int) - zOf ⟨x, hv', ms'⟩ b := wrap_i16 (by omega) (by omega)
            rw [e5, e6]
            rintro xs rfl
            have hst : stp os (gt rs (k : Int)) days k ⟨x, hv', ms'⟩ b = ⟨x - zOf ⟨x, hv', ms'⟩ b, hv'.set (b : Int).toNat (gt hv' (b : Int) - zOf ⟨x, hv', ms'⟩ b), ms' ++ [⟨IntKind.i8.wrap (k : Int), IntKind.i8.wrap (b : Int), zOf ⟨x, hv', ms'⟩ b⟩]⟩ := by rw [stp, if_pos hel]
            have ht := run_take (i := k) hf hb hel hmin
            have hfit := stp_fit (os := os) (r := gt rs (k : Int)) (days := days) (i := k) hf hb
            rw [hst] at ht hfit
            have hlen : ms'.length ≤ 1600 := by
              have h1 := (run_len (os := os) (r := gt rs (k : Int)) (days := days) (i := k) (ordered os) (s := ⟨x, hv', ms'⟩)).1
              have h2 := all_len' (days := days) hg (show k + 1 ≤ rs.length from e1)
              rw [hrun] at h1
              exact Nat.le_trans h1 h2
            exact ⟨by omega, _, by omega, hfit, ht.trans hrun, rfl⟩
    · intro e2
      rw [decide_eq_false_iff_not] at e2
      obtain ⟨g1, g2⟩ := hend x hv ms hrun fun x' hx' => by
        obtain ⟨c, hc, rfl⟩ := ordered_mem.1 hx'
        have := zOf_le hf hc
        simp only at this
        rw [elig, show decide (0 < zOf ⟨x, hv, ms⟩ (c : Int)) = false by rw [decide_eq_false_iff_not]; omega, Bool.false_and]
      exact ⟨rs.length - (k + 1), by omega, k + 1, w64_succ (by omega), by omega, rfl, g1, g2⟩
  · intro e1
    rw [dec_nlt] at e1
    have : k = rs.length := by omega
    subst this
    exact h
end Go.Proofs.Ytonmmfjagkgifaa
