/- The abstract calculus, fifteenth text: loops. -/
import Derived.Test.YtonmmfjagkgifaaLib
set_option linter.unusedVariables false
set_option linter.unusedSimpArgs false
namespace Go.Proofs.Ytonmmfjagkgifaa
open Go.RowKit

/-- The temporaries that code writes. -/
def mods : AC → List Nat
  | .nil | .exit _ | .ret => []
  | .op i k => (match i.dst with | some d => [d] | none => []) ++ mods k
  | .cond _ a b k => mods a ++ mods b ++ mods k
  | .blk _ b k => mods b ++ mods k
  | .loop b => mods b
/-- Beside some temporaries they are as they were. -/
def Off (m : List Nat) (T T0 : Tm) : Prop := ∀ t, m.contains t = false → T t = T0 t
theorem Off.refl (m : List Nat) (T : Tm) : Off m T T := fun _ _ => rfl
theorem Off.trans {m : List Nat} {A B C : Tm} (h : Off m A B) (k : Off m B C) : Off m A C := fun t ht => (h t ht).trans (k t ht)
theorem Off.mono {m m' : List Nat} {T T0 : Tm} (h : Off m T T0) (hm : ∀ t, m'.contains t = false → m.contains t = false) : Off m' T T0 := fun t ht => h t (hm t ht)
theorem Off.put {m : List Nat} {T T0 : Tm} {d : Nat} {v : Value} (h : Off m T T0) (hd : m.contains d = true) : Off m (T.put d v) T0 := fun t ht => by
  rw [put_get, if_neg (by intro e; rw [e, hd] at ht; cases ht)]
  exact h t ht
theorem Off.get {m : List Nat} {T T0 : Tm} {t : Nat} (h : Off m T T0) (ht : m.contains t = false) : T t = T0 t := h t ht

section
variable {P : Program}
theorem contains_append_false {a b : List Nat} {t : Nat} : (a ++ b).contains t = false ↔ a.contains t = false ∧ b.contains t = false := by
  simp [List.contains_eq_mem]

theorem step_off {T : Tm} {H : Hp} {i : AI} {K : Tm → Hp → Prop} (hl : Live H) (h : i.step P T H K) : i.step P T H (fun T1 H1 => Live H1 ∧ (∀ t, i.dst ≠ some t → T1 t = T t) ∧ K T1 H1) := by
  by_cases hc : cls i.op = 4
  · obtain ⟨dst, g, op⟩ := i
    cases op <;> (try (simp [cls] at hc; done))
    unfold AI.step at *
    split at h
    · rename_i rs hg; rw [if_pos hg]; exact ⟨h.1, hl, fun _ _ => rfl, h.2⟩
    · rename_i rs hg
      rw [if_neg hg]
      refine ⟨hl, fun t ht => ?_, h⟩
      cases dst with
      | none => rfl
      | some d => rw [puto_some, put_get, if_neg (fun e => ht (by rw [e]))]
  · refine ai_step_mono hl (ai_step_frame hc h) fun T' H' hl' hk => ⟨hl', fun t ht => ?_, hk.2⟩
    obtain ⟨⟨v, rfl⟩, _⟩ := hk.1
    cases hd : i.dst with
    | none => rfl
    | some d => rw [puto_some, put_get, if_neg (fun e => ht (by rw [hd, e]))]

theorem aw_mods : ∀ (c : AC) {Q : Ex → Tm → Hp → Prop} {T : Tm} {H : Hp}, Live H → aw P c T H Q → aw P c T H (fun e T' H' => Live H' ∧ Off (mods c) T' T ∧ Q e T' H')
  | .nil, Q, T, H, hl, h => ⟨hl, Off.refl _ _, h⟩
  | .op i k, Q, T, H, hl, h => by
    refine ai_step_mono hl (step_off hl h) fun T' H' hl' hk => ?_
    refine aw_mono k hl' (fun e T2 H2 hl2 hq => ⟨hl2, fun t ht => ?_, hq.2.2⟩) (aw_mods k hl' hk.2.2)
    simp only [mods] at ht
    rw [contains_append_false] at ht
    rw [hq.2.1 t ht.2]
    refine hk.2.1 t ?_
    intro e
    rw [e] at ht
    simp at ht
  | .cond c a b k, Q, T, H, hl, h => by
    have key : ∀ (x : AC), (∀ t, (mods (.cond c a b k)).contains t = false → (mods x).contains t = false) → aw P x T H (fun e T' H' => match e with
        | .norm => aw P k T' H' Q
        | e => Q e T' H') → (∀ {Q : Ex → Tm → Hp → Prop}, aw P x T H Q → aw P x T H (fun e T' H' => Live H' ∧ Off (mods x) T' T ∧ Q e T' H')) → aw P x T H (fun e T' H' => match e with
        | .norm => aw P k T' H' (fun e T' H' => Live H' ∧ Off (mods (.cond c a b k)) T' T ∧ Q e T' H')
        | e => Live H' ∧ Off (mods (.cond c a b k)) T' T ∧ Q e T' H') := by
      intro x hx hax hm
      refine aw_mono x hl (fun e T2 H2 hl2 hq => ?_) (hm hax)
      obtain ⟨_, hoff, hq⟩ := hq
      cases e
      · refine aw_mono k hl2 (fun e T3 H3 hl3 hq3 => ⟨hl3, fun t ht => ?_, hq3.2.2⟩) (aw_mods k hl2 hq)
        have ht' := ht
        simp only [mods] at ht'
        rw [contains_append_false] at ht'
        rw [hq3.2.1 t ht'.2]
        exact hoff t (hx t ht)
      · exact ⟨hl2, fun t ht => hoff t (hx t ht), hq⟩
      · exact ⟨hl2, fun t ht => hoff t (hx t ht), hq⟩
    obtain ⟨t, ht, h1, h2⟩ := h
    refine ⟨t, ht, fun e => key a (fun t ht => ?_) (h1 e) (fun h => aw_mods a hl h), fun e => key b (fun t ht => ?_) (h2 e) (fun h => aw_mods b hl h)⟩
    · simp only [mods] at ht
      rw [contains_append_false, contains_append_false] at ht
      exact ht.1.1
    · simp only [mods] at ht
      rw [contains_append_false, contains_append_false] at ht
      exact ht.1.2
  | .blk id b k, Q, T, H, hl, h => by
    refine aw_mono b hl (fun e T2 H2 hl2 hq => ?_) (aw_mods b hl h)
    obtain ⟨_, hoff, hq⟩ := hq
    have hk : aw P k T2 H2 Q → aw P k T2 H2 (fun e T' H' => Live H' ∧ Off (mods (.blk id b k)) T' T ∧ Q e T' H') := by
      intro hk
      refine aw_mono k hl2 (fun e T3 H3 hl3 hq3 => ⟨hl3, fun t ht => ?_, hq3.2.2⟩) (aw_mods k hl2 hk)
      simp only [mods] at ht
      rw [contains_append_false] at ht
      rw [hq3.2.1 t ht.2]
      exact hoff t ht.1
    have hoff' : Off (mods (.blk id b k)) T2 T := fun t ht => by
      simp only [mods] at ht
      rw [contains_append_false] at ht
      exact hoff t ht.1
    cases e
    · exact hk hq
    · simp only at hq ⊢
      split at hq
      · rename_i he; rw [if_pos he]; exact hk hq
      · rename_i he; rw [if_neg he]; exact ⟨hl2, hoff', hq⟩
    · exact ⟨hl2, hoff', hq⟩
  | .loop b, Q, T, H, hl, h => by
    obtain ⟨I, ⟨n, H1, h1, h2⟩, h3⟩ := h
    have hl1 : Live H1 := by obtain ⟨w, hw⟩ := hl; exact ⟨w, hw.sub h1⟩
    refine ⟨fun n T' H' => Live H' ∧ Off (mods b) T' T ∧ I n T' H', ⟨n, H1, h1, hl1, Off.refl _ _, h2⟩, fun n T' H' hi => ?_⟩
    refine aw_mono b hi.1 (fun e T2 H2 hl2 hq => ?_) (aw_mods b hi.1 (h3 n T' H' hi.2.2))
    obtain ⟨_, hoff, hq⟩ := hq
    cases e
    · obtain ⟨n', H3, g1, g2, g3⟩ := hq
      have hl3 : Live H3 := by obtain ⟨w, hw⟩ := hl2; exact ⟨w, hw.sub g2⟩
      exact ⟨n', H3, g1, g2, hl3, hoff.trans hi.2.1, g3⟩
    · exact ⟨hl2, hoff.trans hi.2.1, hq⟩
    · exact ⟨hl2, hoff.trans hi.2.1, hq⟩
  | .exit id, Q, T, H, hl, h => ⟨hl, Off.refl _ _, h⟩
  | .ret, Q, T, H, hl, h => ⟨hl, Off.refl _ _, h⟩

/-- What a round of a loop must leave. -/
def lpQ (I : Nat → Tm → Hp → Prop) (n : Nat) (Q : Ex → Tm → Hp → Prop) : Ex → Tm → Hp → Prop
  | .norm, T, H => ∃ n' H2, n' < n ∧ H2.sub H ∧ I n' T H2
  | .exit id, T, H => Q (.exit id) T H
  | .ret, T, H => Q .ret T H
/-- A LOOP: a relation with a number that each round lowers; what the round does not write stays. -/
theorem aw_loopM {b : AC} {T : Tm} {H : Hp} {Q : Ex → Tm → Hp → Prop} (hl : Live H) (I : Nat → Tm → Hp → Prop) (n : Nat) (H1 : Hp) (hsub : H1.sub H) (h0 : I n T H1)
    (h : ∀ n T' H', Live H' → Off (mods b) T' T → I n T' H' → aw P b T' H' (lpQ I n Q)) : aw P (.loop b) T H Q := by
  have hl1 : Live H1 := by obtain ⟨w, hw⟩ := hl; exact ⟨w, hw.sub hsub⟩
  refine ⟨fun n T' H' => Live H' ∧ Off (mods b) T' T ∧ I n T' H', ⟨n, H1, hsub, hl1, Off.refl _ _, h0⟩, fun n T' H' hi => ?_⟩
  refine aw_mono b hi.1 (fun e T2 H2 hl2 hq => ?_) (aw_mods b hi.1 (h n T' H' hi.1 hi.2.1 hi.2.2))
  obtain ⟨_, hoff, hq⟩ := hq
  cases e
  · obtain ⟨n', H3, g1, g2, g3⟩ := hq
    have hl3 : Live H3 := by obtain ⟨w, hw⟩ := hl2; exact ⟨w, hw.sub g2⟩
    exact ⟨n', H3, g1, g2, hl3, hoff.trans hi.2.1, g3⟩
  · exact hq
  · exact hq

/-- 'for i := range n' as the translation has it. -/
def rngB (b b1 t1 t2 ti tn : Nat) (inner : AC) : AC :=
  .op ⟨some t1, none, .bin .lss (.tmp ti) (.tmp tn)⟩ (.cond (.tmp t1) .nil (.exit b) (.blk b1 inner (.op ⟨some t2, none, .bin .add (.tmp ti) (.const (.int .i64 1))⟩ (.op ⟨some ti, none, .mv (.tmp t2)⟩ .nil))))
def rngQ (P : Program) (b b1 t2 ti : Nat) (i : Nat) (I : Nat → Tm → Hp → Prop) (k : AC) (Q : Ex → Tm → Hp → Prop) : Ex → Tm → Hp → Prop
  | .norm, T, H => ∃ H2, H2.sub H ∧ I (i + 1) ((T.put t2 (.int .i64 (i + 1 : Nat))).put ti (.int .i64 (i + 1 : Nat))) H2
  | .exit id, T, H => if id = b1 then ∃ H2, H2.sub H ∧ I (i + 1) ((T.put t2 (.int .i64 (i + 1 : Nat))).put ti (.int .i64 (i + 1 : Nat))) H2 else if id = b then aw P k T H Q else Q (.exit id) T H
  | .ret, T, H => Q .ret T H
theorem aw_range {b b1 t1 t2 ti tn : Nat} {inner k : AC} {T : Tm} {H : Hp} {Q : Ex → Tm → Hp → Prop} (hl : Live H) (N : Nat) (hN : N ≤ 9223372036854775806) (I : Nat → Tm → Hp → Prop) (H1 : Hp) (hsub : H1.sub H)
    (hti : T ti = .int .i64 (0 : Nat)) (htn : T tn = .int .i64 N) (h0 : I 0 T H1)
    (hms : (mods (rngB b b1 t1 t2 ti tn inner)).contains tn = false) (hmi : (mods inner).contains ti = false) (hne : ti ≠ t1) (hb : b1 ≠ b)
    (hstep : ∀ i T' H', i < N → Live H' → Off (mods (rngB b b1 t1 t2 ti tn inner)) T' T → T' ti = .int .i64 i → I i T' H' → aw P inner (T'.put t1 (.bool true)) H' (rngQ P b b1 t2 ti i I k Q))
    (hend : ∀ T' H', Live H' → Off (mods (rngB b b1 t1 t2 ti tn inner)) T' T → T' ti = .int .i64 N → I N T' H' → aw P k (T'.put t1 (.bool false)) H' Q) :
    aw P (.loop (rngB b b1 t1 t2 ti tn inner)) T H (blkQ P b k Q) := by
  refine aw_loopM hl (fun n T' H' => ∃ i, i ≤ N ∧ n = N - i ∧ T' ti = .int .i64 i ∧ I i T' H') N H1 hsub ⟨0, Nat.zero_le _, rfl, hti, h0⟩ ?_
  rintro n T' H' hl' hoff ⟨i, hi, rfl, hTi, hI⟩
  have hTn : T' tn = .int .i64 N := by rw [hoff.get hms]; exact htn
  have hlss : (abin .lss (ev T' (.tmp ti)) (ev T' (.tmp tn))) = some (.bool (decide ((i : Int) < (N : Int)))) := by
    simp [ev_tmp, hTi, hTn, abin]
  unfold rngB
  rw [aw_bin _ _ _ _ (by rw [hlss]; rfl), hlss]
  simp only [Option.getD_some]
  by_cases hlt : i < N
  · have hd : decide ((i : Int) < (N : Int)) = true := by simp; omega
    rw [hd, aw_cond_t _ _ _ (by simp [ev_tmp, put_get]), aw_nil, seqQ_norm, aw_blk]
    have hs := aw_mods inner hl' (hstep i T' H' hlt hl' hoff hTi hI)
    refine aw_mono inner hl' (fun e T2 H2 hl2 hq => ?_) hs
    obtain ⟨_, hoff2, hq⟩ := hq
    have hT2 : T2 ti = .int .i64 i := by rw [hoff2.get hmi, put_get, if_neg hne]; exact hTi
    have hadd : abin .add (ev T2 (.tmp ti)) (ev T2 (.const (.int .i64 1))) = some (.int .i64 ((i + 1 : Nat) : Int)) := by
      simp only [ev_tmp, ev_const, hT2, abin, if_true]
      rw [wrap_i64 (by omega) (by omega)]
      simp
    have next : (∃ H3, H3.sub H2 ∧ I (i + 1) ((T2.put t2 (.int .i64 (i + 1 : Nat))).put ti (.int .i64 (i + 1 : Nat))) H3) →
        aw P (.op ⟨some t2, none, .bin .add (.tmp ti) (.const (.int .i64 1))⟩ (.op ⟨some ti, none, .mv (.tmp t2)⟩ .nil)) T2 H2 (lpQ (fun n T' H' => ∃ i, i ≤ N ∧ n = N - i ∧ T' ti = .int .i64 i ∧ I i T' H') (N - i) (blkQ P b k Q)) := by
      rintro ⟨H3, h3, hI3⟩
      rw [aw_bin _ _ _ _ (by rw [hadd]; rfl), hadd, aw_mv, aw_nil]
      simp only [Option.getD_some, ev_tmp, put_get, if_true]
      exact ⟨N - (i + 1), H3, by omega, h3, i + 1, by omega, rfl, by simp [put_get], hI3⟩
    cases e with
    | norm => exact next hq
    | ret => exact hq
    | exit id =>
      simp only [rngQ] at hq
      by_cases h1 : id = b1
      · rw [if_pos h1] at hq
        subst h1
        rw [blkQ_exit_same]
        exact next hq
      · rw [if_neg h1] at hq
        rw [blkQ_exit_ne _ _ (by simpa using h1)]
        show lpQ _ _ _ (.exit id) T2 H2
        simp only [lpQ, blkQ]
        exact hq
  · have hiN : i = N := by omega
    subst hiN
    have hd : decide ((i : Int) < (i : Int)) = false := by simp
    rw [hd, aw_cond_f _ _ _ (by simp [ev_tmp, put_get]), aw_exit, seqQ_exit]
    show lpQ _ _ _ (.exit b) _ _
    simp only [lpQ]
    rw [blkQ_exit_same]
    exact hend T' H' hl' hoff hTi hI
end
end Go.Proofs.Ytonmmfjagkgifaa
