/- The abstract calculus, ninth text: two operations that do not hang on each other may change places. -/
import Derived.Test.YtonmmfjagkgifaaAbDraw
set_option linter.unusedVariables false
set_option linter.unusedSimpArgs false
namespace Go.Proofs.Ytonmmfjagkgifaa
open Go.RowKit

theorem rd_len {H : Hp} {a : Addr} {k : Nat} {cs : List Value} (h : H.rd a k = some cs) : cs.length = k := by
  unfold Hp.rd at h
  split at h
  · split at h
    · simp only [Option.some.injEq] at h; subst h; simp; omega
    · cases h
  · cases h
theorem anew_len {H : Hp} {sz : Nat} {x : Value} {n : Nat} {new : List Value} (h : anew H sz x = some (n, new)) : new.length = n * sz := by
  unfold anew at h
  split at h
  · split at h
    · rename_i h0
      simp only [Option.some.injEq, Prod.mk.injEq] at h
      obtain ⟨rfl, rfl⟩ := h
      simp [h0]
    · simp only [Option.map_eq_some_iff, Prod.mk.injEq] at h
      obtain ⟨cs, hr, rfl, rfl⟩ := h
      exact rd_len hr
  · simp only [Option.some.injEq, Prod.mk.injEq] at h
    obtain ⟨rfl, rfl⟩ := h
    simp
  · cases h
theorem Live.len {H : Hp} (h : Live H) {b : Nat} {own : Bool} {ty : TypeId} {xs : List Value} {tot : Nat} (hb : H b = some (.row own ty xs tot)) : xs.length ≤ tot := by
  obtain ⟨w, hw⟩ := h
  obtain ⟨c, fr, sp, h1, h2, h3, h4⟩ := hw b _ hb
  rw [← h3, ← Array.length_toList, h2]
  simp
theorem repZero_len (z : List Value) (n : Nat) : (repZero z n).length = n * z.length := by
  unfold repZero
  induction n with
  | zero => simp
  | succ n ih => rw [List.replicate_succ, List.flatten_cons, List.length_append, ih, Nat.succ_mul]; omega
theorem splice_len (xs cs : List Value) (off : Nat) (h : off ≤ xs.length) : (splice xs off cs).length = max xs.length (off + cs.length) := by
  simp [splice]; omega

section
variable {P : Program}

theorem aappend_mono {ty : TypeId} {sz bytes : Nat} {H : Hp} {s x : Value} {K K' : Value → Hp → Prop} (hl : Live H) (h : aappend ty sz bytes H s x K) (hk : ∀ v H', Live H' → K v H' → K' v H') : aappend ty sz bytes H s x K' := by
  obtain ⟨n, new, h1, h2, h3⟩ := h
  have hlen := anew_len h1
  refine ⟨n, new, h1, h2, ?_⟩
  split at h3
  · exact ⟨fun h0 => hk _ _ hl (h3.1 h0), fun h0 => ⟨(h3.2 h0).1, (h3.2 h0).2.1, fun b c hb hc => hk _ _ (hl.set _ _ _ _ (by rw [hlen]; exact Nat.mul_le_mul_right _ hc)) ((h3.2 h0).2.2 b c hb hc)⟩⟩
  · obtain ⟨xs, tot, hb, hle, hby, h63, hin, hgr⟩ := h3
    refine ⟨xs, tot, hb, hle, hby, h63, fun hr => ⟨(hin hr).1, hk _ _ (hl.set _ _ _ _ ?_) (hin hr).2⟩, fun hr b' c' hb' hc' => hk _ _ (hl.set _ _ _ _ ?_) (hgr hr b' c' hb' hc')⟩
    · have := hl.len hb
      rw [splice_len _ _ _ hle, hlen, ← Nat.add_mul]
      have := Nat.mul_le_mul_right sz hr
      have := (hin hr).1
      omega
    · rw [List.length_append, List.length_take, hlen]
      have := Nat.mul_le_mul_right sz hc'
      rw [Nat.add_mul] at this
      omega
  · exact h3

theorem op_step_mono {T : Tm} {H : Hp} {op : AOp} {dst : Option Nat} {K K' : Tm → Hp → Prop} (hl : Live H) (h : op.step P T H dst K) (hk : ∀ T' H', Live H' → K T' H' → K' T' H') : op.step P T H dst K' := by
  cases op
  case ld => obtain ⟨v, h1, h2⟩ := h; exact ⟨v, h1, hk _ _ hl h2⟩
  case alloc => exact fun b hb => hk _ _ (hl.set _ _ _ _ (Nat.le_refl _)) (h b hb)
  case box => exact fun b hb => hk _ _ (hl.set _ _ _ _ (Nat.le_refl _)) (h b hb)
  case bsl => obtain ⟨ps, cs, h1, h2, h3⟩ := h; exact ⟨ps, cs, h1, h2, fun b hb => hk _ _ (hl.set _ _ _ _ (Nat.le_refl _)) (h3 b hb)⟩
  case msl =>
    obtain ⟨kl, lv, kc, cv, h1, h2, h3, h4, h5, h6, h7⟩ := h
    exact ⟨kl, lv, kc, cv, h1, h2, h3, h4, h5, h6, fun b hb => hk _ _ (hl.set _ _ _ _ (by rw [repZero_len]; exact Nat.le_refl _)) (h7 b hb)⟩
  case st sz p x =>
    obtain ⟨H', h1, h2⟩ := h
    refine ⟨H', h1, hk _ _ ?_ h2⟩
    unfold astore at h1
    split at h1
    · split at h1
      · rename_i hb
        split at h1
        · rename_i hc
          simp only [Option.some.injEq] at h1
          subst h1
          refine hl.set _ _ _ _ ?_
          have := hl.len hb
          rw [splice_len _ _ _ (by omega)]
          simp only [Array.length_toList]
          omega
        · cases h1
      · cases h1
    · cases h1
  case app ty sz bytes s x =>
    have h' : aappend ty sz bytes H (ev T s) (ev T x) (fun v H' => K (T.puto dst v) H') := h
    show aappend ty sz bytes H (ev T s) (ev T x) (fun v H' => K' (T.puto dst v) H')
    exact aappend_mono hl h' fun v H' hl' hK => hk _ _ hl' hK
  case call f args =>
    have h' : acall P H (ev T f) (args.map (ev T)).toArray (fun v H' => K (T.puto dst v) H') := h
    show acall P H (ev T f) (args.map (ev T)).toArray (fun v H' => K' (T.puto dst v) H')
    unfold acall at h' ⊢
    split at h'
    · exact acalls_mono h' fun r H' hl' hK => hk _ _ hl' hK
    · exact h'.elim
  case chk rs => exact ⟨h.1, hk _ _ hl h.2⟩
  all_goals (obtain ⟨v, h1, h2⟩ := h; exact ⟨v, h1, hk _ _ hl h2⟩)
theorem ai_step_mono {T : Tm} {H : Hp} {i : AI} {K K' : Tm → Hp → Prop} (hl : Live H) (h : i.step P T H K) (hk : ∀ T' H', Live H' → K T' H' → K' T' H') : i.step P T H K' := by
  unfold AI.step at *
  split at h
  · rename_i hg; rw [if_pos hg]; exact op_step_mono hl h hk
  · rename_i hg; rw [if_neg hg]; exact hk _ _ hl h

/-! ### facts on another block do not matter -/
theorem Hp.set_comm (H : Hp) {b c : Nat} (o u : AObj) (h : b ≠ c) : (H.set b o).set c u = (H.set c u).set b o := by
  funext x
  simp only [Hp.set]
  split <;> split <;> simp_all
theorem rd_set {H : Hp} {b : Nat} {o : AObj} {a : Addr} {k : Nat} {cs : List Value} (hb : H b = none) (h : H.rd a k = some cs) : (H.set b o).rd a k = some cs := by
  have hne : a.block ≠ b := by
    intro e
    unfold Hp.rd at h
    rw [e, hb] at h
    cases h
  unfold Hp.rd at *
  rw [Hp.set_other H o hne]
  exact h
theorem aload_set {H : Hp} {b : Nat} {o : AObj} {g : Bool} {s : Nat} {p v : Value} (hb : H b = none) (h : aload H g s p = some v) : aload (H.set b o) g s p = some v := by
  unfold aload at *
  split at h
  · rename_i a
    simp only [Option.bind_eq_some_iff] at h ⊢
    obtain ⟨cs, h1, h2⟩ := h
    exact ⟨cs, rd_set hb h1, h2⟩
  · cases h
theorem anew_set {H : Hp} {b : Nat} {o : AObj} {sz : Nat} {x : Value} {r : Nat × List Value} (hb : H b = none) (h : anew H sz x = some r) : anew (H.set b o) sz x = some r := by
  unfold anew at *
  split at h
  · split at h
    · rename_i h0; rw [if_pos h0]; exact h
    · rename_i h0
      rw [if_neg h0]
      simp only [Option.map_eq_some_iff] at h ⊢
      obtain ⟨cs, h1, h2⟩ := h
      exact ⟨cs, rd_set hb h1, h2⟩
  · exact h
  · cases h
theorem astore_set {H H' : Hp} {b : Nat} {o : AObj} {s : Nat} {p v : Value} (hb : H b = none) (h : astore H s p v = some H') : astore (H.set b o) s p v = some (H'.set b o) ∧ H' b = none := by
  unfold astore at h ⊢
  split at h
  · rename_i c off
    split at h
    · rename_i hc
      have hne : c ≠ b := by intro e; rw [e, hb] at hc; cases hc
      split at h
      · rename_i hcond
        simp only [Option.some.injEq] at h
        subst h
        rw [Hp.set_other H o hne, hc]
        simp only
        rw [if_pos hcond, Hp.set_comm H _ _ hne]
        exact ⟨rfl, by rw [Hp.set_other H _ (fun e => hne e.symm)]; exact hb⟩
      · cases h
    · cases h
  · cases h
theorem aappend_set {ty : TypeId} {sz bytes : Nat} {H : Hp} {b : Nat} {o : AObj} {s x : Value} {K K' : Value → Hp → Prop} (hb : H b = none) (h : aappend ty sz bytes H s x K)
    (hk : ∀ v H', H' b = none → K v H' → K' v (H'.set b o)) : aappend ty sz bytes (H.set b o) s x K' := by
  obtain ⟨n, new, h1, h2, h3⟩ := h
  refine ⟨n, new, anew_set hb h1, h2, ?_⟩
  split at h3
  · refine ⟨fun h0 => hk _ _ hb (h3.1 h0), fun h0 => ⟨(h3.2 h0).1, (h3.2 h0).2.1, fun b' c hb' hc => ?_⟩⟩
    have hne : b' ≠ b := by intro e; rw [e, Hp.set_same] at hb'; cases hb'
    rw [Hp.set_other H o hne] at hb'
    rw [Hp.set_comm H _ _ (fun e => hne e.symm)]
    exact hk _ _ (by rw [Hp.set_other H _ (fun e => hne e.symm)]; exact hb) ((h3.2 h0).2.2 b' c hb' hc)
  · rename_i c ln cp
    obtain ⟨xs, tot, hc, hle, hby, h63, hin, hgr⟩ := h3
    have hne : c ≠ b := by intro e; rw [e, hb] at hc; cases hc
    refine ⟨xs, tot, by rw [Hp.set_other H o hne]; exact hc, hle, hby, h63, fun hr => ⟨(hin hr).1, ?_⟩, fun hr b' c' hb' hc' => ?_⟩
    · rw [Hp.set_comm H _ _ (fun e => hne e.symm)]
      exact hk _ _ (by rw [Hp.set_other H _ (fun e => hne e.symm)]; exact hb) (hin hr).2
    · have hne' : b' ≠ b := by intro e; rw [e, Hp.set_same] at hb'; cases hb'
      rw [Hp.set_other H o hne'] at hb'
      rw [Hp.set_comm H _ _ (fun e => hne' e.symm)]
      exact hk _ _ (by rw [Hp.set_other H _ (fun e => hne' e.symm)]; exact hb) (hgr hr b' c' hb' hc')
  · exact h3
theorem acalls_set {f : FuncId} {args : Array Value} {H : Hp} {b : Nat} {ty : TypeId} {xs : List Value} {tot : Nat} {K K' : Value → Hp → Prop} (hb : H b = none) (h : ACalls P f args H K)
    (hk : ∀ v H', H' b = none → K v H' → K' v (H'.set b (.row true ty xs tot))) : ACalls P f args (H.set b (.row true ty xs tot)) K' := by
  refine ⟨h.1, fun w hs => ?_⟩
  have hsub : H.sub (H.set b (.row true ty xs tot)) := fun b' o' h' => by
    have hne : b' ≠ b := by intro e; rw [e, hb] at h'; cases h'
    rw [Hp.set_other H _ hne]; exact h'
  have hlt : b < w.heap.size := hs.lt (by rw [Hp.set_same]; simp)
  refine Calls.mono (h.2 w (hs.sub hsub)) ?_
  rintro e w' ⟨r, H', rfl, hK, hs', hk'⟩
  have hb' : H' b = none := by
    cases e : H' b with
    | none => rfl
    | some o =>
      rcases hk'.dom b (by rw [e]; simp) with h1 | h1
      · exact absurd hb h1
      · omega
  refine ⟨r, _, rfl, hk r H' hb' hK, ?_, ?_⟩
  · intro b2 o2 h2
    unfold Hp.set at h2
    split at h2
    · rename_i e
      subst e
      simp only [Option.some.injEq] at h2
      subst h2
      refine fits_of_block (hs b2 _ (Hp.set_same ..)) (hk'.block b2 hlt ?_)
      simp [wrAt, hb]
    · exact hs' b2 o2 h2
  · refine ⟨hk'.os, hk'.tape, hk'.output, hk'.size, fun b2 h2 hw => ?_, fun b2 h2 => ?_, fun b2 h2 => ?_⟩
    · have hne : b2 ≠ b := by intro e; rw [e, wrAt, Hp.set_same] at hw; cases hw
      refine hk'.block b2 h2 ?_
      unfold wrAt at hw ⊢
      rwa [Hp.set_other H _ hne] at hw
    · by_cases e : b2 = b
      · subst e; exact .inl (by rw [Hp.set_same]; simp)
      · rw [Hp.set_other H' _ e] at h2
        rw [Hp.set_other H _ e]
        exact hk'.dom b2 h2
    · by_cases e : b2 = b
      · subst e; exact .inl (by simp [wrAt, Hp.set_same, AObj.wr])
      · unfold wrAt at h2 ⊢
        rw [Hp.set_other H' _ e] at h2
        rw [Hp.set_other H _ e]
        exact hk'.wr b2 h2
end
end Go.Proofs.Ytonmmfjagkgifaa
