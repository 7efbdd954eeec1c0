/- The abstract calculus, twelfth text: whole functions. -/
import Derived.Test.YtonmmfjagkgifaaAbDraw4
set_option linter.unusedVariables false
set_option linter.unusedSimpArgs false
namespace Go.Proofs.Ytonmmfjagkgifaa
open Go.RowKit

def prepRegion (P : Program) (N : Nat) (ops : Array Oper) (draw : Bool) : Option (List AI) := if draw then prepDraw P N ops else prepText P N ops ops.toList
def prepCode (P : Program) (N : Nat) : Code → AC → Option AC
  | .skip, k => some k
  | .region _ ops d, k => (prepRegion P N ops d).map (opsK k)
  | .seq a b, k => (prepCode P N b k).bind (prepCode P N a)
  | .cond c a b, k => (prepCode P N a .nil).bind fun a' => (prepCode P N b .nil).map fun b' => .cond c a' b' k
  | .block id b, k => (prepCode P N b .nil).map fun b' => .blk id b' k
  | .loop b, k => (prepCode P N b .nil).map fun b' => .loop b'
  | .exit id, k => some (.exit id)
  | .ret, k => some .ret
  | _, _ => none

section
variable {P : Program} {H0 : Hp} {w0 : World} {N : Nat}

theorem aw_mono : ∀ (c : AC) {Q Q' : Ex → Tm → Hp → Prop} {T : Tm} {H : Hp}, Live H → (∀ e T H, Live H → Q e T H → Q' e T H) → aw P c T H Q → aw P c T H Q'
  | .nil, Q, Q', T, H, hl, h, hs => h _ _ _ hl hs
  | .op i k, Q, Q', T, H, hl, h, hs => ai_step_mono hl hs fun T' H' hl' hk => aw_mono k hl' h hk
  | .cond c a b k, Q, Q', T, H, hl, h, hs => by
    obtain ⟨t, ht, h1, h2⟩ := hs
    refine ⟨t, ht, fun e => ?_, fun e => ?_⟩
    · refine aw_mono a hl (fun e T H hl' hq => ?_) (h1 e)
      cases e
      · exact aw_mono k hl' h hq
      · exact h _ _ _ hl' hq
      · exact h _ _ _ hl' hq
    · refine aw_mono b hl (fun e T H hl' hq => ?_) (h2 e)
      cases e
      · exact aw_mono k hl' h hq
      · exact h _ _ _ hl' hq
      · exact h _ _ _ hl' hq
  | .blk id b k, Q, Q', T, H, hl, h, hs => by
    refine aw_mono b hl (fun e T H hl' hq => ?_) hs
    cases e
    · exact aw_mono k hl' h hq
    · simp only at hq ⊢
      split at hq
      · rename_i he; rw [if_pos he]; exact aw_mono k hl' h hq
      · rename_i he; rw [if_neg he]; exact h _ _ _ hl' hq
    · exact h _ _ _ hl' hq
  | .loop b, Q, Q', T, H, hl, h, hs => by
    obtain ⟨I, ⟨n, H1, h1, h2⟩, h3⟩ := hs
    have hl1 : Live H1 := by obtain ⟨w, hw⟩ := hl; exact ⟨w, hw.sub h1⟩
    refine ⟨fun n T H => Live H ∧ I n T H, ⟨n, H1, h1, hl1, h2⟩, fun n T H hi => ?_⟩
    refine aw_mono b hi.1 (fun e T' H' hl' hq => ?_) (h3 n T H hi.2)
    cases e
    · obtain ⟨n', H2, g1, g2, g3⟩ := hq
      have hl2 : Live H2 := by obtain ⟨w, hw⟩ := hl'; exact ⟨w, hw.sub g2⟩
      exact ⟨n', H2, g1, g2, hl2, g3⟩
    · exact h _ _ _ hl' hq
    · exact h _ _ _ hl' hq
  | .exit id, Q, Q', T, H, hl, h, hs => h _ _ _ hl hs
  | .ret, Q, Q', T, H, hl, h, hs => h _ _ _ hl hs

theorem aw_sound : ∀ (c : Code) (k ac : AC) (Q : Ex → Tm → Hp → Prop) (T : Tm) (H : Hp) (a : Act) (w : World) (J : Act → World → Prop) (R : Exit → Act → World → Prop),
    prepCode P N c k = some ac → St H0 w0 N T H a w → aw P ac T H Q →
    (∀ a w T H, St H0 w0 N T H a w → aw P k T H Q → J a w) → (∀ e T H a w, e ≠ Ex.norm → St H0 w0 N T H a w → Q e T H → R e.to a w) → c.wp P (Exit.then J R) a w
  | .skip, k, ac, Q, T, H, a, w, J, R, hp, st, hs, hJ, hR => by
    simp only [prepCode, Option.some.injEq] at hp
    subst hp
    exact wp_skip (hJ a w T H st hs)
  | .region id ops d, k, ac, Q, T, H, a, w, J, R, hp, st, hs, hJ, hR => by
    simp only [prepCode, Option.map_eq_some_iff] at hp
    obtain ⟨l, hl, rfl⟩ := hp
    rw [aw_opsK] at hs
    unfold prepRegion at hl
    cases d with
    | true => exact draw_sound hl st hs fun a w ⟨T, H, st, hk⟩ => hJ a w T H st hk
    | false => exact region_sound hl st hs fun a w ⟨T, H, st, hk⟩ => hJ a w T H st hk
  | .seq x y, k, ac, Q, T, H, a, w, J, R, hp, st, hs, hJ, hR => by
    simp only [prepCode, Option.bind_eq_some_iff] at hp
    obtain ⟨ky, hy, hx⟩ := hp
    refine wp_seq ?_
    have := aw_sound x ky ac Q T H a w (y.wp P (Exit.then J R)) R hx st hs (fun a w T H st' hk => aw_sound y k ky Q T H a w J R hy st' hk hJ hR) hR
    refine wp_mono this ?_
    intro e a' w' he
    cases e <;> exact he
  | .cond c x y, k, ac, Q, T, H, a, w, J, R, hp, st, hs, hJ, hR => by
    simp only [prepCode, Option.bind_eq_some_iff, Option.map_eq_some_iff] at hp
    obtain ⟨x', hx, y', hy, rfl⟩ := hp
    obtain ⟨t, ht, h1, h2⟩ := hs
    refine wp_cond (t := t) (by rw [st.fits.eval]; exact ht) ?_
    cases t with
    | true =>
      refine aw_sound x .nil x' _ T H a w J R hx st (h1 rfl) (fun a w T H st' hk => hJ a w T H st' hk) (fun e T H a w he st' hq => ?_)
      cases e
      · exact absurd rfl he
      · exact hR _ T H a w he st' hq
      · exact hR _ T H a w he st' hq
    | false =>
      refine aw_sound y .nil y' _ T H a w J R hy st (h2 rfl) (fun a w T H st' hk => hJ a w T H st' hk) (fun e T H a w he st' hq => ?_)
      cases e
      · exact absurd rfl he
      · exact hR _ T H a w he st' hq
      · exact hR _ T H a w he st' hq
  | .block id x, k, ac, Q, T, H, a, w, J, R, hp, st, hs, hJ, hR => by
    simp only [prepCode, Option.map_eq_some_iff] at hp
    obtain ⟨x', hx, rfl⟩ := hp
    refine wp_block ?_
    have := aw_sound x .nil x' _ T H a w J (fun e a w => Exit.inBlock id (Exit.then J R) e a w) hx st hs (fun a w T H st' hk => hJ a w T H st' hk) (fun e T H a w he st' hq => ?_)
    · refine wp_mono this ?_
      intro e a' w' he
      cases e <;> exact he
    · cases e
      · exact absurd rfl he
      · rename_i id'
        simp only at hq
        by_cases hid : id' = id
        · rw [if_pos hid] at hq
          simp only [Ex.to, Exit.inBlock, if_pos hid]
          exact hJ a w T H st' hq
        · rw [if_neg hid] at hq
          simp only [Ex.to, Exit.inBlock, if_neg hid]
          exact hR _ T H a w (by simp) st' hq
      · exact hR _ T H a w (by simp) st' hq
  | .loop x, k, ac, Q, T, H, a, w, J, R, hp, st, hs, hJ, hR => by
    simp only [prepCode, Option.map_eq_some_iff] at hp
    obtain ⟨x', hx, rfl⟩ := hp
    obtain ⟨I, ⟨n, H1, hsub, hI⟩, hround⟩ := hs
    refine wp_loop_ghost (fun n a w => ∃ T H, St H0 w0 N T H a w ∧ I n T H) n ⟨T, H1, ⟨st.fits, st.sat.sub hsub, st.keeps.sub hsub⟩, hI⟩ ?_
    rintro n a w ⟨T, H, st, hI⟩
    have := aw_sound x .nil x' _ T H a w (fun a' w' => ∃ n', n' < n ∧ ∃ T H, St H0 w0 N T H a' w' ∧ I n' T H) R hx st (hround n T H hI)
      (fun a w T H st' hk => by
        obtain ⟨n', H2, h1, h2, h3⟩ := hk
        exact ⟨n', h1, T, H2, ⟨st'.fits, st'.sat.sub h2, st'.keeps.sub h2⟩, h3⟩)
      (fun e T H a w he st' hq => by
        cases e
        · exact absurd rfl he
        · exact hR _ T H a w he st' hq
        · exact hR _ T H a w he st' hq)
    refine wp_mono this ?_
    intro e a' w' he
    cases e <;> exact he
  | .exit id, k, ac, Q, T, H, a, w, J, R, hp, st, hs, hJ, hR => by
    simp only [prepCode, Option.some.injEq] at hp
    subst hp
    exact wp_exit (hR (.exit id) T H a w (by simp) st hs)
  | .ret, k, ac, Q, T, H, a, w, J, R, hp, st, hs, hJ, hR => by
    simp only [prepCode, Option.some.injEq] at hp
    subst hp
    exact wp_ret (hR .ret T H a w (by simp) st hs)
  | .rangeFunc _ _ _ _, _, _, _, _, _, _, _, _, _, hp, _, _, _, _ => by simp [prepCode] at hp
  | .scope _, _, _, _, _, _, _, _, _, _, hp, _, _, _, _ => by simp [prepCode] at hp
  | .label _, _, _, _, _, _, _, _, _, _, hp, _, _, _, _ => by simp [prepCode] at hp
  | .goto _, _, _, _, _, _, _, _, _, _, hp, _, _, _, _ => by simp [prepCode] at hp
  | .refuse _, _, _, _, _, _, _, _, _, _, hp, _, _, _, _ => by simp [prepCode] at hp

/-- A function, as the calculus reads it: its code, where its results lie. -/
inductive AR where
  | tmp (t : Nat)
  | cell (agg : Bool) (sz : Nat) (t : Nat)
structure AF where
  np : Nat
  code : AC
  res : List AR
def prepRes (P : Program) : List ResultVar → Option (List AR)
  | [] => some []
  | .tmp t :: rs => (prepRes P rs).map (.tmp t :: ·)
  | .cell t ty :: rs => (aggT P ty).bind fun g => (sizeT P ty).bind fun s => if g || s == 1 then (prepRes P rs).map (.cell g s t :: ·) else none
def prepFn (P : Program) (f : FuncId) : Option AF :=
  (P.funcs[f]?).bind fun fn => fn.body.bind fun c => (prepCode P fn.ntmps c .nil).bind fun ac => (prepRes P fn.results.toList).bind fun rs =>
    if enterOk P f && decide (fn.params.size + fn.nfree ≤ fn.ntmps) then some ⟨fn.params.size + fn.nfree, ac, rs⟩ else none
def ares (T : Tm) (H : Hp) : List AR → Option (List Value)
  | [] => some []
  | .tmp t :: rs => (ares T H rs).map (T t :: ·)
  | .cell g s t :: rs => (aload H g s (T t)).bind fun v => (ares T H rs).map (v :: ·)
def oneOf : List Value → Value
  | [v] => v
  | vs => .tuple vs.toArray
def args0 (args : Array Value) : Tm := fun t => args.getD t undef

def resVal (tmps : Array Value) : ResultVar → Sem Value
  | .tmp t => pure (tmps.getD t undef)
  | .cell p t => do loadVar t (← asAddr (tmps.getD p undef))
theorem run_results {fn : Func} {a : Act} {T : Tm} {H : Hp} {w : World} {N : Nat} (hf : Fits N T a) (hs : Sat H w) : ∀ (l : List ResultVar) (rs : List AR) (vs : List Value), prepRes P l = some rs → ares T H rs = some vs →
    (l.mapM (resVal a.tmps)).run P w = .ok vs w
  | [], rs, vs, h1, h2 => by
    simp only [prepRes, Option.some.injEq] at h1
    subst h1
    simp only [ares, Option.some.injEq] at h2
    subst h2
    simp
  | .tmp t :: l, rs, vs, h1, h2 => by
    simp only [prepRes, Option.map_eq_some_iff] at h1
    obtain ⟨rs', h1, rfl⟩ := h1
    simp only [ares, Option.map_eq_some_iff] at h2
    obtain ⟨vs', h2, rfl⟩ := h2
    have ih := run_results (fn := fn) hf hs l rs' vs' h1 h2
    simp only [List.mapM_cons, Sem.run_bind, resVal, Sem.run_pure, Result.andThen_ok, hf.tmps t]
    rw [ih]
    simp
  | .cell p ty :: l, rs, vs, h1, h2 => by
    simp only [prepRes, Option.bind_eq_some_iff] at h1
    obtain ⟨g, hg, s, hsz, h1⟩ := h1
    split at h1
    · rename_i hgs
      simp only [Option.map_eq_some_iff] at h1
      obtain ⟨rs', h1, rfl⟩ := h1
      simp only [ares, Option.bind_eq_some_iff, Option.map_eq_some_iff] at h2
      obtain ⟨v, hv, vs', h2, rfl⟩ := h2
      have ih := run_results (fn := fn) hf hs l rs' vs' h1 h2
      have hload := load_sound (P := P) hg hsz hgs hs hv
      rw [List.mapM_cons]
      simp only [Sem.run_bind, ih]
      have hrv : (resVal a.tmps (.cell p ty)).run P w = (do loadVar ty (← asAddr (T p)) : Sem Value).run P w := by rw [← hf.tmps p]; rfl
      rw [hrv]
      unfold aload at hv
      cases hT : T p with
      | pointer ad =>
        cases ad with
        | none => rw [hT] at hv; simp at hv
        | some ad =>
          rw [hT] at hload
          simp only [Instr.loadAt, Instr.sureAddr, Sem.run_bind, Sem.run_pure, Result.andThen_ok] at hload
          simp [asAddr, hload, ih]
      | _ => rw [hT] at hv; simp at hv
    · cases h1

/-- THE RULE OF CALLS. -/
theorem acalls_intro {f : FuncId} {af : AF} {args : Array Value} {H : Hp} {K : Value → Hp → Prop} (hp : prepFn P f = some af) (hn : args.size = af.np)
    (h : Live H → aw P af.code (args0 args) H fun e T' H' => (e = .norm ∨ e = .ret) ∧ ∃ vs H2, ares T' H' af.res = some vs ∧ H2.sub H' ∧ K (oneOf vs) H2) : ACalls P f args H K := by
  simp only [prepFn, Option.bind_eq_some_iff] at hp
  obtain ⟨fn, hfn, c, hc, ac, hac, rs, hrs, hp⟩ := hp
  split at hp
  case isFalse => cases hp
  rename_i hcond
  simp only [Bool.and_eq_true, decide_eq_true_eq] at hcond
  obtain ⟨hen, hle⟩ := hcond
  simp only [Option.some.injEq] at hp
  subst hp
  simp only at hn h
  refine ⟨hen, fun w hs => calls_of_wp hfn hc ?_⟩
  have hfits : Fits fn.ntmps (args0 args) { tmps := args ++ Array.replicate (fn.ntmps - args.size) undef, defers := [] } := by
    refine ⟨fun t => ?_, by simp; omega, rfl⟩
    simp only [args0, Array.getD_eq_getD_getElem?]
    by_cases ht : t < args.size
    · rw [Array.getElem?_append_left ht]
    · rw [Array.getElem?_append_right (by omega), Array.getElem?_eq_none (xs := args) (by omega)]
      simp only [Array.getElem?_replicate]
      split <;> rfl
  have st : St H w fn.ntmps (args0 args) H { tmps := args ++ Array.replicate (fn.ntmps - args.size) undef, defers := [] } w := ⟨hfits, hs, Keeps.refl H w⟩
  have hend : ∀ (T : Tm) (H' : Hp) (a : Act) (w' : World), St H w fn.ntmps T H' a w' → (∃ vs H2, ares T H' rs = some vs ∧ H2.sub H' ∧ K (oneOf vs) H2) →
      a.defers = [] ∧ ∃ v, (results fn a.tmps).run P w' = .ok v w' ∧ ∃ r H', Ending.returned v = .returned r ∧ K r H' ∧ Sat H' w' ∧ Keeps H w H' w' := by
    rintro T H' a w' st' ⟨vs, H2, hv, hsub, hK⟩
    refine ⟨st'.fits.defers, oneOf vs, ?_, oneOf vs, H2, rfl, hK, st'.sat.sub hsub, st'.keeps.sub hsub⟩
    have hr := run_results (fn := fn) st'.fits st'.sat fn.results.toList rs vs hrs hv
    show (do let vs ← fn.results.mapM (resVal a.tmps); pure (if h : vs.size = 1 then vs[0] else .tuple vs) : Sem Value).run P w' = _
    rw [Array.mapM_eq_mapM_toList]
    simp only [Sem.run_bind, Sem.run_map]
    rw [hr]
    simp only [Result.andThen_ok, Sem.run_pure]
    congr 1
    cases vs with
    | nil => simp [oneOf]
    | cons v vs => cases vs <;> simp [oneOf]
  have := aw_sound c .nil ac _ (args0 args) H _ w (fun a1 w1 => bodyPost P fn (fun e w' => ∃ r H', e = .returned r ∧ K r H' ∧ Sat H' w' ∧ Keeps H w H' w') .normal a1 w1)
    (bodyPost P fn (fun e w' => ∃ r H', e = .returned r ∧ K r H' ∧ Sat H' w' ∧ Keeps H w H' w')) hac st (h ⟨w, hs⟩) ?_ ?_
  · refine wp_mono this ?_
    intro e a' w' he
    cases e <;> exact he
  · rintro a w' T H' st' ⟨_, hk⟩
    exact hend T H' a w' st' hk
  · rintro e T H' a w' he st' ⟨h1, hk⟩
    rcases h1 with rfl | rfl
    · exact absurd rfl he
    · exact hend T H' a w' st' hk
end
end Go.Proofs.Ytonmmfjagkgifaa
