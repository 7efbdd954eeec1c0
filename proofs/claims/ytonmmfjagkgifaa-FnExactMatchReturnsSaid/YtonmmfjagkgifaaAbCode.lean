/- The abstract calculus, sixth text: code. -/
import Derived.Test.YtonmmfjagkgifaaAbMem
import Derived.Deep.LoopGhost
set_option linter.unusedVariables false
set_option linter.unusedSimpArgs false
namespace Go.Proofs.Ytonmmfjagkgifaa
open Go.RowKit

structure Fits (N : Nat) (T : Tm) (a : Act) : Prop where
  tmps : ∀ t, a.tmps.getD t undef = T t
  size : a.tmps.size = N
  defers : a.defers = []
structure St (H0 : Hp) (w0 : World) (N : Nat) (T : Tm) (H : Hp) (a : Act) (w : World) : Prop where
  fits : Fits N T a
  sat : Sat H w
  keeps : Keeps H0 w0 H w
theorem Fits.eval {N : Nat} {T : Tm} {a : Act} (h : Fits N T a) : a.eval = ev T := by
  funext x
  cases x with
  | tmp t => exact h.tmps t
  | _ => rfl
theorem Fits.put {N : Nat} {T : Tm} {a : Act} (h : Fits N T a) {d : Option Nat} (hd : ∀ t, d = some t → t < N) (v : Value) : Fits N (T.puto d v) (a.put d v) := by
  cases d with
  | none => exact h
  | some d =>
    have hlt := hd d rfl
    refine ⟨fun t => ?_, by simp [Act.put, h.size], by simp [Act.put, h.defers]⟩
    simp only [Act.put, Tm.puto, Tm.put, Array.getD_eq_getD_getElem?]
    by_cases e : t = d
    · subst e
      rw [Array.getElem?_setIfInBounds_self_of_lt (by rw [h.size]; exact hlt)]
      simp
    · rw [Array.getElem?_setIfInBounds_ne (fun h => e h.symm), if_neg e]
      have := h.tmps t
      rwa [Array.getD_eq_getD_getElem?] at this
def dstOk (N : Nat) : Option Nat → Bool
  | some d => decide (d < N)
  | none => true
def prepGuard (ops : Array Oper) : Option (Nat × Bool) → Option (Option (Nat × Bool))
  | none => some none
  | some (j, want) => ((ops[j]?).bind (·.dst)).map fun t => some (t, want)
def prepO (P : Program) (N : Nat) (ops : Array Oper) (o : Oper) : Option AI :=
  (prepGuard ops o.guard).bind fun g => (prepOp P o.op).bind fun op => if dstOk N o.dst then some ⟨o.dst, g, op⟩ else none

theorem guard_sound {ops : Array Oper} {o : Oper} {g : Option (Nat × Bool)} {N : Nat} {T : Tm} {a : Act} (h : prepGuard ops o.guard = some g) (hf : Fits N T a) :
    Region.wanted o (yielded ops a.tmps) = asGuard T g := by
  unfold Region.wanted
  cases hg : o.guard with
  | none => rw [hg] at h; simp only [prepGuard, Option.some.injEq] at h; subst h; rfl
  | some p =>
    obtain ⟨j, want⟩ := p
    rw [hg] at h
    simp only [prepGuard, Option.map_eq_some_iff] at h
    obtain ⟨t, ht, rfl⟩ := h
    simp only [asGuard, yielded, ht, Option.bind_some]
    have := hf.tmps t
    rw [Array.getD_eq_getD_getElem?] at this
    cases hc : a.tmps[t]? with
    | none =>
      rw [hc] at this
      simp only [Option.getD_none] at this
      rw [← this]
      rfl
    | some v =>
      rw [hc] at this
      simp only [Option.getD_some] at this
      subst this
      generalize T t = v
      cases v <;> rfl

section
variable {P : Program} {H0 : Hp} {w0 : World} {N : Nat}

/-- What follows: some abstract state fits, and K holds of it. -/
def Goes (H0 : Hp) (w0 : World) (N : Nat) (K : Tm → Hp → Prop) (a : Act) (w : World) : Prop := ∃ T H, St H0 w0 N T H a w ∧ K T H

theorem does_goes {o : Oper} {s : Sem Value} {T : Tm} {H : Hp} {a : Act} {w : World} {K : Tm → Hp → Prop} {Q : Exit → Act → World → Prop} (hf : Fits N T a) (hd : dstOk N o.dst = true)
    (hex : execOp (ev T) o = (do pure (Next.value (← s)))) (h : Does P s H0 H w0 w fun v H' => K (T.puto o.dst v) H') : o.wp P a w (Goes H0 w0 N K) Q := by
  obtain ⟨v, w', H', hr, hs, hk, hK⟩ := h
  unfold Oper.wp
  rw [hf.eval, hex]
  simp only [Sem.run_bind, hr, Result.andThen_ok, Sem.run_pure, Oper.upon]
  refine ⟨_, H', ⟨hf.put (fun t ht => ?_) v, hs, hk⟩, hK⟩
  rw [ht] at hd
  simpa [dstOk] using hd
theorem val_goes {o : Oper} {T : Tm} {H : Hp} {a : Act} {w : World} {v : Value} {K : Tm → Hp → Prop} {Q : Exit → Act → World → Prop} (st : St H0 w0 N T H a w) (hd : dstOk N o.dst = true)
    (hr : (execOp (ev T) o).run P w = .ok (.value v) w) (hK : K (T.puto o.dst v) H) : o.wp P a w (Goes H0 w0 N K) Q := by
  unfold Oper.wp
  rw [st.fits.eval, hr]
  refine ⟨_, H, ⟨st.fits.put (fun t ht => ?_) v, st.sat, st.keeps⟩, hK⟩
  rw [ht] at hd
  simpa [dstOk] using hd

theorem run_callFunc {f : FuncId} (h : enterOk P f = true) (args : Array Value) (w : World) : (callFunc f args).run P w = .ok (.enter f args) w := by
  unfold enterOk at h
  unfold callFunc
  cases hf : P.funcs[f]? with
  | none => simp [hf] at h
  | some fn =>
    simp only [hf, Bool.and_eq_true, bne_iff_ne, ne_eq] at h
    have hn : (fn.name == "runtime.NumGoroutine") = false := by simpa using h.1
    have hb : fn.body.isNone = false := by cases hbb : fn.body <;> simp_all
    have hn' : ¬ (fn.name = "runtime.NumGoroutine") := h.1
    have hb' : ¬ (fn.body = none) := by rw [← Option.isNone_iff_eq_none, hb]; simp
    simp [hf, hn', hb']

def opTag : Op → Nat
  | .load .. => 1
  | .store .. => 2
  | .alloc .. => 3
  | .box .. => 4
  | .buildSlice .. => 5
  | .makeSlice .. => 6
  | .call .. => 7
  | _ => 0
def aopTag : AOp → Nat
  | .ld .. => 1
  | .st .. => 2
  | .alloc .. => 3
  | .box .. => 4
  | .bsl .. => 5
  | .msl .. => 6
  | .call .. | .app .. | .len .. | .cap .. | .mnx .. => 7
  | .chk .. => 8
  | _ => 0
theorem tag_call {c : Call} {op : AOp} (h : prepCall P c = some op) : aopTag op = 7 := by
  obtain ⟨callee, args, argTypes⟩ := c
  simp only [prepCall] at h
  cases callee with
  | value f => simp only [Option.some.injEq] at h; subst h; rfl
  | invoke r m => cases h
  | builtin b =>
    simp only at h
    split at h
    · split at h <;> first | (cases h; done) | (simp only [Option.some.injEq] at h; subst h; rfl)
    · split at h <;> first | (cases h; done) | (simp only [Option.some.injEq] at h; subst h; rfl)
    · simp only [Option.some.injEq] at h; subst h; rfl
    · simp only [Option.some.injEq] at h; subst h; rfl
    · split at h
      · split at h
        · simp only [Option.bind_eq_some_iff] at h
          obtain ⟨i, _, z, _, h⟩ := h
          split at h
          · simp only [Option.some.injEq] at h; subst h; rfl
          · cases h
        · cases h
      · cases h
    · cases h
theorem tag_bin {b : BinOp} {t : TypeId} {x y : Operand} {op : AOp} (h : prepBin P b t x y = some op) : aopTag op = 0 := by
  unfold prepBin at h
  split at h <;> (try (simp only [Option.some.injEq] at h; subst h; rfl)) <;> (try (cases h; done))
  split at h
  · split at h
    · simp only [Option.some.injEq] at h; subst h; rfl
    · cases h
  · split at h
    · simp only [Option.some.injEq] at h; subst h; rfl
    · cases h
  · cases h
theorem tag_ok {o : Op} {op : AOp} (h : prepOp P o = some op) : opTag o = aopTag op := by
  cases o <;> simp only [prepOp] at h <;> (try (cases h; done)) <;> (try (simp only [Option.some.injEq] at h; subst h; rfl))
  case alloc e => simp only [Option.map_eq_some_iff] at h; obtain ⟨z, _, rfl⟩ := h; rfl
  case build t parts =>
    simp only [Option.bind_eq_some_iff] at h
    obtain ⟨z, _, ps, _, h⟩ := h
    split at h
    · split at h
      · simp only [Option.some.injEq] at h; subst h; rfl
      · cases h
    · split at h
      · simp only [Option.some.injEq] at h; subst h; rfl
      · cases h
    · cases h
  case buildSlice t n parts =>
    split at h
    · simp only [Option.bind_eq_some_iff] at h
      obtain ⟨i, _, z, _, h⟩ := h
      split at h
      · simp only [Option.map_eq_some_iff] at h
        obtain ⟨ps, _, rfl⟩ := h
        rfl
      · cases h
    · cases h
  case load t x =>
    simp only [Option.bind_eq_some_iff] at h
    obtain ⟨g, _, s, _, h⟩ := h
    split at h
    · simp only [Option.some.injEq] at h; subst h; rfl
    · cases h
  case store t a x => simp only [Option.map_eq_some_iff] at h; obtain ⟨z, _, rfl⟩ := h; rfl
  case binOp b t x y u =>
    have hagg : (if P.eqGuardType P.depth t then none else
      (if plainT P .int 100 t then some SK.int else if plainT P .bool 100 t then some SK.bool else if plainT P .str 100 t then some SK.str else none).bind fun sk =>
      (sizeT P t).bind fun s => (match b with | .eql => some (AOp.eqAgg false sk s x y) | .neq => some (AOp.eqAgg true sk s x y) | _ => none)) = some op → aopTag op = 0 := by
      intro h
      split at h
      · cases h
      · simp only [Option.bind_eq_some_iff] at h
        obtain ⟨sk, _, s, _, h⟩ := h
        cases b <;> simp only at h <;> (try (cases h; done)) <;> (simp only [Option.some.injEq] at h; subst h; rfl)
    split at h
    · exact (hagg h).symm
    · exact (hagg h).symm
    · exact (tag_bin h).symm
  case convert s d x => split at h <;> (try (cases h; done)) <;> (simp only [Option.some.injEq] at h; subst h; rfl)
  case makeSlice t l c =>
    split at h
    · simp only [Option.bind_eq_some_iff] at h
      obtain ⟨i, _, z, _, h⟩ := h
      split at h
      · simp only [Option.some.injEq] at h; subst h; rfl
      · cases h
    · cases h
  case slice t x lo hi mx =>
    split at h
    · split at h
      · cases h
      · simp only [Option.map_eq_some_iff] at h; obtain ⟨z, _, rfl⟩ := h; rfl
    · split at h
      · cases h
      · simp only [Option.some.injEq] at h; subst h; rfl
    · split at h
      · cases h
      · simp only [Option.map_eq_some_iff] at h; obtain ⟨z, _, rfl⟩ := h; rfl
    · split at h
      · split at h
        · cases h
        · simp only [Option.map_eq_some_iff] at h; obtain ⟨z, _, rfl⟩ := h; rfl
      · cases h
    · cases h
  case fieldAddr t x j =>
    split at h
    · simp only [Option.bind_eq_some_iff] at h
      obtain ⟨f, _, s, _, h⟩ := h
      split at h
      · cases h
      · simp only [Option.some.injEq] at h; subst h; rfl
    · cases h
  case field t x j =>
    split at h
    · simp only [Option.bind_eq_some_iff] at h
      obtain ⟨f, _, g, _, s, _, h⟩ := h
      split at h
      · simp only [Option.some.injEq] at h; subst h; rfl
      · cases h
    · cases h
  case indexAddr t x i =>
    split at h
    · simp only [Option.map_eq_some_iff] at h; obtain ⟨z, _, rfl⟩ := h; rfl
    · simp only [Option.map_eq_some_iff] at h; obtain ⟨z, _, rfl⟩ := h; rfl
    · cases h
  case index t x i =>
    split at h
    · simp only [Option.bind_eq_some_iff] at h
      obtain ⟨g, _, s, _, h⟩ := h
      split at h
      · simp only [Option.some.injEq] at h; subst h; rfl
      · cases h
    · simp only [Option.some.injEq] at h; subst h; rfl
    · cases h
  case call c => exact (tag_call h).symm

theorem tag1 {o : Op} (h : opTag o = 1) : ∃ t x, o = .load t x := by cases o <;> first | exact ⟨_, _, rfl⟩ | (exact absurd h (by simp [opTag]))
theorem tag2 {o : Op} (h : opTag o = 2) : ∃ t x y, o = .store t x y := by cases o <;> first | exact ⟨_, _, _, rfl⟩ | (exact absurd h (by simp [opTag]))
theorem tag3 {o : Op} (h : opTag o = 3) : ∃ t, o = .alloc t := by cases o <;> first | exact ⟨_, rfl⟩ | (exact absurd h (by simp [opTag]))
theorem tag4 {o : Op} (h : opTag o = 4) : ∃ t x, o = .box t x := by cases o <;> first | exact ⟨_, _, rfl⟩ | (exact absurd h (by simp [opTag]))
theorem tag5 {o : Op} (h : opTag o = 5) : ∃ t n x, o = .buildSlice t n x := by cases o <;> first | exact ⟨_, _, _, rfl⟩ | (exact absurd h (by simp [opTag]))
theorem tag6 {o : Op} (h : opTag o = 6) : ∃ t n x, o = .makeSlice t n x := by cases o <;> first | exact ⟨_, _, _, rfl⟩ | (exact absurd h (by simp [opTag]))
theorem tag7 {o : Op} (h : opTag o = 7) : ∃ c, o = .call c := by cases o <;> first | exact ⟨_, rfl⟩ | (exact absurd h (by simp [opTag]))
theorem tag8 (o : Op) : opTag o ≠ 8 := by cases o <;> simp [opTag]
set_option maxHeartbeats 1000000 in
theorem op_sound {o : Oper} {ops : Array Oper} {op : AOp} {T : Tm} {H : Hp} {a : Act} {w : World} {K : Tm → Hp → Prop} {Q : Exit → Act → World → Prop}
    (hp : prepOp P o.op = some op) (hd : dstOk N o.dst = true) (st : St H0 w0 N T H a w) (hs : op.step P T H o.dst K) : o.wp P a w (Goes H0 w0 N K) Q := by
  have valc : (∃ v, op.val T = some v ∧ K (T.puto o.dst v) H) → o.wp P a w (Goes H0 w0 N K) Q := by
    rintro ⟨v, hv, hK⟩
    exact val_goes st hd (val_sound hp hv w) hK
  have htag := tag_ok hp
  cases op <;> (try (exact valc hs))
  case chk rs => exact absurd htag (tag8 _)
  case ld g s x =>
    obtain ⟨t, y, hop⟩ := tag1 htag
    rw [hop] at hp
    simp only [prepOp, Option.bind_eq_some_iff] at hp
    obtain ⟨v, hv, hK⟩ := hs
    obtain ⟨g', hg, s', hs', hp⟩ := hp
    refine val_goes st hd ?_ hK
    split at hp
    · rename_i h1
      simp only [Option.some.injEq, AOp.ld.injEq] at hp
      obtain ⟨rfl, rfl, rfl⟩ := hp
      unfold execOp
      simp only [hop]
      exact map_run_value _ w v (load_sound hg hs' h1 st.sat hv)
    · cases hp
  case alloc ty z =>
    obtain ⟨e, hop⟩ := tag3 htag
    rw [hop] at hp
    simp only [prepOp, Option.map_eq_some_iff] at hp
    obtain ⟨z', hz, hp⟩ := hp
    simp only [AOp.alloc.injEq] at hp
    obtain ⟨rfl, rfl⟩ := hp
    exact does_goes (s := Instr.alloc e true (.tuple #[])) st.fits hd (by unfold execOp; simp only [hop]) (alloc_sound hz st.sat st.keeps hs)
  case box ty x =>
    obtain ⟨e, y, hop⟩ := tag4 htag
    rw [hop] at hp
    simp only [prepOp, Option.some.injEq, AOp.box.injEq] at hp
    obtain ⟨rfl, rfl⟩ := hp
    exact does_goes (s := Instr.box e (ev T y)) st.fits hd (by unfold execOp; simp only [hop]) (box_sound st.sat st.keeps hs)
  case bsl ty ln zero parts =>
    obtain ⟨t, n, ps0, hop⟩ := tag5 htag
    rw [hop] at hp
    simp only [prepOp] at hp
    split at hp
    · rename_i e hu
      simp only [Option.bind_eq_some_iff] at hp
      obtain ⟨i, hi, z, hz, hp⟩ := hp
      split at hp
      · rename_i hc
        simp only [Option.map_eq_some_iff] at hp
        obtain ⟨ps, hps, hp⟩ := hp
        simp only [AOp.bsl.injEq] at hp
        obtain ⟨rfl, rfl, rfl, rfl⟩ := hp
        obtain ⟨vs, cs, h1, h2, hK⟩ := hs
        obtain ⟨c1, c2, c3⟩ := hc
        have hdo := buildSlice_sound (T := T) (K := fun v H' => K (T.puto o.dst v) H') hu hi hz c1 c2 c3 hps h1 h2 st.sat st.keeps hK
        have hex : execOp (ev T) o = (do pure (Next.value (← Instr.buildSlice t n (ps0.map fun p => (p.1, ev T p.2))))) := by unfold execOp; simp only [hop]
        exact does_goes st.fits hd hex hdo
      · cases hp
    · cases hp
  case msl ty bytes zero l c =>
    obtain ⟨t, l', c', hop⟩ := tag6 htag
    rw [hop] at hp
    simp only [prepOp] at hp
    split at hp
    · rename_i e hu
      simp only [Option.bind_eq_some_iff] at hp
      obtain ⟨i, hi, z, hz, hp⟩ := hp
      split at hp
      · rename_i hc
        simp only [Option.some.injEq, AOp.msl.injEq] at hp
        obtain ⟨rfl, rfl, rfl, rfl, rfl⟩ := hp
        obtain ⟨kl, lv, kc, cv, h1, h2, h3, h4, h5, h6, hK⟩ := hs
        exact does_goes (s := Instr.makeSlice t (ev T l') (ev T c')) st.fits hd (by unfold execOp; simp only [hop]) (by rw [h1, h2]; exact makeSlice_sound hu hi hz hc.1 h3 h4 h5 h6 st.sat st.keeps hK)
      · cases hp
    · cases hp
  case st s p x =>
    obtain ⟨t, p', x', hop⟩ := tag2 htag
    rw [hop] at hp
    simp only [prepOp, Option.map_eq_some_iff] at hp
    obtain ⟨s', hsz, hp⟩ := hp
    simp only [AOp.st.injEq] at hp
    obtain ⟨rfl, rfl, rfl⟩ := hp
    obtain ⟨H', hv, hK⟩ := hs
    obtain ⟨w', hr, hs', hk'⟩ := store_sound hsz st.sat st.keeps hv
    unfold Oper.wp
    rw [st.fits.eval]
    unfold execOp
    simp only [hop, Sem.run_bind, hr, Result.andThen_ok, Sem.run_pure, Oper.upon]
    refine ⟨_, H', ⟨st.fits.put (fun t ht => ?_) undef, hs', hk'⟩, hK⟩
    rw [ht] at hd
    simpa [dstOk] using hd
  case app ty sz bytes s x =>
    obtain ⟨c, hop⟩ := tag7 htag
    rw [hop] at hp
    obtain ⟨callee, args, argTypes⟩ := c
    simp only [prepOp, prepCall] at hp
    cases callee with
    | value f => simp at hp
    | invoke r m => cases hp
    | builtin b =>
      simp only at hp
      obtain ⟨args⟩ := args
      obtain ⟨argTypes⟩ := argTypes
      split at hp
      · split at hp <;> simp at hp
      · split at hp <;> simp at hp
      · simp at hp
      · simp at hp
      · rename_i s' x' t u h1 h2
        subst h1 h2
        split at hp
        · rename_i htu
          subst htu
          split at hp
          · rename_i e hu
            simp only [Option.bind_eq_some_iff] at hp
            obtain ⟨i, hi, z, hz, hp⟩ := hp
            split at hp
            · rename_i hc
              simp only [Option.some.injEq, AOp.app.injEq] at hp
              obtain ⟨rfl, rfl, rfl, rfl, rfl⟩ := hp
              refine does_goes (s := Builtin.append_ #[t, t] o.type #[ev T s', ev T x']) st.fits hd ?_ (append_sound hu hi hz hc.1 hc.2 st.sat st.keeps hs)
              unfold execOp
              simp only [hop, resolve, invoke, builtin]
              simp
            · cases hp
          · cases hp
        · cases hp
      · cases hp
  case call f args =>
    obtain ⟨c, hop⟩ := tag7 htag
    rw [hop] at hp
    obtain ⟨callee, args', argTypes⟩ := c
    simp only [prepOp, prepCall] at hp
    cases callee with
    | invoke r m => cases hp
    | builtin b =>
      exfalso
      simp only at hp
      split at hp
      · split at hp <;> simp at hp
      · split at hp <;> simp at hp
      · simp at hp
      · simp at hp
      · split at hp
        · split at hp
          · simp only [Option.bind_eq_some_iff] at hp
            obtain ⟨i, hi, z, hz, hp⟩ := hp
            split at hp <;> simp at hp
          · cases hp
        · cases hp
      · cases hp
    | value f' =>
      simp only [Option.some.injEq, AOp.call.injEq] at hp
      obtain ⟨rfl, rfl⟩ := hp
      have hs' : acall P H (ev T f') (args'.toList.map (ev T)).toArray (fun v H' => K (T.puto o.dst v) H') := hs
      unfold acall at hs'
      split at hs'
      · rename_i fid first cp hf
        obtain ⟨hen, hcalls⟩ := hs'
        have hc := hcalls w st.sat
        unfold Oper.wp
        rw [st.fits.eval]
        have hargs : (args'.toList.map (ev T)).toArray = args'.map (ev T) := by apply Array.ext'; simp
        rw [hargs] at hc
        have hrun : (execOp (ev T) o).run P w = .ok (.enter fid (first ++ args'.map (ev T) ++ cp)) w := by
          unfold execOp
          simp only [hop, resolve, hf, Deferred.ofValue, Sem.run_bind, Sem.run_pure, Result.andThen_ok, invoke, run_callFunc hen]
        rw [hrun, Oper.upon_enter]
        refine Calls.mono hc ?_
        rintro e w' ⟨r, H', rfl, hK, hsat, hk⟩
        refine ⟨_, H', ⟨st.fits.put (fun t ht => ?_) r, hsat, st.keeps.trans hk⟩, hK⟩
        rw [ht] at hd
        simpa [dstOk] using hd
      · exact hs'.elim
end
end Go.Proofs.Ytonmmfjagkgifaa
