/- The abstract calculus, tenth text: one order, checked, stands for all. -/
import Derived.Test.YtonmmfjagkgifaaAbDraw2
set_option linter.unusedVariables false
set_option linter.unusedSimpArgs false
namespace Go.Proofs.Ytonmmfjagkgifaa
open Go.RowKit

/-- Numbered operations. -/
abbrev NI := Nat × AI
/-- The load r would still yield what it yielded. -/
def reread (r : AI) (T : Tm) (H : Hp) : Prop := match r.op with
  | .ld g s x => asGuard T r.guard = true → ∀ d, r.dst = some d → aload H g s (ev T x) = some (T d)
  | _ => True
def crun (P : Program) (ord : Nat → Nat → Bool) (K : Tm → Hp → Prop) : List NI → List NI → Tm → Hp → Prop
  | _, [], T, H => K T H
  | pre, i :: R, T, H => i.2.step P T H fun T' H' =>
      (cls i.2.op = 3 → ∀ r ∈ pre, ord r.1 i.1 = false → reread r.2 T' H') ∧ crun P ord K (if cls i.2.op = 1 then i :: pre else pre) R T' H'

def mem (t : Nat) (l : List Nat) : Bool := l.contains t
def dstIn (d : Option Nat) (l : List Nat) : Bool := match d with
  | some t => l.contains t
  | none => false
def dstNe (a b : Option Nat) : Bool := match a, b with
  | some x, some y => x != y
  | _, _ => true
/-- x and i touch no temporary of each other's. -/
def sepB (x i : AI) : Bool := !dstIn x.dst i.looks && !dstIn i.dst x.looks && dstNe x.dst i.dst
/-- x writes nothing that the load r looks at or has written. -/
def quietB (r x : AI) : Bool := !dstIn x.dst r.looks && dstNe x.dst r.dst
def pairOk (x i : AI) : Bool := sepB x i && cls x.op != 4 && cls i.op != 4 && (cls x.op != 1 || (!dstIn x.dst x.looks && x.dst.isSome)) &&
  (match cls x.op, cls i.op with
    | 0, _ => true
    | 1, _ => true
    | 2, 0 => true
    | 2, 2 => true
    | 3, 2 => true
    | _, _ => false)
theorem dstIn_spec {d : Option Nat} {l : List Nat} (h : dstIn d l = false) : ∀ t, d = some t → t ∉ l := by
  rintro t rfl
  simpa [dstIn] using h
theorem dstNe_spec {a b : Option Nat} (h : dstNe a b = true) : (∀ t, a = some t → b ≠ some t) ∧ (∀ t, b = some t → a ≠ some t) := by
  cases a <;> cases b <;> simp_all [dstNe]
  intro e; exact h e.symm
theorem sepB_spec {x i : AI} (h : sepB x i = true) : (∀ t, x.dst = some t → t ∉ i.looks) ∧ (∀ t, i.dst = some t → t ∉ x.looks) ∧ (∀ t, x.dst = some t → i.dst ≠ some t) ∧ (∀ t, i.dst = some t → x.dst ≠ some t) := by
  simp only [sepB, Bool.and_eq_true, Bool.not_eq_true'] at h
  exact ⟨dstIn_spec h.1.1, dstIn_spec h.1.2, (dstNe_spec h.2).1, (dstNe_spec h.2).2⟩

section
variable {P : Program} {ord : Nat → Nat → Bool} {K : Tm → Hp → Prop}

theorem reread_put {r : AI} {T : Tm} {H : Hp} {d : Nat} {v : Value} (h1 : d ∉ r.looks) (h2 : r.dst ≠ some d) : reread r (T.put d v) H = reread r T H := by
  obtain ⟨dst, g, op⟩ := r
  unfold reread
  cases op <;> try rfl
  case ld ag s x =>
    simp only [AI.looks, AOp.tmps, List.mem_append, not_or] at h1
    simp only at h2
    simp only [guard_put h1.2, ev_put h1.1]
    apply propext
    constructor
    · intro h hg t ht
      have := h hg t ht
      rwa [Tm.put, if_neg (fun e => h2 (by rw [ht, e]))] at this
    · intro h hg t ht
      rw [Tm.put, if_neg (fun e => h2 (by rw [ht, e]))]
      exact h hg t ht
theorem reread_puto {r x : AI} {T : Tm} {H : Hp} {v : Value} (h : quietB r x = true) : reread r (T.puto x.dst v) H = reread r T H := by
  simp only [quietB, Bool.and_eq_true, Bool.not_eq_true'] at h
  cases hd : x.dst with
  | none => rfl
  | some d =>
    have h1 := dstIn_spec h.1 d hd
    have h2 := (dstNe_spec h.2).1 d hd
    exact reread_put h1 h2
theorem reread_set {r : AI} {T : Tm} {H : Hp} {b : Nat} {o : AObj} (hb : H b = none) (h : reread r T H) : reread r T (H.set b o) := by
  unfold reread at *
  split
  · rename_i g s x he
    rw [he] at h
    intro hg d hd
    exact aload_set hb (h hg d hd)
  · trivial

theorem crun_pre {R : List NI} : ∀ {pre pre' : List NI} {T : Tm} {H : Hp}, Live H → (∀ r ∈ pre', r ∈ pre) → crun P ord K pre R T H → crun P ord K pre' R T H := by
  induction R with
  | nil => intro pre pre' T H _ _ h; exact h
  | cons i R ih =>
    intro pre pre' T H hl hm h
    refine ai_step_mono hl h fun T' H' hl' hk => ⟨fun h3 r hr ho => hk.1 h3 r (hm r hr) ho, ?_⟩
    refine ih hl' ?_ hk.2
    intro r hr
    split at hr
    · rename_i h1
      rw [if_pos h1]
      rcases List.mem_cons.1 hr with h2 | h2
      · exact List.mem_cons.2 (.inl h2)
      · exact List.mem_cons.2 (.inr (hm r h2))
    · rename_i h1
      rw [if_neg h1]
      exact hm r hr

/-- What makes memory, in one form. -/
def mk2 (T : Tm) : AOp → Option ((Nat → Value) × TypeId × List Value × Nat)
  | .alloc ty z => some (fun b => .pointer (some ⟨b, 0, none⟩), ty, z, z.length)
  | .box ty x => some (fun b => .pointer (some ⟨b, 0, none⟩), ty, valCells (ev T x), (valCells (ev T x)).length)
  | .bsl ty n z ps => (aparts T ps).bind fun vs => (afill (repZero z n) vs).map fun cs => (fun b => .slice (some ⟨b, 0, none⟩) n n, ty, cs, cs.length)
  | .msl ty bytes z l c => match ev T l, ev T c with
    | .int _ lv, .int _ cv => if 0 ≤ lv ∧ lv ≤ cv ∧ (bytes : Int) * cv ≤ 281474976710656 ∧ cv ≤ 9223372036854775807 then
        some (fun b => .slice (some ⟨b, 0, none⟩) lv.toNat cv.toNat, ty, repZero z cv.toNat, cv.toNat * z.length) else none
    | _, _ => none
  | _ => none
theorem step_mk2 {op : AOp} {T : Tm} {H : Hp} {dst : Option Nat} {K : Tm → Hp → Prop} (hc : cls op = 2) :
    op.step P T H dst K ↔ ∃ d, mk2 T op = some d ∧ ∀ b, H b = none → K (T.puto dst (d.1 b)) (H.set b (.row true d.2.1 d.2.2.1 d.2.2.2)) := by
  cases op <;> simp only [cls] at hc <;> (try (exact absurd hc (by decide)))
  case alloc ty z => exact ⟨fun h => ⟨_, rfl, h⟩, fun ⟨d, hd, h⟩ => by simp only [mk2, Option.some.injEq] at hd; subst hd; exact h⟩
  case box ty x => exact ⟨fun h => ⟨_, rfl, h⟩, fun ⟨d, hd, h⟩ => by simp only [mk2, Option.some.injEq] at hd; subst hd; exact h⟩
  case bsl ty n z ps =>
    constructor
    · rintro ⟨vs, cs, h1, h2, h3⟩
      exact ⟨(fun b => .slice (some ⟨b, 0, none⟩) n n, ty, cs, cs.length), by simp only [mk2, h1, Option.bind_some, h2, Option.map_some], h3⟩
    · rintro ⟨d, hd, h⟩
      simp only [mk2, Option.bind_eq_some_iff, Option.map_eq_some_iff] at hd
      obtain ⟨vs, h1, cs, h2, rfl⟩ := hd
      exact ⟨vs, cs, h1, h2, h⟩
  case msl ty bytes z l c =>
    constructor
    · rintro ⟨kl, lv, kc, cv, h1, h2, h3, h4, h5, h6, h7⟩
      exact ⟨(fun b => .slice (some ⟨b, 0, none⟩) lv.toNat cv.toNat, ty, repZero z cv.toNat, cv.toNat * z.length), by simp only [mk2, h1, h2]; rw [if_pos ⟨h3, h4, h5, h6⟩], h7⟩
    · rintro ⟨d, hd, h⟩
      simp only [mk2] at hd
      split at hd
      · rename_i kl lv kc cv h1 h2
        split at hd
        · rename_i hcond
          simp only [Option.some.injEq] at hd
          subst hd
          exact ⟨kl, lv, kc, cv, h1, h2, hcond.1, hcond.2.1, hcond.2.2.1, hcond.2.2.2, h⟩
        · cases hd
      · cases hd
theorem mk2_put {op : AOp} {T : Tm} {d : Nat} {v : Value} (h : d ∉ op.tmps) : mk2 (T.put d v) op = mk2 T op := by
  cases op <;> simp only [AOp.tmps, List.mem_append, not_or] at h <;> simp only [mk2]
  case box ty x => simp only [ev_put h]
  case bsl ty n z ps => simp only [aparts_put ps h]
  case msl ty b z l c => simp only [ev_put h.1, ev_put h.2]
theorem mk2_puto {op : AOp} {T : Tm} {d : Option Nat} {v : Value} (h : ∀ t, d = some t → t ∉ op.tmps) : mk2 (T.puto d v) op = mk2 T op := by
  cases d with
  | none => rfl
  | some d => exact mk2_put (h d rfl)
theorem guard_puto {T : Tm} {d : Option Nat} {v : Value} {i : AI} (h : ∀ t, d = some t → t ∉ i.looks) : asGuard (T.puto d v) i.guard = asGuard T i.guard := by
  cases d with
  | none => rfl
  | some d =>
    have := h d rfl
    simp only [AI.looks, List.mem_append, not_or] at this
    exact guard_put this.2

/-- What a step leaves as it was. -/
def Frm (T : Tm) (H : Hp) (i : AI) (T1 : Tm) (H1 : Hp) : Prop :=
  (∃ v, T1 = T.puto i.dst v) ∧ (cls i.op ≤ 1 → H1 = H) ∧ (cls i.op = 2 → H1 = H ∨ ∃ b o, H b = none ∧ H1 = H.set b o)
theorem ai_step_frame {T : Tm} {H : Hp} {i : AI} {K : Tm → Hp → Prop} (hc : cls i.op ≠ 4) (h : i.step P T H K) : i.step P T H (fun T1 H1 => Frm T H i T1 H1 ∧ K T1 H1) := by
  obtain ⟨dst, g, op⟩ := i
  unfold AI.step at *
  split at h
  · rename_i hg
    rw [if_pos hg]
    simp only at h hc ⊢
    by_cases h2 : cls op = 2
    · rw [step_mk2 h2] at h ⊢
      obtain ⟨d, hd, h⟩ := h
      exact ⟨d, hd, fun b hb => ⟨⟨⟨_, rfl⟩, fun h1 => by simp only at h1; omega, fun _ => .inr ⟨b, _, hb, rfl⟩⟩, h b hb⟩⟩
    · cases op <;> (try (exact absurd rfl h2)) <;> (try (exact absurd rfl hc))
      case ld => obtain ⟨v, h1, h3⟩ := h; exact ⟨v, h1, ⟨⟨v, rfl⟩, fun _ => rfl, fun h => absurd h (by simp [cls])⟩, h3⟩
      case st => obtain ⟨H', h1, h3⟩ := h; exact ⟨H', h1, ⟨⟨_, rfl⟩, fun h => absurd h (by simp [cls]), fun h => absurd h (by simp [cls])⟩, h3⟩
      case app ty sz bytes s x =>
        obtain ⟨n, new, h1, h3, h4⟩ := h
        have hF : ∀ v H', Frm T H ⟨dst, g, .app ty sz bytes s x⟩ (T.puto dst v) H' := fun v H' => ⟨⟨v, rfl⟩, fun h => absurd h (by simp [cls]), fun h => absurd h (by simp [cls])⟩
        refine ⟨n, new, h1, h3, ?_⟩
        split at h4
        · exact ⟨fun h0 => ⟨hF _ _, h4.1 h0⟩, fun h0 => ⟨(h4.2 h0).1, (h4.2 h0).2.1, fun b c hb hc => ⟨hF _ _, (h4.2 h0).2.2 b c hb hc⟩⟩⟩
        · obtain ⟨xs, tot, hb, hle, hby, h63, hin, hgr⟩ := h4
          exact ⟨xs, tot, hb, hle, hby, h63, fun hr => ⟨(hin hr).1, hF _ _, (hin hr).2⟩, fun hr b' c' hb' hc' => ⟨hF _ _, hgr hr b' c' hb' hc'⟩⟩
        · exact h4
      case call f args =>
        have h' : acall P H (ev T f) (args.map (ev T)).toArray (fun v H' => K (T.puto dst v) H') := h
        have hF : ∀ v H', Frm T H ⟨dst, g, .call f args⟩ (T.puto dst v) H' := fun v H' => ⟨⟨v, rfl⟩, fun h => absurd h (by simp [cls]), fun h => absurd h (by simp [cls])⟩
        show acall P H (ev T f) (args.map (ev T)).toArray (fun v H' => Frm T H ⟨dst, g, .call f args⟩ (T.puto dst v) H' ∧ K (T.puto dst v) H')
        unfold acall at h' ⊢
        split at h'
        · exact acalls_mono h' fun r H' _ hK => ⟨hF _ _, hK⟩
        · exact h'.elim
      all_goals (obtain ⟨v, h1, h3⟩ := h; exact ⟨v, h1, ⟨⟨v, rfl⟩, fun _ => rfl, fun h => absurd h (by simp [cls])⟩, h3⟩)
  · rename_i hg
    rw [if_neg hg]
    exact ⟨⟨⟨_, rfl⟩, fun _ => rfl, fun _ => .inl rfl⟩, h⟩

/-- A step comes to something. -/
theorem ai_step_some {T : Tm} {H : Hp} {i : AI} {K : Tm → Hp → Prop} (hl : Live H) (h : i.step P T H K) : ∃ T' H', K T' H' := by
  obtain ⟨b0, hb0⟩ := hl.fresh
  obtain ⟨dst, g, op⟩ := i
  unfold AI.step at h
  split at h
  · rename_i hg
    simp only at h
    by_cases h2 : cls op = 2
    · rw [step_mk2 h2] at h
      obtain ⟨d, hd, h⟩ := h
      exact ⟨_, _, h b0 hb0⟩
    · cases op <;> (try (exact absurd rfl h2))
      case ld => obtain ⟨v, h1, h3⟩ := h; exact ⟨_, _, h3⟩
      case st => obtain ⟨H', h1, h3⟩ := h; exact ⟨_, _, h3⟩
      case chk => exact ⟨_, _, h.2⟩
      case app ty sz bytes s x =>
        obtain ⟨n, new, h1, h3, h4⟩ := h
        split at h4
        · rcases Nat.eq_zero_or_pos n with h0 | h0
          · exact ⟨_, _, h4.1 h0⟩
          · exact ⟨_, _, (h4.2 h0).2.2 b0 n hb0 (Nat.le_refl _)⟩
        · obtain ⟨xs, tot, hb, hle, hby, h63, hin, hgr⟩ := h4
          rename_i b ln cp he
          rcases Nat.lt_or_ge cp (ln + n) with hr | hr
          · exact ⟨_, _, hgr hr b0 (ln + n) hb0 (Nat.le_refl _)⟩
          · exact ⟨_, _, (hin hr).2⟩
        · exact h4.elim
      case call f args =>
        have h' : acall P H (ev T f) (args.map (ev T)).toArray (fun v H' => K (T.puto dst v) H') := h
        unfold acall at h'
        split at h'
        · obtain ⟨w, hw⟩ := hl
          obtain ⟨e, w', fr, ⟨r, H', he, hK, _⟩, _⟩ := h'.2 w hw []
          exact ⟨_, _, hK⟩
        · exact h'.elim
      all_goals (obtain ⟨v, h1, h3⟩ := h; exact ⟨_, _, h3⟩)
  · exact ⟨_, _, h⟩

/-- What writes does so beside a block of which it knows nothing. -/
theorem ai_step_set {T : Tm} {H : Hp} {i : AI} {b : Nat} {ty : TypeId} {xs : List Value} {tot : Nat} {K K' : Tm → Hp → Prop} (hc : cls i.op = 3) (hb : H b = none) (h : i.step P T H K)
    (hk : ∀ T' H', H' b = none → K T' H' → K' T' (H'.set b (.row true ty xs tot))) : i.step P T (H.set b (.row true ty xs tot)) K' := by
  obtain ⟨dst, g, op⟩ := i
  unfold AI.step at *
  split at h
  · rename_i hg
    rw [if_pos hg]
    simp only at h hc ⊢
    cases op <;> simp only [cls] at hc <;> (try (exact absurd hc (by decide)))
    case st => obtain ⟨H', h1, h3⟩ := h; obtain ⟨h4, h5⟩ := astore_set hb h1; exact ⟨_, h4, hk _ _ h5 h3⟩
    case app ty' sz bytes s x =>
      have h' : aappend ty' sz bytes H (ev T s) (ev T x) (fun v H' => K (T.puto dst v) H') := h
      show aappend ty' sz bytes (H.set b _) (ev T s) (ev T x) (fun v H' => K' (T.puto dst v) H')
      exact aappend_set hb h' fun v H' h1 h2 => hk _ _ h1 h2
    case call f args =>
      have h' : acall P H (ev T f) (args.map (ev T)).toArray (fun v H' => K (T.puto dst v) H') := h
      show acall P (H.set b _) (ev T f) (args.map (ev T)).toArray (fun v H' => K' (T.puto dst v) H')
      unfold acall at h' ⊢
      split at h'
      · exact acalls_set hb h' fun v H' h1 h2 => hk _ _ h1 h2
      · exact h'.elim
  · rename_i hg
    rw [if_neg hg]
    exact hk _ _ hb h

theorem frame_guard {T T1 : Tm} {H H1 : Hp} {i x : AI} (hf : Frm T H i T1 H1) (h : ∀ t, i.dst = some t → t ∉ x.looks) : asGuard T1 x.guard = asGuard T x.guard := by
  obtain ⟨⟨v, rfl⟩, _⟩ := hf
  exact guard_puto h
theorem frame_ev {T T1 : Tm} {H H1 : Hp} {i : AI} (hf : Frm T H i T1 H1) {y : Operand} (h : ∀ t, i.dst = some t → t ∉ opTmp y) : ev T1 y = ev T y := by
  obtain ⟨⟨v, rfl⟩, _⟩ := hf
  cases hd : i.dst with
  | none => rfl
  | some d => exact ev_put (h d hd)
theorem cls0_step {op : AOp} {T : Tm} {H : Hp} {dst : Option Nat} {K : Tm → Hp → Prop} (hc : cls op = 0) : op.step P T H dst K = ∃ v, op.val T = some v ∧ K (T.puto dst v) H := by
  cases op <;> first | rfl | (exact absurd hc (by simp [cls]))
theorem val_puto {op : AOp} {T : Tm} {d : Option Nat} {v : Value} (h : ∀ t, d = some t → t ∉ op.tmps) : op.val (T.puto d v) = op.val T := by
  cases d with
  | none => rfl
  | some d => exact val_put (h d rfl)
theorem looks_tmps {i : AI} {t : Nat} (h : t ∉ i.looks) : t ∉ i.op.tmps := by
  simp only [AI.looks, List.mem_append, not_or] at h
  exact h.1

theorem puto_comm2 (T : Tm) {d e : Option Nat} (v u : Value) (h : ∀ t, d = some t → e ≠ some t) : (T.puto e u).puto d v = (T.puto d v).puto e u := by
  cases d with
  | none => rfl
  | some d => exact (puto_comm T v u (h d rfl)).symm
set_option maxHeartbeats 1000000 in
theorem crun_swap {pre R : List NI} {x i : NI} {T : Tm} {H : Hp} (hl : Live H) (hok : pairOk x.2 i.2 = true) (hord : ord x.1 i.1 = false)
    (hpre : ∀ r ∈ pre, quietB r.2 x.2 = true ∧ quietB r.2 i.2 = true) (h : crun P ord K pre (x :: i :: R) T H) : crun P ord K pre (i :: x :: R) T H := by
  obtain ⟨nx, x⟩ := x
  obtain ⟨ni, i⟩ := i
  simp only at hok hord hpre
  have hok' := hok
  simp only [pairOk, Bool.and_eq_true, bne_iff_ne, ne_eq] at hok'
  obtain ⟨⟨⟨⟨hsep, hx4⟩, hi4⟩, hself⟩, hcls⟩ := hok'
  obtain ⟨s1, s2, s3, s4⟩ := sepB_spec hsep
  -- both orders leave the same loads behind
  have hmem : ∀ r, r ∈ (if cls x.op = 1 then (nx, x) :: (if cls i.op = 1 then (ni, i) :: pre else pre) else (if cls i.op = 1 then (ni, i) :: pre else pre)) →
      r ∈ (if cls i.op = 1 then (ni, i) :: (if cls x.op = 1 then (nx, x) :: pre else pre) else (if cls x.op = 1 then (nx, x) :: pre else pre)) := by
    intro r hr
    split at hr <;> split at hr <;> simp_all <;> grind
  have hin : ∀ r ∈ pre, r ∈ (if cls x.op = 1 then (nx, x) :: pre else pre) := by
    intro r hr; split <;> simp [hr]
  simp only [crun] at h ⊢
  have hfx := ai_step_frame hx4 h
  by_cases hc3 : cls x.op = 3
  · -- x writes, i makes memory
    have hi2 : cls i.op = 2 := by
      rw [hc3] at hcls
      split at hcls <;> simp_all
    have hx1 : ¬ cls x.op = 1 := by omega
    have hi1 : ¬ cls i.op = 1 := by omega
    have hi3 : ¬ cls i.op = 3 := by omega
    simp only [if_neg hx1, if_neg hi1] at hmem ⊢
    simp only [if_neg hx1, if_neg hi1] at hfx
    have hgx : ∀ (T' : Tm) (H' : Hp), Frm T H x T' H' → asGuard T' i.guard = asGuard T i.guard := fun T' H' hf => frame_guard hf s1
    by_cases hg : asGuard T i.guard = true
    · unfold AI.step at ⊢
      rw [if_pos hg, step_mk2 hi2]
      obtain ⟨T', H', hf, hOx, hstep⟩ := ai_step_some hl hfx
      unfold AI.step at hstep
      rw [if_pos (by rw [hgx T' H' hf]; exact hg), step_mk2 hi2] at hstep
      obtain ⟨d, hd, _⟩ := hstep
      have hdT : mk2 T i.op = some d := by
        obtain ⟨⟨v, rfl⟩, _⟩ := hf
        rwa [mk2_puto (fun t ht => looks_tmps (s1 t ht))] at hd
      refine ⟨d, hdT, fun b hb => ⟨fun h3 => absurd h3 hi3, ?_⟩⟩
      rw [← AI.step, ai_step_puto s2 s4 hx4]
      refine ai_step_set hc3 hb hfx ?_
      rintro T2 H2 hb2 ⟨hf2, hOx2, hst2⟩
      refine ⟨fun h3 r hr ho => ?_, ?_⟩
      · rw [reread_puto (hpre r hr).2]
        exact reread_set hb2 (hOx2 h3 r hr ho)
      · unfold AI.step at hst2
        rw [if_pos (by rw [hgx T2 H2 hf2]; exact hg), step_mk2 hi2] at hst2
        obtain ⟨d2, hd2, hk2⟩ := hst2
        obtain ⟨⟨v, rfl⟩, _⟩ := hf2
        rw [mk2_puto (fun t ht => looks_tmps (s1 t ht)), hdT] at hd2
        simp only [Option.some.injEq] at hd2
        subst hd2
        exact (hk2 b hb2).2
    · unfold AI.step at ⊢
      rw [if_neg hg]
      refine ⟨fun h3 => absurd h3 hi3, ?_⟩
      rw [← AI.step, ai_step_puto s2 s4 hx4]
      refine ai_step_mono hl hfx ?_
      rintro T2 H2 hl2 ⟨hf2, hOx2, hst2⟩
      refine ⟨fun h3 r hr ho => ?_, ?_⟩
      · rw [reread_puto (hpre r hr).2]
        exact hOx2 h3 r hr ho
      · unfold AI.step at hst2
        rw [if_neg (by rw [hgx T2 H2 hf2]; exact hg)] at hst2
        exact hst2.2
  · by_cases hg : asGuard T x.guard = true
    · -- x is carried out, and writes nothing
      have hx01 : cls x.op = 0 ∨ cls x.op = 1 ∨ cls x.op = 2 := by
        split at hcls <;> first | (left; assumption) | (right; left; assumption) | (right; right; assumption) | (exact absurd ‹_› hc3) | (exact absurd hcls (by simp))
      rcases hx01 with h0 | h1 | h2
      · -- a value
        have hx1 : ¬ cls x.op = 1 := by omega
        simp only [if_neg hx1] at h hmem hin ⊢
        unfold AI.step at h
        rw [if_pos hg, cls0_step h0] at h
        obtain ⟨v, hv, _, h⟩ := h
        rw [← AI.step, ai_step_puto s1 s3 hi4] at h
        refine ai_step_mono hl (ai_step_frame hi4 h) ?_
        rintro T1 H1 hl1 ⟨hf1, hO, hk⟩
        refine ⟨fun h3 r hr ho => ?_, ?_⟩
        · have := hO h3 r hr ho
          rwa [reread_puto (hpre r hr).1] at this
        · unfold AI.step
          rw [if_pos (by rw [frame_guard hf1 s2]; exact hg), cls0_step h0]
          refine ⟨v, ?_, fun h3 => absurd h3 hc3, crun_pre hl1 hmem hk⟩
          obtain ⟨⟨u, rfl⟩, _⟩ := hf1
          rw [val_puto (fun t ht => looks_tmps (s2 t ht))]
          exact hv
      · -- a load
        obtain ⟨dst, g, op⟩ := x
        cases op <;> (try (simp [cls] at h1; done))
        case ld ag sz y =>
          simp only [cls, if_true] at h hmem hin ⊢
          unfold AI.step at h
          rw [if_pos hg] at h
          obtain ⟨v, hv, _, h⟩ := h
          simp only at hg s1 s2 s3 s4 hpre hv
          have hy : ∀ t, t ∈ opTmp y → t ∈ AI.looks ⟨dst, g, .ld ag sz y⟩ := fun t ht => by simp [AI.looks, AOp.tmps, ht]
          have hg2 : ∀ t, t ∈ (match g with | some g => [g.1] | none => []) → t ∈ AI.looks ⟨dst, g, .ld ag sz y⟩ := fun t ht => by simp only [AI.looks, List.mem_append]; exact .inr ht
          have hsf : ∀ t, dst = some t → t ∉ AI.looks ⟨dst, g, .ld ag sz y⟩ := by
            have : dstIn dst (AI.looks ⟨dst, g, .ld ag sz y⟩) = false := by simp [cls] at hself; exact hself.1
            exact dstIn_spec this
          have hsome : dst.isSome = true := by simp [cls] at hself; exact hself.2
          have h' := h
          rw [← AI.step, ai_step_puto s1 s3 hi4] at h'
          refine ai_step_mono hl (ai_step_frame hi4 h') ?_
          rintro T1 H1 hl1 ⟨hf1, hO, hk⟩
          have hgT1 : asGuard T1 g = true := by
            have := frame_guard (x := ⟨dst, g, .ld ag sz y⟩) hf1 s2
            simp only at this
            rw [this]; exact hg
          have hevT1 : ev T1 y = ev T y := frame_ev hf1 (fun t ht hm => s2 t ht (hy t hm))
          refine ⟨fun h3 r hr ho => ?_, ?_⟩
          · have := hO h3 r (hin r hr) ho
            rwa [reread_puto (x := ⟨dst, g, .ld ag sz y⟩) (hpre r hr).1] at this
          · unfold AI.step
            rw [if_pos hgT1]
            refine ⟨v, ?_, fun h3 => absurd h3 (by simp [cls]), crun_pre hl1 hmem hk⟩
            rw [hevT1]
            by_cases hi3 : cls i.op = 3
            · have := hO hi3 (nx, ⟨dst, g, .ld ag sz y⟩) (by simp) hord
              unfold reread at this
              simp only at this
              cases hd : dst with
              | none => rw [hd] at hsome; cases hsome
              | some d =>
                have hputo : T1.puto (some d) v = T1.put d v := rfl
                rw [hd] at this
                rw [hputo] at this
                have hgd : d ∉ (match g with | some g => [g.1] | none => []) := fun hm => hsf d hd (by rw [hd]; rw [hd] at hg2; exact hg2 d hm)
                have hyd : d ∉ opTmp y := fun hm => hsf d hd (by rw [hd]; rw [hd] at hy; exact hy d hm)
                have := this (by rw [guard_put hgd]; exact hgT1) d rfl
                rw [ev_put hyd, hevT1] at this
                simpa [Tm.put] using this
            · by_cases hi2 : cls i.op = 2
              · rcases hf1.2.2 hi2 with rfl | ⟨b, o, hb, rfl⟩
                · exact hv
                · exact aload_set hb hv
              · have hi01 : cls i.op ≤ 1 := by
                  have : cls i.op ≤ 4 := by cases i.op <;> simp [cls]
                  omega
                rw [hf1.2.1 hi01]
                exact hv
      · -- new memory
        have hx1 : ¬ cls x.op = 1 := by omega
        simp only [if_neg hx1] at h hmem hin ⊢
        have hi02 : cls i.op = 0 ∨ cls i.op = 2 := by
          rw [h2] at hcls
          split at hcls <;> simp_all
        have hi1 : ¬ cls i.op = 1 := by omega
        have hi3 : ¬ cls i.op = 3 := by omega
        simp only [if_neg hi1] at h hmem ⊢
        unfold AI.step at h
        rw [if_pos hg, step_mk2 h2] at h
        obtain ⟨d, hd, h⟩ := h
        obtain ⟨b0, hb0⟩ := hl.fresh
        have hback : ∀ (v : Value) (H1 : Hp), (∀ b, H1 b = none → crun P ord K pre R ((T.puto i.dst v).puto x.dst (d.1 b)) (H1.set b (.row true d.2.1 d.2.2.1 d.2.2.2))) →
            AI.step P (T.puto i.dst v) H1 x (fun T2 H2 => (cls x.op = 3 → ∀ r ∈ pre, ord r.1 nx = false → reread r.2 T2 H2) ∧ crun P ord K pre R T2 H2) := by
          intro v H1 hk
          unfold AI.step
          rw [if_pos (by rw [guard_puto s2]; exact hg), step_mk2 h2]
          exact ⟨d, by rw [mk2_puto (fun t ht => looks_tmps (s2 t ht))]; exact hd, fun b hb => ⟨fun h3 => absurd h3 hc3, hk b hb⟩⟩
        by_cases hgi : asGuard T i.guard = true
        · rcases hi02 with hi0 | hi2
          · have hval : ∀ b, H b = none → ∃ v, i.op.val T = some v ∧ crun P ord K pre R ((T.puto x.dst (d.1 b)).puto i.dst v) (H.set b (.row true d.2.1 d.2.2.1 d.2.2.2)) := by
              intro b hb
              obtain ⟨_, hs⟩ := h b hb
              rw [if_pos (by rw [guard_puto s1]; exact hgi), cls0_step hi0] at hs
              obtain ⟨v, hv, _, hk⟩ := hs
              rw [val_puto (fun t ht => looks_tmps (s1 t ht))] at hv
              exact ⟨v, hv, hk⟩
            obtain ⟨v, hv, _⟩ := hval b0 hb0
            unfold AI.step
            rw [if_pos hgi, cls0_step hi0]
            refine ⟨v, hv, fun h3 => absurd h3 hi3, ?_⟩
            rw [← AI.step]
            refine hback v H fun b hb => ?_
            obtain ⟨v', hv', hk⟩ := hval b hb
            rw [hv] at hv'
            simp only [Option.some.injEq] at hv'
            subst hv'
            rw [puto_comm2 _ _ _ s3]
            exact hk
          · have hmk : ∀ b, H b = none → ∃ e, mk2 T i.op = some e ∧ ∀ c, (H.set b (.row true d.2.1 d.2.2.1 d.2.2.2)) c = none →
                crun P ord K pre R ((T.puto x.dst (d.1 b)).puto i.dst (e.1 c)) ((H.set b (.row true d.2.1 d.2.2.1 d.2.2.2)).set c (.row true e.2.1 e.2.2.1 e.2.2.2)) := by
              intro b hb
              obtain ⟨_, hs⟩ := h b hb
              rw [if_pos (by rw [guard_puto s1]; exact hgi), step_mk2 hi2] at hs
              obtain ⟨e, he, hk⟩ := hs
              rw [mk2_puto (fun t ht => looks_tmps (s1 t ht))] at he
              exact ⟨e, he, fun c hc => (hk c hc).2⟩
            obtain ⟨e, he, _⟩ := hmk b0 hb0
            unfold AI.step
            rw [if_pos hgi, step_mk2 hi2]
            refine ⟨e, he, fun c hc => ⟨fun h3 => absurd h3 hi3, ?_⟩⟩
            rw [← AI.step]
            refine hback _ _ fun b hb => ?_
            have hne : b ≠ c := by intro e; rw [e, Hp.set_same] at hb; cases hb
            rw [Hp.set_other H _ hne] at hb
            obtain ⟨e', he', hk⟩ := hmk b hb
            rw [he] at he'
            simp only [Option.some.injEq] at he'
            subst he'
            rw [puto_comm2 _ _ _ s3, Hp.set_comm H _ _ (fun e => hne e.symm)]
            exact hk c (by rw [Hp.set_other H _ (fun e => hne e.symm)]; exact hc)
        · unfold AI.step
          rw [if_neg hgi]
          refine ⟨fun h3 => absurd h3 hi3, ?_⟩
          rw [← AI.step]
          refine hback undef H fun b hb => ?_
          obtain ⟨_, hs⟩ := h b hb
          rw [if_neg (by rw [guard_puto s1]; exact hgi)] at hs
          rw [puto_comm2 _ _ _ s3]
          exact hs.2
    · -- x's guard says no
      unfold AI.step at h
      rw [if_neg hg] at h
      obtain ⟨_, h⟩ := h
      rw [← AI.step, ai_step_puto s1 s3 hi4] at h
      have hfi := ai_step_frame hi4 h
      refine ai_step_mono hl hfi ?_
      rintro T1 H1 hl1 ⟨hf1, hO, hk⟩
      refine ⟨fun h3 r hr ho => ?_, ?_⟩
      · have := hO h3 r (hin r hr) ho
        rwa [reread_puto (hpre r hr).1] at this
      · unfold AI.step
        rw [if_neg (by rw [frame_guard hf1 s2]; exact hg)]
        exact ⟨fun h3 => absurd h3 hc3, crun_pre hl1 hmem hk⟩
end
end Go.Proofs.Ytonmmfjagkgifaa
