/- The abstract calculus, eleventh text: the drawn region. -/
import Derived.Test.YtonmmfjagkgifaaAbDraw3
set_option linter.unusedVariables false
set_option linter.unusedSimpArgs false
namespace Go.Proofs.Ytonmmfjagkgifaa
open Go.RowKit

/-! ### the order that stands for all -/
def predsOf (ops : Array Oper) (i : Nat) : List Nat := match ops[i]? with
  | some o => (o.after.toList.filter fun e => Region.binds .any e).map (·.on)
  | none => []
/-- Who comes ahead of whom, at the latest reckoning. -/
def ancRow (ops : Array Oper) (acc : List (List Nat)) (i : Nat) : List Nat := ((predsOf ops i).flatMap fun p => p :: acc.getD p []).eraseDups
def ancTab (ops : Array Oper) : Nat → List (List Nat)
  | 0 => []
  | n + 1 => ancTab ops n ++ [ancRow ops (ancTab ops n) n]
theorem ancTab_len (ops : Array Oper) (n : Nat) : (ancTab ops n).length = n := by
  induction n with
  | zero => rfl
  | succ n ih => simp [ancTab, ih]
theorem ancTab_get (ops : Array Oper) {n i : Nat} (h : i < n) : (ancTab ops n).getD i [] = ancRow ops (ancTab ops i) i := by
  induction n with
  | zero => omega
  | succ n ih =>
    simp only [ancTab, List.getD_eq_getElem?_getD]
    by_cases e : i = n
    · subst e
      rw [List.getElem?_append_right (by rw [ancTab_len]; exact Nat.le_refl _), ancTab_len]
      simp
    · rw [List.getElem?_append_left (by rw [ancTab_len]; omega)]
      have := ih (by omega)
      rwa [List.getD_eq_getElem?_getD] at this
def ordIn (tab : List (List Nat)) (x i : Nat) : Bool := (tab.getD i []).contains x

def Closed (ops : Array Oper) (L : Nat → Prop) : Prop := ∀ j, L j → ∀ p ∈ predsOf ops j, L p
theorem anc_listed {ops : Array Oper} {L : Nat → Prop} (hc : Closed ops L) : ∀ (n i : Nat), i < n → (∀ p ∈ predsOf ops i, L p) → ∀ x, ordIn (ancTab ops n) x i = true → L x := by
  intro n i
  induction i using Nat.strongRecOn generalizing n with
  | _ i ih =>
    intro hi hp x hx
    unfold ordIn at hx
    rw [ancTab_get ops hi] at hx
    simp only [ancRow, List.contains_iff_mem, List.mem_eraseDups, List.mem_flatMap, List.mem_cons] at hx
    obtain ⟨p, hpm, hx⟩ := hx
    rcases hx with rfl | hx
    · exact hp _ hpm
    · by_cases hpi : p < i
      · exact ih p hpi i hpi (hc p (hp p hpm)) x (by simpa [ordIn] using hx)
      · rw [List.getD_eq_getElem?_getD, List.getElem?_eq_none (by rw [ancTab_len]; omega)] at hx
        simp at hx

def canonPick (cl : Nat → Nat) (tab : List (List Nat)) (n : Nat) (done ready : List Nat) : Option Nat :=
  match ready.find? (fun i => cl i ≤ 1) with
  | some i => some i
  | none => match ready.find? (fun i => cl i == 3) with
    | some i => some i
    | none => match (List.range n).find? (fun i => cl i == 3 && !done.contains i) with
      | some w => match ready.find? (fun i => ordIn tab i w) with
        | some i => some i
        | none => ready.head?
      | none => ready.head?
def canon (ops : Array Oper) (cl : Nat → Nat) (tab : List (List Nat)) : Nat → List Nat → List Nat
  | 0, done => done.reverse
  | f + 1, done =>
    let ready := (List.range ops.size).filter fun i => !done.contains i && (predsOf ops i).all fun p => done.contains p
    match canonPick cl tab ops.size done ready with
    | some i => canon ops cl tab f (i :: done)
    | none => done.reverse

def pairsB (tab : List (List Nat)) : List NI → Bool
  | [] => true
  | x :: l => (l.all fun i => (x.1 != i.1) && (ordIn tab x.1 i.1 || pairOk x.2 i.2) && (cls x.2.op != 1 || quietB x.2 i.2)) && pairsB tab l
def predsB (ops : Array Oper) : List Nat → List NI → Bool
  | _, [] => true
  | seen, i :: l => ((predsOf ops i.1).all fun p => seen.contains p) && predsB ops (i.1 :: seen) l
def chkOf (pre : List NI) (tab : List (List Nat)) (i : NI) : List (Nat × Option (Nat × Bool) × Bool × Nat × Operand) :=
  pre.filterMap fun r => if ordIn tab r.1 i.1 then none else match r.2.op, r.2.dst with
    | .ld g s x, some d => some (d, r.2.guard, g, s, x)
    | _, _ => none
def emit (tab : List (List Nat)) : List NI → List NI → List AI
  | _, [] => []
  | pre, i :: l =>
    let rest := emit tab (if cls i.2.op = 1 then i :: pre else pre) l
    if cls i.2.op = 3 ∧ (chkOf pre tab i).isEmpty = false then i.2 :: ⟨none, none, .chk (chkOf pre tab i)⟩ :: rest else i.2 :: rest
def prepDraw (P : Program) (N : Nat) (ops : Array Oper) : Option (List AI) :=
  (prepText P N ops ops.toList).bind fun ais =>
    let tab := ancTab ops ops.size
    let C : List NI := (canon ops (fun i => match ais[i]? with | some a => cls a.op | none => 4) tab ops.size []).filterMap fun i => (ais[i]?).map fun a => (i, a)
    if pairsB tab C && predsB ops [] C && ((List.range ops.size).all fun j => (C.map (·.1)).contains j) && (C.length == ops.size) && P.follows .mixedOrders then some (emit tab [] C) else none

section
variable {P : Program} {H0 : Hp} {w0 : World} {N : Nat}

theorem emit_crun {tab : List (List Nat)} {K : Tm → Hp → Prop} : ∀ (C pre : List NI) (T : Tm) (H : Hp), Live H → arun P (emit tab pre C) T H K → crun P (ordIn tab) K pre C T H
  | [], pre, T, H, _, h => h
  | i :: C, pre, T, H, hl, h => by
    simp only [emit] at h
    split at h
    · rename_i hc
      refine ai_step_mono hl h fun T' H' hl' hk => ?_
      obtain ⟨hchk, hk⟩ := hk
      refine ⟨fun _ r hr ho => ?_, emit_crun C _ T' H' hl' hk⟩
      unfold reread
      split
      · rename_i g s x he
        intro hg d hd
        exact hchk (d, r.2.guard, g, s, x) (List.mem_filterMap.2 ⟨r, hr, by simp [ho, he, hd]⟩) hg
      · trivial
    · rename_i hc
      refine ai_step_mono hl h fun T' H' hl' hk => ⟨fun h3 r hr ho => ?_, emit_crun C _ T' H' hl' hk⟩
      have hemp : (chkOf pre tab i).isEmpty = true := by
        cases hh : (chkOf pre tab i).isEmpty with
        | true => rfl
        | false => exact absurd ⟨h3, hh⟩ hc
      unfold reread
      split
      · rename_i g s x he
        intro hg d hd
        have : (d, r.2.guard, g, s, x) ∈ chkOf pre tab i := List.mem_filterMap.2 ⟨r, hr, by simp [ho, he, hd]⟩
        rw [List.isEmpty_iff.1 hemp] at this
        cases this
      · trivial

def PairsOk (tab : List (List Nat)) (l : List NI) : Prop :=
  l.Pairwise fun x i => x.1 ≠ i.1 ∧ (ordIn tab x.1 i.1 = true ∨ pairOk x.2 i.2 = true) ∧ (cls x.2.op = 1 → quietB x.2 i.2 = true)
theorem pairsB_spec {tab : List (List Nat)} : ∀ {l : List NI}, pairsB tab l = true → PairsOk tab l
  | [], _ => List.Pairwise.nil
  | x :: l, h => by
    simp only [pairsB, Bool.and_eq_true, List.all_eq_true] at h
    refine List.Pairwise.cons (fun i hi => ?_) (pairsB_spec h.2)
    have := h.1 i hi
    simp only [bne_iff_ne, ne_eq, Bool.or_eq_true] at this
    refine ⟨this.1.1, this.1.2, fun h1 => ?_⟩
    rcases this.2 with h2 | h2
    · exact absurd h1 h2
    · exact h2

theorem crun_extract {ord : Nat → Nat → Bool} {K : Tm → Hp → Prop} {i : NI} {R : List NI} : ∀ (L pre : List NI) (T : Tm) (H : Hp), Live H →
    (∀ x ∈ L, pairOk x.2 i.2 = true ∧ ord x.1 i.1 = false) → (∀ r ∈ pre, ∀ x ∈ L ++ [i], quietB r.2 x.2 = true) → ((L ++ [i]).Pairwise fun x y => cls x.2.op = 1 → quietB x.2 y.2 = true) →
    crun P ord K pre (L ++ i :: R) T H → crun P ord K pre (i :: (L ++ R)) T H
  | [], pre, T, H, _, _, _, _, h => h
  | x :: L, pre, T, H, hl, hp, hq, hpw, h => by
    have hx := hp x (by simp)
    have hpw' := List.pairwise_cons.1 hpw
    refine crun_swap hl hx.1 hx.2 (fun r hr => ⟨hq r hr x (by simp), hq r hr i (by simp)⟩) ?_
    refine ai_step_mono hl h fun T' H' hl' hk => ⟨hk.1, ?_⟩
    refine crun_extract L _ T' H' hl' (fun y hy => hp y (by simp [hy])) ?_ hpw'.2 hk.2
    intro r hr y hy
    split at hr
    · rename_i h1
      rcases List.mem_cons.1 hr with rfl | hr
      · exact hpw'.1 y hy h1
      · exact hq r hr y (by simp at hy ⊢; exact .inr hy)
    · exact hq r hr y (by simp at hy ⊢; exact .inr hy)

theorem predsB_spec {ops : Array Oper} : ∀ (C : List NI) (seen : List Nat), predsB ops seen C = true → ∀ (A : List NI) (r : NI) (B : List NI), C = A ++ r :: B → ∀ p ∈ predsOf ops r.1, p ∈ A.map (·.1) ∨ p ∈ seen
  | [], seen, _, A, r, B, h, _, _ => by simp at h
  | c :: C, seen, hb, A, r, B, h, p, hp => by
    simp only [predsB, Bool.and_eq_true, List.all_eq_true] at hb
    cases A with
    | nil =>
      simp only [List.nil_append, List.cons.injEq] at h
      obtain ⟨rfl, rfl⟩ := h
      exact .inr (by simpa using hb.1 p hp)
    | cons a A =>
      simp only [List.cons_append, List.cons.injEq] at h
      obtain ⟨rfl, rfl⟩ := h
      rcases predsB_spec _ _ hb.2 A r B rfl p hp with h1 | h1
      · exact .inl (by simp only [List.map_cons, List.mem_cons]; exact .inr h1)
      · rcases List.mem_cons.1 h1 with rfl | h2
        · exact .inl (by simp)
        · exact .inr h2

theorem any_sound {ops : Array Oper} {Q : Exit → Act → World → Prop} {K : Tm → Hp → Prop} (hQ : ∀ a w, Goes H0 w0 N K a w → Q .normal a w) (C : List NI)
    (hpairs : PairsOk (ancTab ops ops.size) C) (hpreds : predsB ops [] C = true) (hlt : ∀ x ∈ C, x.1 < ops.size) (hprep : ∀ x ∈ C, ∃ o, ops[x.1]? = some o ∧ prepO P N ops o = some x.2) :
    ∀ (fuel : Nat) (R : List NI) (listed : Array Bool) (T : Tm) (H : Hp) (a : Act) (w : World), R.Sublist C → listed.size = ops.size →
      (∀ j, j < ops.size → (listed.getD j true = false ↔ ∃ b, (j, b) ∈ R)) → Closed ops (fun j => listed.getD j false = true) → R.length ≤ fuel →
      St H0 w0 N T H a w → crun P (ordIn (ancTab ops ops.size)) K [] R T H → wpAny P .any ops Q fuel listed a w := by
  intro fuel
  have gd : ∀ (l : Array Bool) (j : Nat), j < l.size → l.getD j true = l.getD j false := by
    intro l j h; simp [h]
  have headReady : ∀ (r : NI) (R : List NI) (listed : Array Bool), (r :: R).Sublist C → listed.size = ops.size → (∀ j, j < ops.size → (listed.getD j true = false ↔ ∃ b, (j, b) ∈ r :: R)) → Region.ready .any ops listed ≠ [] := by
    intro r R listed hs hsz hm he
    obtain ⟨r1, r2, hC, hr1, hB⟩ := List.cons_sublist_iff.1 hs
    obtain ⟨A, B1, rfl⟩ := List.append_of_mem hr1
    have hC' : C = A ++ r :: (B1 ++ r2) := by rw [hC]; simp
    have hrC : r ∈ C := by rw [hC']; simp
    obtain ⟨o, ho, _⟩ := hprep r hrC
    have hready : r.1 ∈ Region.ready .any ops listed := by
      rw [mem_ready]
      refine ⟨(hm r.1 (hlt r hrC)).2 ⟨r.2, by simp⟩, o, ho, fun e he hb => ?_⟩
      have hp : e.on ∈ predsOf ops r.1 := by
        unfold predsOf
        rw [ho]
        exact List.mem_map.2 ⟨e, List.mem_filter.2 ⟨by simpa using he, hb⟩, rfl⟩
      rcases predsB_spec C [] hpreds A r _ hC' e.on hp with h1 | h1
      · obtain ⟨q, hq, hqe⟩ := List.mem_map.1 h1
        have hqC : q ∈ C := by rw [hC']; simp [hq]
        have hql := hlt q hqC
        rw [← hqe]
        cases hl : listed.getD q.1 true with
        | true => rw [← gd listed q.1 (by omega)]; exact hl
        | false =>
          exfalso
          obtain ⟨b, hb'⟩ := (hm q.1 hql).1 hl
          rw [hC'] at hpairs
          have hcross := (List.pairwise_append.1 hpairs).2.2 q hq
          rcases List.mem_cons.1 hb' with h2 | h2
          · exact (hcross r (by simp)).1 (by rw [← h2])
          · exact (hcross (q.1, b) (by simp [hB.subset h2])).1 rfl
      · cases h1
    rw [he] at hready
    cases hready
  have doneCase : ∀ (R : List NI) (listed : Array Bool) (T : Tm) (H : Hp) (a : Act) (w : World), R.Sublist C → listed.size = ops.size →
      (∀ j, j < ops.size → (listed.getD j true = false ↔ ∃ b, (j, b) ∈ R)) → St H0 w0 N T H a w → crun P (ordIn (ancTab ops ops.size)) K [] R T H → Region.ready .any ops listed = [] → Q .normal a w := by
    intro R listed T H a w hs hsz hm st hk he
    cases R with
    | nil => exact hQ a w ⟨T, H, st, hk⟩
    | cons r R => exact absurd he (headReady r R listed hs hsz hm)
  induction fuel with
  | zero =>
    intro R listed T H a w hs hsz hm hcl hlen st hk
    have hR : R = [] := List.eq_nil_of_length_eq_zero (by omega)
    subst hR
    refine ⟨?_, hQ a w ⟨T, H, st, hk⟩⟩
    cases hr : Region.ready .any ops listed with
    | nil => rfl
    | cons i l =>
      exfalso
      have hi : i ∈ Region.ready .any ops listed := by rw [hr]; simp
      rw [mem_ready] at hi
      obtain ⟨h0, o, ho, _⟩ := hi
      have hilt : i < ops.size := (Array.getElem?_eq_some_iff.1 ho).1
      obtain ⟨b, hb⟩ := (hm i hilt).1 h0
      cases hb
  | succ fuel ih =>
    intro R listed T H a w hs hsz hm hcl hlen st hk
    refine ⟨doneCase R listed T H a w hs hsz hm st hk, fun i hi => ?_⟩
    have hi' := hi
    rw [mem_ready] at hi'
    obtain ⟨h0, o, ho, hall⟩ := hi'
    have hilt : i < ops.size := (Array.getElem?_eq_some_iff.1 ho).1
    have hpl : ∀ p ∈ predsOf ops i, listed.getD p false = true := by
      intro p hp
      unfold predsOf at hp
      rw [ho] at hp
      obtain ⟨e, he, rfl⟩ := List.mem_map.1 hp
      rw [List.mem_filter] at he
      exact hall e (by simpa using he.1) he.2
    obtain ⟨b, hb⟩ := (hm i hilt).1 h0
    obtain ⟨L, R2, rfl⟩ := List.append_of_mem hb
    have hpw : PairsOk (ancTab ops ops.size) (L ++ (i, b) :: R2) := hpairs.sublist hs
    have hLi := (List.pairwise_append.1 hpw).2.2
    have hnotord : ∀ x ∈ L, ordIn (ancTab ops ops.size) x.1 i = false := by
      intro x hx
      cases hord : ordIn (ancTab ops ops.size) x.1 i with
      | false => rfl
      | true =>
        exfalso
        have hl := anc_listed hcl ops.size i hilt hpl x.1 hord
        have hxlt : x.1 < ops.size := hlt x (hs.subset (by simp [hx]))
        have := (hm x.1 hxlt).2 ⟨x.2, by simp [hx]⟩
        rw [gd listed x.1 (by omega), hl] at this
        cases this
    have hex : ∀ x ∈ L, pairOk x.2 b = true ∧ ordIn (ancTab ops ops.size) x.1 i = false := by
      intro x hx
      refine ⟨?_, hnotord x hx⟩
      rcases (hLi x hx (i, b) (by simp)).2.1 with h1 | h1
      · rw [hnotord x hx] at h1; cases h1
      · exact h1
    have hlive : Live H := ⟨w, st.sat⟩
    have hqw : (L ++ [(i, b)]).Pairwise fun x y => cls x.2.op = 1 → quietB x.2 y.2 = true := by
      have : (L ++ [(i, b)]).Sublist (L ++ (i, b) :: R2) := by
        apply List.Sublist.append_left
        simp
      have hpw2 : PairsOk (ancTab ops ops.size) (L ++ [(i, b)]) := List.Pairwise.sublist this hpw
      unfold PairsOk at hpw2
      exact List.Pairwise.imp (fun h => h.2.2) hpw2
    have hk2 := crun_extract (P := P) (ord := ordIn (ancTab ops ops.size)) (K := K) (i := (i, b)) (R := R2) L [] T H hlive hex (by simp) hqw hk
    obtain ⟨o', ho', hpo⟩ := hprep (i, b) (hs.subset (by simp))
    simp only at ho'
    rw [ho] at ho'
    have hoo := Option.some.inj ho'
    subst hoo
    refine ai_sound ho hpo st hk2 ?_
    rintro a' w' ⟨T', H', st', _, hk'⟩
    have hidx : ∀ j c, (j, c) ∈ L ++ R2 → j ≠ i := by
      intro j c hjc e
      subst e
      rcases List.mem_append.1 hjc with h1 | h1
      · exact (hLi (j, c) h1 (j, b) (by simp)).1 rfl
      · have := (List.pairwise_append.1 hpw).2.1
        exact ((List.pairwise_cons.1 this).1 (j, c) h1).1 rfl
    refine ih (L ++ R2) _ T' H' a' w' ?_ (by simp [hsz]) ?_ ?_ ?_ st' (crun_pre ⟨w', st'.sat⟩ (by simp) hk')
    · refine List.Sublist.trans ?_ hs
      apply List.Sublist.append_left
      simp
    · intro j hj
      by_cases e : i = j
      · subst e
        constructor
        · intro h
          have : (listed.setIfInBounds i true).getD i true = true := by simp
          rw [this] at h
          cases h
        · rintro ⟨c, hc⟩
          exact absurd rfl (hidx i c hc)
      · rw [getD_set_ne true e, hm j hj]
        constructor
        · rintro ⟨c, hc⟩
          refine ⟨c, ?_⟩
          simp only [List.mem_append, List.mem_cons, Prod.mk.injEq] at hc ⊢
          rcases hc with h1 | h1 | h1
          · exact .inl h1
          · exact absurd h1.1.symm e
          · exact .inr h1
        · rintro ⟨c, hc⟩
          refine ⟨c, ?_⟩
          simp only [List.mem_append, List.mem_cons] at hc ⊢
          rcases hc with h1 | h1
          · exact .inl h1
          · exact .inr (.inr h1)
    · intro j hj p hp
      by_cases e : i = j
      · subst e; exact getD_set_true (hpl p hp)
      · rw [getD_set_ne false e] at hj
        exact getD_set_true (hcl j hj p hp)
    · simp only [List.length_append, List.length_cons] at hlen ⊢
      omega

theorem prepText_get : ∀ (ops : Array Oper) (os : List Oper) (l : List AI), prepText P N ops os = some l → l.length = os.length ∧ ∀ (j : Nat) (i : AI), l[j]? = some i → ∃ o, os[j]? = some o ∧ prepO P N ops o = some i
  | ops, [], l, h => by
    simp only [prepText, Option.some.injEq] at h
    subst h
    exact ⟨rfl, fun j i h => by simp at h⟩
  | ops, o :: os, l, h => by
    simp only [prepText, Option.bind_eq_some_iff, Option.map_eq_some_iff] at h
    obtain ⟨i0, hi0, l', hl', rfl⟩ := h
    obtain ⟨h1, h2⟩ := prepText_get ops os l' hl'
    refine ⟨by simp [h1], fun j i hj => ?_⟩
    cases j with
    | zero => simp only [List.getElem?_cons_zero, Option.some.injEq] at hj; subst hj; exact ⟨o, by simp, hi0⟩
    | succ j => simp only [List.getElem?_cons_succ] at hj ⊢; exact h2 j i hj

theorem draw_sound {ops : Array Oper} {id : Nat} {l : List AI} {T : Tm} {H : Hp} {a : Act} {w : World} {K : Tm → Hp → Prop} {Q : Exit → Act → World → Prop}
    (hp : prepDraw P N ops = some l) (st : St H0 w0 N T H a w) (hs : arun P l T H K) (hQ : ∀ a w, Goes H0 w0 N K a w → Q .normal a w) : (Code.region id ops true).wp P Q a w := by
  simp only [prepDraw, Option.bind_eq_some_iff] at hp
  obtain ⟨ais, hais, hp⟩ := hp
  split at hp
  case isFalse => cases hp
  rename_i hc
  simp only [Bool.and_eq_true, beq_iff_eq] at hc
  obtain ⟨⟨⟨⟨c1, c2⟩, c3⟩, c4⟩, c5⟩ := hc
  simp only [Option.some.injEq] at hp
  generalize hC : (canon ops (fun i => match ais[i]? with | some a => cls a.op | none => 4) (ancTab ops ops.size) ops.size []).filterMap (fun i => (ais[i]?).map fun a => (i, a)) = C at *
  subst hp
  obtain ⟨g1, g2⟩ := prepText_get ops ops.toList ais hais
  have hmemC : ∀ x ∈ C, ais[x.1]? = some x.2 := by
    intro x hx
    rw [← hC] at hx
    obtain ⟨i, _, hi⟩ := List.mem_filterMap.1 hx
    simp only [Option.map_eq_some_iff] at hi
    obtain ⟨b, hb, rfl⟩ := hi
    exact hb
  refine wp_region_any c5 ?_
  have st' : St H0 w0 N T H a { w with drawn := w.drawn + 1 } := ⟨st.fits, st.sat.drew, st.keeps.drew⟩
  refine any_sound hQ C (pairsB_spec c1) c2 ?_ ?_ ops.size C _ T H a _ (List.Sublist.refl _) (by simp) ?_ ?_ (by omega) st' (emit_crun C [] T H ⟨w, st.sat⟩ hs)
  · intro x hx
    have := (List.getElem?_eq_some_iff.1 (hmemC x hx)).1
    rw [g1] at this
    simpa using this
  · intro x hx
    obtain ⟨o, ho, hpo⟩ := g2 x.1 x.2 (hmemC x hx)
    exact ⟨o, by simpa using ho, hpo⟩
  · intro j hj
    constructor
    · intro _
      have := List.all_eq_true.1 c3 j (by simpa using hj)
      simp only [List.contains_iff_mem, List.mem_map] at this
      obtain ⟨x, hx, rfl⟩ := this
      exact ⟨x.2, hx⟩
    · intro _
      simp [hj]
  · intro j hj
    exfalso
    simp only [Array.getD_eq_getD_getElem?, Array.getElem?_replicate] at hj
    split at hj <;> simp at hj
end
end Go.Proofs.Ytonmmfjagkgifaa
