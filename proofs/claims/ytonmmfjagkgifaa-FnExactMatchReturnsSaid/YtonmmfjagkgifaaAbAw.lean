/- The abstract calculus, seventh text: code, and that what is said of it holds of the model. -/
import Derived.Test.YtonmmfjagkgifaaAbCode
set_option linter.unusedVariables false
set_option linter.unusedSimpArgs false
namespace Go.Proofs.Ytonmmfjagkgifaa
open Go.RowKit

/-- Code, operation by operation; each form bears what follows. -/
inductive AC where
  | nil
  | op (i : AI) (k : AC)
  | cond (c : Operand) (a b k : AC)
  | blk (id : Nat) (b k : AC)
  | loop (b : AC)
  | exit (id : Nat)
  | ret
inductive Ex where
  | norm
  | exit (id : Nat)
  | ret
def Ex.to : Ex → Exit
  | .norm => .normal
  | .exit id => .exit id
  | .ret => .ret

def aw (P : Program) : AC → Tm → Hp → (Ex → Tm → Hp → Prop) → Prop
  | .nil, T, H, Q => Q .norm T H
  | .op i k, T, H, Q => i.step P T H fun T' H' => aw P k T' H' Q
  | .cond c a b k, T, H, Q => ∃ t, ev T c = .bool t ∧
      (t = true → aw P a T H fun e T' H' => match e with
        | .norm => aw P k T' H' Q
        | e => Q e T' H') ∧
      (t = false → aw P b T H fun e T' H' => match e with
        | .norm => aw P k T' H' Q
        | e => Q e T' H')
  | .blk id b k, T, H, Q => aw P b T H fun e T' H' => match e with
      | .norm => aw P k T' H' Q
      | .exit id' => if id' = id then aw P k T' H' Q else Q (.exit id') T' H'
      | .ret => Q .ret T' H'
  | .loop b, T, H, Q => ∃ I : Nat → Tm → Hp → Prop, (∃ n H1, H1.sub H ∧ I n T H1) ∧
      ∀ n T H, I n T H → aw P b T H fun e T' H' => match e with
        | .norm => ∃ n' H2, n' < n ∧ H2.sub H' ∧ I n' T' H2
        | e => Q e T' H'
  | .exit id, T, H, Q => Q (.exit id) T H
  | .ret, T, H, Q => Q .ret T H

/-- A region that is carried out in its text's order. -/
def prepText (P : Program) (N : Nat) (ops : Array Oper) : List Oper → Option (List AI)
  | [] => some []
  | o :: os => (prepO P N ops o).bind fun i => (prepText P N ops os).map fun l => i :: l
def opsK (k : AC) : List AI → AC
  | [] => k
  | i :: l => .op i (opsK k l)

section
variable {P : Program} {H0 : Hp} {w0 : World} {N : Nat}

def arun (P : Program) : List AI → Tm → Hp → (Tm → Hp → Prop) → Prop
  | [], T, H, K => K T H
  | i :: l, T, H, K => i.step P T H fun T' H' => arun P l T' H' K
theorem aw_opsK (k : AC) (Q : Ex → Tm → Hp → Prop) : ∀ (l : List AI) (T : Tm) (H : Hp), aw P (opsK k l) T H Q = arun P l T H (fun T' H' => aw P k T' H' Q)
  | [], T, H => rfl
  | i :: l, T, H => by
    show i.step P T H (fun T' H' => aw P (opsK k l) T' H' Q) = i.step P T H (fun T' H' => arun P l T' H' (fun T' H' => aw P k T' H' Q))
    congr 1
    funext T' H'
    exact aw_opsK k Q l T' H'

theorem ai_sound {o : Oper} {ops : Array Oper} {i : AI} {T : Tm} {H : Hp} {a : Act} {w : World} {K : Tm → Hp → Prop} {Q : Exit → Act → World → Prop} {n : Nat}
    (hn : ops[n]? = some o) (hp : prepO P N ops o = some i) (st : St H0 w0 N T H a w) (hs : i.step P T H K) {J : Act → World → Prop} (hJ : ∀ a w, Goes H0 w0 N K a w → J a w) : wpOp P ops Q n J a w := by
  simp only [prepO, Option.bind_eq_some_iff] at hp
  obtain ⟨g, hg, op, hop, hp⟩ := hp
  split at hp
  · rename_i hd
    simp only [Option.some.injEq] at hp
    subst hp
    have hgd := guard_sound hg st.fits
    unfold wpOp
    simp only [hn, hgd]
    unfold AI.step at hs
    simp only at hs
    by_cases hgt : asGuard T g = true
    · rw [if_pos hgt] at hs
      rw [if_pos hgt]
      exact .inl (Oper.wp_mono hJ (op_sound (ops := ops) hop hd st hs))
    · rw [if_neg hgt] at hs
      rw [if_neg hgt]
      exact hJ _ _ ⟨_, H, ⟨st.fits.put (fun t ht => by rw [ht] at hd; simpa [dstOk] using hd) undef, st.sat, st.keeps⟩, hs⟩
  · cases hp

theorem text_sound {ops : Array Oper} {Q : Exit → Act → World → Prop} {K : Tm → Hp → Prop} (hQ : ∀ a w, Goes H0 w0 N K a w → Q .normal a w) :
    ∀ (os : List Oper) (k : Nat) (l : List AI) (T : Tm) (H : Hp) (a : Act) (w : World), (∀ j o, os[j]? = some o → ops[k + j]? = some o) → prepText P N ops os = some l →
      St H0 w0 N T H a w → arun P l T H K → wpOps P ops Q (List.range' k os.length) a w
  | [], k, l, T, H, a, w, ho, hp, st, hs => by
    simp only [prepText, Option.some.injEq] at hp
    subst hp
    exact hQ a w ⟨T, H, st, hs⟩
  | o :: os, k, l, T, H, a, w, ho, hp, st, hs => by
    simp only [prepText, Option.bind_eq_some_iff, Option.map_eq_some_iff] at hp
    obtain ⟨i, hi, l', hl, rfl⟩ := hp
    rw [List.length_cons, List.range'_succ, wpOps_cons]
    refine ai_sound (ho 0 o (by simp)) hi st hs ?_
    rintro a' w' ⟨T', H', st', hs'⟩
    exact text_sound hQ os (k + 1) l' T' H' a' w' (fun j o' hj => by have := ho (j + 1) o' (by simpa using hj); rwa [show k + 1 + j = k + (j + 1) from by omega]) hl st' hs'

/-- What code ends in, in the model's words. -/
def Ends (H0 : Hp) (w0 : World) (N : Nat) (Q : Ex → Tm → Hp → Prop) (e : Exit) (a : Act) (w : World) : Prop :=
  ∃ e' T H, e = Ex.to e' ∧ St H0 w0 N T H a w ∧ Q e' T H

theorem region_sound {ops : Array Oper} {id : Nat} {l : List AI} {T : Tm} {H : Hp} {a : Act} {w : World} {K : Tm → Hp → Prop} {Q : Exit → Act → World → Prop}
    (hp : prepText P N ops ops.toList = some l) (st : St H0 w0 N T H a w) (hs : arun P l T H K) (hQ : ∀ a w, Goes H0 w0 N K a w → Q .normal a w) : (Code.region id ops false).wp P Q a w := by
  refine wp_region ?_
  have := text_sound (P := P) (ops := ops) hQ ops.toList 0 l T H a w (fun j o hj => by simpa using hj) hp st hs
  rwa [← List.range_eq_range', Array.length_toList] at this

end
end Go.Proofs.Ytonmmfjagkgifaa
