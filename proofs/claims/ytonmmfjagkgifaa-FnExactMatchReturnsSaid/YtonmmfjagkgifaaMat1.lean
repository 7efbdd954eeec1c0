/- Plain: which orders and returns are valid, the program's and the reference's. -/
import Derived.Test.YtonmmfjagkgifaaPl2
set_option linter.unusedVariables false
set_option linter.unusedSimpArgs false
namespace Go.Proofs.Ytonmmfjagkgifaa

theorem ok_within {n lo hi : Int} {Q : Bool → Prop} (h : Q (within n lo hi)) : w_impl_within n lo hi Q := h
theorem ok_l00In {n lo hi : Int} {Q : Bool → Prop} (h : Q (within n lo hi)) : w_spec_l00In n lo hi Q := h
theorem ok_unless {b : Bool} {n : Int} {Q : Int → Prop} (h : Q (if b then 0 else n)) : w_impl_unless b n Q := by
  cases b
  · exact ⟨fun e => by simp at e, fun _ => h⟩
  · exact ⟨fun _ => h, fun e => by simp at e⟩
def retOk (r : S_Return) : Bool := within (IntKind.i64.wrap r.fBuyer) 0 8 && within (IntKind.i64.wrap r.fItem) 0 11 && within (IntKind.i64.wrap r.fNumber) 1 100 && within (IntKind.i64.wrap r.fDay) 0 1000
def ordOk (o : S_Order) : Bool := retOk ⟨o.fBuyer, o.fItem, o.fNumber, o.fDay⟩ && within (IntKind.i64.wrap o.fPrice) 0 10000
theorem ok_isReturn {r : S_Return} {Q : Bool → Prop} (h : Q (retOk r)) : w_impl_isReturn r Q := by
  refine ⟨fun x => x = (within (IntKind.i64.wrap r.fBuyer) 0 8 && within (IntKind.i64.wrap r.fItem) 0 11), ?_, fun e => ?_, fun e => ?_⟩
  · rintro x rfl
    refine ⟨fun x => x = (within (IntKind.i64.wrap r.fBuyer) 0 8 && within (IntKind.i64.wrap r.fItem) 0 11 && within (IntKind.i64.wrap r.fNumber) 1 100), ?_, fun e => ?_, fun e => ?_⟩
    · rintro x rfl
      refine ⟨fun x => x = retOk r, ?_, fun e => ?_, fun e => ?_⟩
      · rintro x rfl; exact h
      · exact ok_within (by simp only [retOk, e, Bool.true_and])
      · simp only [retOk, e, Bool.false_and]
    · exact ok_within (by simp only [e, Bool.true_and])
    · simp only [e, Bool.false_and]
  · exact ok_within (by rw [show within (IntKind.i64.wrap r.fBuyer) 0 8 = true from e]; simp)
  · show false = _
    rw [show within (IntKind.i64.wrap r.fBuyer) 0 8 = false from e]; simp
theorem ok_ValidOrders_1 {o : S_Order} {Q : Bool → Prop} (h : Q (!ordOk o)) : w_impl_ValidOrders_1 o Q := by
  refine ok_isReturn ⟨Q, fun _ h => h, fun e => ?_, fun e => ?_⟩
  · refine ok_within ?_
    simp only [Bool.not_eq_false'] at e
    simpa only [ordOk, e, Bool.true_and] using h
  · simp only [Bool.not_eq_true'] at e
    simpa only [ordOk, e, Bool.false_and, Bool.not_false] using h
theorem ok_ValidReturns_1 {r : S_Return} {Q : Bool → Prop} (h : Q (!retOk r)) : w_impl_ValidReturns_1 r Q := ok_isReturn h
theorem not_any_not {α : Type} (p : α → Bool) (xs : List α) : (!xs.any fun x => !p x) = xs.all p := by simp [List.all_eq_not_any_not]
theorem ok_ValidOrders {xs : List S_Order} {Q : Bool → Prop} (h : Q (decide (xs.length ≤ 40) && xs.all ordOk)) : w_impl_ValidOrders xs Q := by
  intro hl
  have e0 : decide ((xs.length : Int) ≤ 40) = decide (xs.length ≤ 40) := decide_eq_decide.2 (by omega)
  rw [e0]
  refine ⟨Q, fun _ h => h, fun e => ⟨fun o => !ordOk o, fun o ho Q' hq => ok_ValidOrders_1 hq, ?_⟩, fun e => ?_⟩
  · show Q (!xs.any fun o => !ordOk o)
    rw [not_any_not]
    rwa [e, Bool.true_and] at h
  · rwa [e, Bool.false_and] at h
theorem ok_ValidReturns {xs : List S_Return} {Q : Bool → Prop} (h : Q (decide (xs.length ≤ 40) && xs.all retOk)) : w_impl_ValidReturns xs Q := by
  intro hl
  have e0 : decide ((xs.length : Int) ≤ 40) = decide (xs.length ≤ 40) := decide_eq_decide.2 (by omega)
  rw [e0]
  refine ⟨Q, fun _ h => h, fun e => ⟨fun o => !retOk o, fun o ho Q' hq => ok_ValidReturns_1 hq, ?_⟩, fun e => ?_⟩
  · show Q (!xs.any fun o => !retOk o)
    rw [not_any_not]
    rwa [e, Bool.true_and] at h
  · rwa [e, Bool.false_and] at h
def vO (xs : List S_Order) : Bool := decide (xs.length ≤ 40) && xs.all ordOk
def vR (xs : List S_Return) : Bool := decide (xs.length ≤ 40) && xs.all retOk
def code06 (os : List S_Order) (rs : List S_Return) (fine : Bool) : Int := if vO os && vR rs then (if fine then 0 else 2) else 1
theorem ok_daysCode {os : List S_Order} {rs : List S_Return} {days : Int} {Q : Int → Prop} (h : Q (code06 os rs (within days 0 1000))) : w_impl_daysCode os rs days Q := by
  intro hl1 hl2
  refine ok_ValidOrders ⟨fun x => x = !(vO os && vR rs), ?_, fun e => ok_ValidReturns ?_, fun e => ?_⟩
  · rintro x rfl
    refine ⟨fun e => ?_, fun e => ok_within (ok_unless ?_)⟩
    · simp only [Bool.not_eq_true'] at e
      simpa [code06, e] using h
    · simp only [Bool.not_eq_false'] at e
      simpa [code06, e] using h
  · simp only [Bool.not_eq_false'] at e
    show (!vR rs) = _
    rw [show vO os = true from e, Bool.true_and]
  · simp only [Bool.not_eq_true'] at e
    rw [show vO os = false from e]; rfl
/-! ### the reference -/
theorem ok_l06Known {b i : Int} {Q : Bool → Prop} (h : Q (within b 0 8 && within i 0 11)) : w_spec_l06Known b i Q := by
  refine ok_l00In ⟨Q, fun _ h => h, fun e => ok_l00In ?_, fun e => ?_⟩
  · rwa [e, Bool.true_and] at h
  · rwa [e, Bool.false_and] at h
theorem all_succ {α : Type} [Inhabited α] {p : α → Bool} {xs : List α} {i : Nat} (hi : i < xs.length) (h : (xs.take i).all p = true) (hx : p xs[i] = true) : (xs.take (i + 1)).all p = true := by
  rw [List.take_succ_eq_append_getElem hi, List.all_append, h]; simp [hx]
theorem all_not {α : Type} {p : α → Bool} {xs : List α} {i : Nat} (hi : i < xs.length) (hx : p xs[i] = false) : xs.all p = false := by
  rw [List.all_eq_false]; exact ⟨xs[i], by simp, by simp [hx]⟩
theorem ok_l06Orders {xs : List S_Order} {Q : Bool → Prop} (h : Q (vO xs)) : w_spec_l06Orders xs Q := by
  intro hl
  refine ⟨fun m x => ∃ i : Nat, x = i ∧ i ≤ xs.length ∧ m = xs.length - i ∧ (xs.take i).all ordOk = true, ⟨_, 0, rfl, by omega, rfl, by simp⟩, ?_⟩
  rintro m x ⟨i, rfl, hi, rfl, hall⟩
  constructor
  · intro e
    rw [dec_lt] at e
    refine ⟨in_nat e, ok_l06Known ?_⟩
    rw [gt_nat e]
    refine ⟨fun x => x = !(within (IntKind.i64.wrap xs[i].fBuyer) 0 8 && within (IntKind.i64.wrap xs[i].fItem) 0 11 && within (IntKind.i64.wrap xs[i].fNumber) 1 100), ?_, fun e1 => ok_l00In ?_, fun e1 => ?_⟩
    · rintro x rfl
      refine ⟨fun x => x = !(within (IntKind.i64.wrap xs[i].fBuyer) 0 8 && within (IntKind.i64.wrap xs[i].fItem) 0 11 && within (IntKind.i64.wrap xs[i].fNumber) 1 100 && within (IntKind.i64.wrap xs[i].fPrice) 0 10000), ?_, fun e1 => ok_l00In ?_, fun e1 => ?_⟩
      · rintro x rfl
        refine ⟨fun x => x = !ordOk xs[i], ?_, fun e1 => ok_l00In ?_, fun e1 => ?_⟩
        · rintro x rfl
          refine ⟨fun e2 => ?_, fun e2 => ?_⟩
          · simp only [Bool.not_eq_true'] at e2
            rw [vO, all_not e e2, Bool.and_false] at h
            exact h
          · simp only [Bool.not_eq_false'] at e2
            exact ⟨xs.length - (i + 1), by omega, i + 1, w64_succ (by omega), by omega, rfl, all_succ e hall e2⟩
        · simp only [Bool.not_eq_false'] at e1
          simp only [Bool.and_eq_true] at e1
          simp [ordOk, retOk, e1]
        · simp only [Bool.not_eq_true'] at e1
          show true = _
          have : ordOk xs[i] = false := by
            cases hh : ordOk xs[i] with
            | false => rfl
            | true =>
              simp only [ordOk, retOk, Bool.and_eq_true] at hh
              simp [hh] at e1
          rw [this]; rfl
      · simp only [Bool.not_eq_false'] at e1
        rw [e1]; simp
      · simp only [Bool.not_eq_true'] at e1
        rw [e1]; simp
    · simp only [Bool.not_eq_false'] at e1
      rw [e1]; simp
    · simp only [Bool.not_eq_true'] at e1
      rw [e1]; simp
  · intro e
    rw [dec_nlt] at e
    have hia : i = xs.length := by omega
    subst hia
    rw [List.take_length] at hall
    rw [vO, hall, Bool.and_true] at h
    rwa [show decide ((xs.length : Int) ≤ 40) = decide (xs.length ≤ 40) from decide_eq_decide.2 (by omega)]
theorem ok_l06Returns {xs : List S_Return} {Q : Bool → Prop} (h : Q (vR xs)) : w_spec_l06Returns xs Q := by
  intro hl
  refine ⟨fun m x => ∃ i : Nat, x = i ∧ i ≤ xs.length ∧ m = xs.length - i ∧ (xs.take i).all retOk = true, ⟨_, 0, rfl, by omega, rfl, by simp⟩, ?_⟩
  rintro m x ⟨i, rfl, hi, rfl, hall⟩
  constructor
  · intro e
    rw [dec_lt] at e
    refine ⟨in_nat e, ok_l06Known ?_⟩
    rw [gt_nat e]
    refine ⟨fun x => x = !(within (IntKind.i64.wrap xs[i].fBuyer) 0 8 && within (IntKind.i64.wrap xs[i].fItem) 0 11 && within (IntKind.i64.wrap xs[i].fNumber) 1 100), ?_, fun e1 => ok_l00In ?_, fun e1 => ?_⟩
    · rintro x rfl
      refine ⟨fun x => x = !retOk xs[i], ?_, fun e1 => ok_l00In ?_, fun e1 => ?_⟩
      · rintro x rfl
        refine ⟨fun e2 => ?_, fun e2 => ?_⟩
        · simp only [Bool.not_eq_true'] at e2
          rw [vR, all_not e e2, Bool.and_false] at h
          exact h
        · simp only [Bool.not_eq_false'] at e2
          exact ⟨xs.length - (i + 1), by omega, i + 1, w64_succ (by omega), by omega, rfl, all_succ e hall e2⟩
      · simp only [Bool.not_eq_false'] at e1
        simp only [Bool.and_eq_true] at e1
        simp [retOk, e1]
      · simp only [Bool.not_eq_true'] at e1
        rw [retOk, e1]; rfl
    · simp only [Bool.not_eq_false'] at e1
      rw [e1]; simp
    · simp only [Bool.not_eq_true'] at e1
      rw [e1]; simp
  · intro e
    rw [dec_nlt] at e
    have hia : i = xs.length := by omega
    subst hia
    rw [List.take_length] at hall
    rw [vR, hall, Bool.and_true] at h
    rwa [show decide ((xs.length : Int) ≤ 40) = decide (xs.length ≤ 40) from decide_eq_decide.2 (by omega)]
theorem ok_l06Asked {os : List S_Order} {rs : List S_Return} {fine : Bool} {Q : Int → Prop} (h : Q (code06 os rs fine)) : w_spec_l06Asked os rs fine Q := by
  intro hl1 hl2
  refine ok_l06Orders ⟨fun x => x = !(vO os && vR rs), ?_, fun e => ok_l06Returns ?_, fun e => ?_⟩
  · rintro x rfl
    refine ⟨fun e => ?_, fun e => ?_⟩
    · simp only [Bool.not_eq_true'] at e
      simpa [code06, e] using h
    · simp only [Bool.not_eq_false'] at e
      cases fine <;> simpa [code06, e] using h
  · simp only [Bool.not_eq_false'] at e
    rw [e, Bool.true_and]
  · simp only [Bool.not_eq_true'] at e
    rw [e]; rfl
end Go.Proofs.Ytonmmfjagkgifaa
