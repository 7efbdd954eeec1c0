/- Plain: what the laws do with orders, returns and matches. -/
import Derived.Test.YtonmmfjagkgifaaPl1
import Derived.Test.YtonmmfjagkgifaaGW4
set_option linter.unusedVariables false
set_option linter.unusedSimpArgs false
namespace Go.Proofs.Ytonmmfjagkgifaa
/-- What a mark writes. -/
def markInt64 (k : Int) : Int := k
def marksInt64 (k : Int) (n : Nat) : List Int := (List.range n).map fun (j : Nat) => markInt64 (k + 1 * (j : Int))
theorem marksInt64_len (k : Int) (n : Nat) : (marksInt64 k n).length = n := by simp [marksInt64]
theorem ok_eqInt64S {a : List Int} {Q : Bool → Prop} (h : Q true) : w_laws_eqInt64S a a Q := by
  intro hl _
  refine ⟨fun e => by simp at e, fun _ => ⟨fun m x => ∃ i : Nat, x = i ∧ i ≤ a.length ∧ m = a.length - i, ⟨_, 0, rfl, by omega, rfl⟩, ?_⟩⟩
  rintro m x ⟨i, rfl, hi, rfl⟩
  refine ⟨fun e => ?_, fun _ => h⟩
  rw [dec_lt] at e
  refine ⟨in_nat e, in_nat e, ⟨fun e' => by simp at e', fun _ => ⟨a.length - (i + 1), by omega, i + 1, w64_succ (by omega), by omega, rfl⟩⟩⟩
theorem ok_markInt64S {a : List Int} {k : Int} (h0 : 0 ≤ k) (h1 : k ≤ 4611686018427387904) (hfew : a.length ≤ 1152921504606846) {Q : Int → List Int → Prop} (h : Q (k + 1 * a.length) (marksInt64 k a.length)) : w_laws_markInt64S a k Q := by
  refine ⟨fun m x y xs => ∃ i : Nat, x = k + 1 * (i : Int) ∧ y = i ∧ i ≤ a.length ∧ m = a.length - i ∧ xs = (List.range a.length).map fun j => if j < i then markInt64 (k + 1 * (j : Int)) else a.getD j default, ⟨_, 0, by simp, rfl, by omega, rfl, by simpa using (map_range_get a).symm⟩, ?_⟩
  rintro m x y xs ⟨i, rfl, rfl, hi, rfl, hxs⟩
  have hlen : xs.length = a.length := by rw [hxs]; simp
  rw [hlen]
  constructor
  · intro e
    rw [dec_lt] at e
    have e0 : IntKind.i64.wrap (k + 1 * (i : Int) + 1) = k + 1 * (i : Int) + 1 := w64_id (by omega) (by omega)
    simp only [e0]
    refine ⟨in_nat (e), ?_⟩
    rintro y0 hy0
    have hl0 : y0.length = a.length := by rw [hy0]; simp [hlen]
    refine ⟨a.length - (i + 1), by omega, i + 1, by omega, w64_succ (by omega), by omega, by omega, ?_⟩
    rw [Int.toNat_natCast] at hy0
    rw [hy0, hxs]
    exact set_next e rfl
  · intro e
    rw [dec_nlt] at e
    have hia : i = a.length := by omega
    subst hia
    have : xs = marksInt64 k a.length := by
      rw [hxs]
      apply List.map_congr_left
      intro j hj
      rw [if_pos (by simpa using hj)]
    rw [this]
    exact h
theorem ok_heldInt64S {k : Int} {n : Nat} (h0 : 0 ≤ k) (h1 : k ≤ 4611686018427387904) (hfew : n ≤ 1152921504606846) {Q : Int → Prop} (h : Q (k + 1 * n)) : w_laws_heldInt64S (marksInt64 k n) k Q := by
  intro hl
  refine ⟨fun m x y => ∃ i : Nat, x = k + 1 * (i : Int) ∧ y = i ∧ i ≤ n ∧ m = n - i, ⟨_, 0, by simp, rfl, by omega, rfl⟩, ?_⟩
  rintro m x y ⟨i, rfl, rfl, hi, rfl⟩
  rw [marksInt64_len]
  constructor
  · intro e
    rw [dec_lt] at e
    have e0 : IntKind.i64.wrap (k + 1 * (i : Int) + 1) = k + 1 * (i : Int) + 1 := w64_id (by omega) (by omega)
    simp only [e0, marksInt64]
    simp only [marksInt64_len, gt_map e, markInt64, List.length_map, List.length_range, decide_true, Bool.not_true, Bool.false_eq_true, false_implies, true_implies, true_and, in_nat e]
    exact ⟨n - (i + 1), by omega, i + 1, by omega, w64_succ (by omega), by omega, rfl⟩
  · intro e
    rw [dec_nlt] at e
    have hia : i = n := by omega
    subst hia
    exact h
/-- What a mark writes. -/
def markOrder (k : Int) : S_Order := ⟨IntKind.i8.wrap k, IntKind.i8.wrap (k + 1), IntKind.i16.wrap (k + 1 + 1), IntKind.i16.wrap (k + 1 + 1 + 1), IntKind.i16.wrap (k + 1 + 1 + 1 + 1)⟩
def marksOrder (k : Int) (n : Nat) : List S_Order := (List.range n).map fun (j : Nat) => markOrder (k + 5 * (j : Int))
theorem marksOrder_len (k : Int) (n : Nat) : (marksOrder k n).length = n := by simp [marksOrder]
theorem ok_szOrderS {a : List S_Order} {left : Int} (h0 : 0 ≤ left) (h1 : left ≤ 1048576) {Q : Int → Prop} (h : Q (if left - a.length < 0 then -1 else left - a.length)) : w_laws_szOrderS a left Q := by
  intro hl
  rw [w64_id (by omega) (by omega)]
  constructor
  · intro e; rw [if_pos (by simpa using e)] at h; exact h
  · intro e; rw [if_neg (by simpa using e)] at h; exact h
theorem ok_toOrderS {a : List S_Order} (hfew : a.length ≤ 1048576) {Q : List S_Order → Prop} (h : Q a) : w_laws_toOrderS a Q := by
  intro hl
  refine ⟨by omega, by omega, fun m x xs => ∃ i : Nat, x = i ∧ i ≤ a.length ∧ m = a.length - i ∧ xs = (List.range a.length).map fun j => if j < i then a.getD j default else ⟨0, 0, 0, 0, 0⟩, ⟨_, 0, rfl, by omega, rfl, ?_⟩, ?_⟩
  · apply List.ext_getElem?
    intro j
    by_cases hj : j < a.length <;> simp [hj]
  · rintro m x xs ⟨i, rfl, hi, rfl, rfl⟩
    constructor
    · intro e
      rw [dec_lt] at e
      refine ⟨in_nat e, ?_⟩
      show _ ∧ _
      refine ⟨in_nat (by simpa using e), ?_⟩
      rintro ys rfl
      refine ⟨a.length - (i + 1), by omega, i + 1, w64_succ (by omega), by omega, rfl, ?_⟩
      rw [Int.toNat_natCast]
      exact set_next e (by rw [gt_nat e]; simp [List.getD_eq_getElem?_getD, e])
    · intro e
      rw [dec_nlt] at e
      have hia : i = a.length := by omega
      subst hia
      have : ((List.range a.length).map fun j => if j < a.length then a.getD j default else (⟨0, 0, 0, 0, 0⟩ : S_Order)) = a := by
        conv => rhs; rw [← map_range_get a]
        apply List.map_congr_left
        intro j hj
        rw [if_pos (by simpa using hj)]
      rw [this]
      exact h
theorem ok_eqOrder {a : S_Order} {Q : Bool → Prop} (h : Q true) : w_laws_eqOrder a a Q := by
  simp only [w_laws_eqOrder, decide_true, Bool.not_true, Bool.false_eq_true, false_implies, true_implies, true_and]
  exact h
theorem ok_eqOrderS {a : List S_Order} {Q : Bool → Prop} (h : Q true) : w_laws_eqOrderS a a Q := by
  intro hl _
  refine ⟨fun e => by simp at e, fun _ => ⟨fun m x => ∃ i : Nat, x = i ∧ i ≤ a.length ∧ m = a.length - i, ⟨_, 0, rfl, by omega, rfl⟩, ?_⟩⟩
  rintro m x ⟨i, rfl, hi, rfl⟩
  refine ⟨fun e => ?_, fun _ => h⟩
  rw [dec_lt] at e
  refine ⟨in_nat e, in_nat e, ok_eqOrder ⟨fun e' => by simp at e', fun _ => ⟨a.length - (i + 1), by omega, i + 1, w64_succ (by omega), by omega, rfl⟩⟩⟩
theorem ok_markOrderS {a : List S_Order} {k : Int} (h0 : 0 ≤ k) (h1 : k ≤ 4611686018427387904) (hfew : a.length ≤ 1152921504606846) {Q : Int → List S_Order → Prop} (h : Q (k + 5 * a.length) (marksOrder k a.length)) : w_laws_markOrderS a k Q := by
  refine ⟨fun m x y xs => ∃ i : Nat, x = k + 5 * (i : Int) ∧ y = i ∧ i ≤ a.length ∧ m = a.length - i ∧ xs = (List.range a.length).map fun j => if j < i then markOrder (k + 5 * (j : Int)) else a.getD j default, ⟨_, 0, by simp, rfl, by omega, rfl, by simpa using (map_range_get a).symm⟩, ?_⟩
  rintro m x y xs ⟨i, rfl, rfl, hi, rfl, hxs⟩
  have hlen : xs.length = a.length := by rw [hxs]; simp
  rw [hlen]
  constructor
  · intro e
    rw [dec_lt] at e
    have e0 : IntKind.i64.wrap (k + 5 * (i : Int) + 1) = k + 5 * (i : Int) + 1 := w64_id (by omega) (by omega)
    have e1 : IntKind.i64.wrap (k + 5 * (i : Int) + 1 + 1) = k + 5 * (i : Int) + 1 + 1 := w64_id (by omega) (by omega)
    have e2 : IntKind.i64.wrap (k + 5 * (i : Int) + 1 + 1 + 1) = k + 5 * (i : Int) + 1 + 1 + 1 := w64_id (by omega) (by omega)
    have e3 : IntKind.i64.wrap (k + 5 * (i : Int) + 1 + 1 + 1 + 1) = k + 5 * (i : Int) + 1 + 1 + 1 + 1 := w64_id (by omega) (by omega)
    have e4 : IntKind.i64.wrap (k + 5 * (i : Int) + 1 + 1 + 1 + 1 + 1) = k + 5 * (i : Int) + 1 + 1 + 1 + 1 + 1 := w64_id (by omega) (by omega)
    simp only [e0, e1, e2, e3, e4]
    refine ⟨in_nat (e), ?_⟩
    rintro y0 hy0
    have hl0 : y0.length = a.length := by rw [hy0]; simp [hlen]
    refine ⟨in_nat (by rw [hl0]; exact e), ?_⟩
    rintro y1 hy1
    have hl1 : y1.length = a.length := by rw [hy1]; simp [hl0]
    refine ⟨in_nat (by rw [hl1]; exact e), ?_⟩
    rintro y2 hy2
    have hl2 : y2.length = a.length := by rw [hy2]; simp [hl1]
    refine ⟨in_nat (by rw [hl2]; exact e), ?_⟩
    rintro y3 hy3
    have hl3 : y3.length = a.length := by rw [hy3]; simp [hl2]
    refine ⟨in_nat (by rw [hl3]; exact e), ?_⟩
    rintro y4 hy4
    have hl4 : y4.length = a.length := by rw [hy4]; simp [hl3]
    refine ⟨a.length - (i + 1), by omega, i + 1, by omega, w64_succ (by omega), by omega, by omega, ?_⟩
    rw [Int.toNat_natCast] at hy0
    rw [Int.toNat_natCast] at hy1
    rw [Int.toNat_natCast] at hy2
    rw [Int.toNat_natCast] at hy3
    rw [Int.toNat_natCast] at hy4
    rw [hy0, gt_set_self (by rw [hlen]; exact e), List.set_set] at hy1
    rw [hy1, gt_set_self (by rw [hlen]; exact e), List.set_set] at hy2
    rw [hy2, gt_set_self (by rw [hlen]; exact e), List.set_set] at hy3
    rw [hy3, gt_set_self (by rw [hlen]; exact e), List.set_set] at hy4
    rw [hy4, hxs]
    exact set_next e rfl
  · intro e
    rw [dec_nlt] at e
    have hia : i = a.length := by omega
    subst hia
    have : xs = marksOrder k a.length := by
      rw [hxs]
      apply List.map_congr_left
      intro j hj
      rw [if_pos (by simpa using hj)]
    rw [this]
    exact h
/-- What a mark writes. -/
def markReturn (k : Int) : S_Return := ⟨IntKind.i8.wrap k, IntKind.i8.wrap (k + 1), IntKind.i16.wrap (k + 1 + 1), IntKind.i16.wrap (k + 1 + 1 + 1)⟩
def marksReturn (k : Int) (n : Nat) : List S_Return := (List.range n).map fun (j : Nat) => markReturn (k + 4 * (j : Int))
theorem marksReturn_len (k : Int) (n : Nat) : (marksReturn k n).length = n := by simp [marksReturn]
theorem ok_szReturnS {a : List S_Return} {left : Int} (h0 : 0 ≤ left) (h1 : left ≤ 1048576) {Q : Int → Prop} (h : Q (if left - a.length < 0 then -1 else left - a.length)) : w_laws_szReturnS a left Q := by
  intro hl
  rw [w64_id (by omega) (by omega)]
  constructor
  · intro e; rw [if_pos (by simpa using e)] at h; exact h
  · intro e; rw [if_neg (by simpa using e)] at h; exact h
theorem ok_toReturnS {a : List S_Return} (hfew : a.length ≤ 1048576) {Q : List S_Return → Prop} (h : Q a) : w_laws_toReturnS a Q := by
  intro hl
  refine ⟨by omega, by omega, fun m x xs => ∃ i : Nat, x = i ∧ i ≤ a.length ∧ m = a.length - i ∧ xs = (List.range a.length).map fun j => if j < i then a.getD j default else ⟨0, 0, 0, 0⟩, ⟨_, 0, rfl, by omega, rfl, ?_⟩, ?_⟩
  · apply List.ext_getElem?
    intro j
    by_cases hj : j < a.length <;> simp [hj]
  · rintro m x xs ⟨i, rfl, hi, rfl, rfl⟩
    constructor
    · intro e
      rw [dec_lt] at e
      refine ⟨in_nat e, ?_⟩
      show _ ∧ _
      refine ⟨in_nat (by simpa using e), ?_⟩
      rintro ys rfl
      refine ⟨a.length - (i + 1), by omega, i + 1, w64_succ (by omega), by omega, rfl, ?_⟩
      rw [Int.toNat_natCast]
      exact set_next e (by rw [gt_nat e]; simp [List.getD_eq_getElem?_getD, e])
    · intro e
      rw [dec_nlt] at e
      have hia : i = a.length := by omega
      subst hia
      have : ((List.range a.length).map fun j => if j < a.length then a.getD j default else (⟨0, 0, 0, 0⟩ : S_Return)) = a := by
        conv => rhs; rw [← map_range_get a]
        apply List.map_congr_left
        intro j hj
        rw [if_pos (by simpa using hj)]
      rw [this]
      exact h
theorem ok_eqReturn {a : S_Return} {Q : Bool → Prop} (h : Q true) : w_laws_eqReturn a a Q := by
  simp only [w_laws_eqReturn, decide_true, Bool.not_true, Bool.false_eq_true, false_implies, true_implies, true_and]
  exact h
theorem ok_eqReturnS {a : List S_Return} {Q : Bool → Prop} (h : Q true) : w_laws_eqReturnS a a Q := by
  intro hl _
  refine ⟨fun e => by simp at e, fun _ => ⟨fun m x => ∃ i : Nat, x = i ∧ i ≤ a.length ∧ m = a.length - i, ⟨_, 0, rfl, by omega, rfl⟩, ?_⟩⟩
  rintro m x ⟨i, rfl, hi, rfl⟩
  refine ⟨fun e => ?_, fun _ => h⟩
  rw [dec_lt] at e
  refine ⟨in_nat e, in_nat e, ok_eqReturn ⟨fun e' => by simp at e', fun _ => ⟨a.length - (i + 1), by omega, i + 1, w64_succ (by omega), by omega, rfl⟩⟩⟩
theorem ok_markReturnS {a : List S_Return} {k : Int} (h0 : 0 ≤ k) (h1 : k ≤ 4611686018427387904) (hfew : a.length ≤ 1152921504606846) {Q : Int → List S_Return → Prop} (h : Q (k + 4 * a.length) (marksReturn k a.length)) : w_laws_markReturnS a k Q := by
  refine ⟨fun m x y xs => ∃ i : Nat, x = k + 4 * (i : Int) ∧ y = i ∧ i ≤ a.length ∧ m = a.length - i ∧ xs = (List.range a.length).map fun j => if j < i then markReturn (k + 4 * (j : Int)) else a.getD j default, ⟨_, 0, by simp, rfl, by omega, rfl, by simpa using (map_range_get a).symm⟩, ?_⟩
  rintro m x y xs ⟨i, rfl, rfl, hi, rfl, hxs⟩
  have hlen : xs.length = a.length := by rw [hxs]; simp
  rw [hlen]
  constructor
  · intro e
    rw [dec_lt] at e
    have e0 : IntKind.i64.wrap (k + 4 * (i : Int) + 1) = k + 4 * (i : Int) + 1 := w64_id (by omega) (by omega)
    have e1 : IntKind.i64.wrap (k + 4 * (i : Int) + 1 + 1) = k + 4 * (i : Int) + 1 + 1 := w64_id (by omega) (by omega)
    have e2 : IntKind.i64.wrap (k + 4 * (i : Int) + 1 + 1 + 1) = k + 4 * (i : Int) + 1 + 1 + 1 := w64_id (by omega) (by omega)
    have e3 : IntKind.i64.wrap (k + 4 * (i : Int) + 1 + 1 + 1 + 1) = k + 4 * (i : Int) + 1 + 1 + 1 + 1 := w64_id (by omega) (by omega)
    simp only [e0, e1, e2, e3]
    refine ⟨in_nat (e), ?_⟩
    rintro y0 hy0
    have hl0 : y0.length = a.length := by rw [hy0]; simp [hlen]
    refine ⟨in_nat (by rw [hl0]; exact e), ?_⟩
    rintro y1 hy1
    have hl1 : y1.length = a.length := by rw [hy1]; simp [hl0]
    refine ⟨in_nat (by rw [hl1]; exact e), ?_⟩
    rintro y2 hy2
    have hl2 : y2.length = a.length := by rw [hy2]; simp [hl1]
    refine ⟨in_nat (by rw [hl2]; exact e), ?_⟩
    rintro y3 hy3
    have hl3 : y3.length = a.length := by rw [hy3]; simp [hl2]
    refine ⟨a.length - (i + 1), by omega, i + 1, by omega, w64_succ (by omega), by omega, by omega, ?_⟩
    rw [Int.toNat_natCast] at hy0
    rw [Int.toNat_natCast] at hy1
    rw [Int.toNat_natCast] at hy2
    rw [Int.toNat_natCast] at hy3
    rw [hy0, gt_set_self (by rw [hlen]; exact e), List.set_set] at hy1
    rw [hy1, gt_set_self (by rw [hlen]; exact e), List.set_set] at hy2
    rw [hy2, gt_set_self (by rw [hlen]; exact e), List.set_set] at hy3
    rw [hy3, hxs]
    exact set_next e rfl
  · intro e
    rw [dec_nlt] at e
    have hia : i = a.length := by omega
    subst hia
    have : xs = marksReturn k a.length := by
      rw [hxs]
      apply List.map_congr_left
      intro j hj
      rw [if_pos (by simpa using hj)]
    rw [this]
    exact h
/-- What a mark writes. -/
def markMatch (k : Int) : S_Match := ⟨IntKind.i8.wrap k, IntKind.i8.wrap (k + 1), IntKind.i16.wrap (k + 1 + 1)⟩
def marksMatch (k : Int) (n : Nat) : List S_Match := (List.range n).map fun (j : Nat) => markMatch (k + 3 * (j : Int))
theorem marksMatch_len (k : Int) (n : Nat) : (marksMatch k n).length = n := by simp [marksMatch]
theorem ok_eqMatch {a : S_Match} {Q : Bool → Prop} (h : Q true) : w_laws_eqMatch a a Q := by
  simp only [w_laws_eqMatch, decide_true, Bool.not_true, Bool.false_eq_true, false_implies, true_implies, true_and]
  exact h
theorem ok_eqMatchS {a : List S_Match} {Q : Bool → Prop} (h : Q true) : w_laws_eqMatchS a a Q := by
  intro hl _
  refine ⟨fun e => by simp at e, fun _ => ⟨fun m x => ∃ i : Nat, x = i ∧ i ≤ a.length ∧ m = a.length - i, ⟨_, 0, rfl, by omega, rfl⟩, ?_⟩⟩
  rintro m x ⟨i, rfl, hi, rfl⟩
  refine ⟨fun e => ?_, fun _ => h⟩
  rw [dec_lt] at e
  refine ⟨in_nat e, in_nat e, ok_eqMatch ⟨fun e' => by simp at e', fun _ => ⟨a.length - (i + 1), by omega, i + 1, w64_succ (by omega), by omega, rfl⟩⟩⟩
theorem ok_markMatchS {a : List S_Match} {k : Int} (h0 : 0 ≤ k) (h1 : k ≤ 4611686018427387904) (hfew : a.length ≤ 1152921504606846) {Q : Int → List S_Match → Prop} (h : Q (k + 3 * a.length) (marksMatch k a.length)) : w_laws_markMatchS a k Q := by
  refine ⟨fun m x y xs => ∃ i : Nat, x = k + 3 * (i : Int) ∧ y = i ∧ i ≤ a.length ∧ m = a.length - i ∧ xs = (List.range a.length).map fun j => if j < i then markMatch (k + 3 * (j : Int)) else a.getD j default, ⟨_, 0, by simp, rfl, by omega, rfl, by simpa using (map_range_get a).symm⟩, ?_⟩
  rintro m x y xs ⟨i, rfl, rfl, hi, rfl, hxs⟩
  have hlen : xs.length = a.length := by rw [hxs]; simp
  rw [hlen]
  constructor
  · intro e
    rw [dec_lt] at e
    have e0 : IntKind.i64.wrap (k + 3 * (i : Int) + 1) = k + 3 * (i : Int) + 1 := w64_id (by omega) (by omega)
    have e1 : IntKind.i64.wrap (k + 3 * (i : Int) + 1 + 1) = k + 3 * (i : Int) + 1 + 1 := w64_id (by omega) (by omega)
    have e2 : IntKind.i64.wrap (k + 3 * (i : Int) + 1 + 1 + 1) = k + 3 * (i : Int) + 1 + 1 + 1 := w64_id (by omega) (by omega)
    simp only [e0, e1, e2]
    refine ⟨in_nat (e), ?_⟩
    rintro y0 hy0
    have hl0 : y0.length = a.length := by rw [hy0]; simp [hlen]
    refine ⟨in_nat (by rw [hl0]; exact e), ?_⟩
    rintro y1 hy1
    have hl1 : y1.length = a.length := by rw [hy1]; simp [hl0]
    refine ⟨in_nat (by rw [hl1]; exact e), ?_⟩
    rintro y2 hy2
    have hl2 : y2.length = a.length := by rw [hy2]; simp [hl1]
    refine ⟨a.length - (i + 1), by omega, i + 1, by omega, w64_succ (by omega), by omega, by omega, ?_⟩
    rw [Int.toNat_natCast] at hy0
    rw [Int.toNat_natCast] at hy1
    rw [Int.toNat_natCast] at hy2
    rw [hy0, gt_set_self (by rw [hlen]; exact e), List.set_set] at hy1
    rw [hy1, gt_set_self (by rw [hlen]; exact e), List.set_set] at hy2
    rw [hy2, hxs]
    exact set_next e rfl
  · intro e
    rw [dec_nlt] at e
    have hia : i = a.length := by omega
    subst hia
    have : xs = marksMatch k a.length := by
      rw [hxs]
      apply List.map_congr_left
      intro j hj
      rw [if_pos (by simpa using hj)]
    rw [this]
    exact h
theorem ok_heldMatchS {k : Int} {n : Nat} (h0 : 0 ≤ k) (h1 : k ≤ 4611686018427387904) (hfew : n ≤ 1152921504606846) {Q : Int → Prop} (h : Q (k + 3 * n)) : w_laws_heldMatchS (marksMatch k n) k Q := by
  intro hl
  refine ⟨fun m x y => ∃ i : Nat, x = k + 3 * (i : Int) ∧ y = i ∧ i ≤ n ∧ m = n - i, ⟨_, 0, by simp, rfl, by omega, rfl⟩, ?_⟩
  rintro m x y ⟨i, rfl, rfl, hi, rfl⟩
  rw [marksMatch_len]
  constructor
  · intro e
    rw [dec_lt] at e
    have e0 : IntKind.i64.wrap (k + 3 * (i : Int) + 1) = k + 3 * (i : Int) + 1 := w64_id (by omega) (by omega)
    have e1 : IntKind.i64.wrap (k + 3 * (i : Int) + 1 + 1) = k + 3 * (i : Int) + 1 + 1 := w64_id (by omega) (by omega)
    have e2 : IntKind.i64.wrap (k + 3 * (i : Int) + 1 + 1 + 1) = k + 3 * (i : Int) + 1 + 1 + 1 := w64_id (by omega) (by omega)
    simp only [e0, e1, e2, marksMatch]
    simp only [marksMatch_len, gt_map e, markMatch, List.length_map, List.length_range, decide_true, Bool.not_true, Bool.false_eq_true, false_implies, true_implies, true_and, in_nat e]
    exact ⟨n - (i + 1), by omega, i + 1, by omega, w64_succ (by omega), by omega, rfl⟩
  · intro e
    rw [dec_nlt] at e
    have hia : i = n := by omega
    subst hia
    exact h
end Go.Proofs.Ytonmmfjagkgifaa

