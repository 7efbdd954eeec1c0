/- Plain: helpers for weakest preconditions. -/
import Derived.Test.YtonmmfjagkgifaaWp
set_option linter.unusedVariables false
set_option linter.unusedSimpArgs false
namespace Go.Proofs.Ytonmmfjagkgifaa

theorem gt_nat {α : Type} [Inhabited α] {xs : List α} {i : Nat} (h : i < xs.length) : gt xs (i : Int) = xs[i] := by simp [gt, List.getD_eq_getElem?_getD, h]
theorem gt_set {α : Type} [Inhabited α] {xs : List α} {i j : Nat} {x : α} (hi : i < xs.length) : gt (xs.set j x) (i : Int) = if j = i then x else gt xs (i : Int) := by
  rw [gt_nat (by simpa using hi), gt_nat hi, List.getElem_set]
theorem gt_set_self {α : Type} [Inhabited α] {xs : List α} {i : Nat} {x : α} (hi : i < xs.length) : gt (xs.set i x) (i : Int) = x := by rw [gt_set hi, if_pos rfl]
theorem in_nat {i n : Nat} (h : i < n) : In (i : Int) n := ⟨by omega, by omega⟩
theorem w64_id {n : Int} (h0 : -9223372036854775808 ≤ n) (h1 : n ≤ 9223372036854775807) : IntKind.i64.wrap n = n := wrap_i64 h0 h1
theorem w64_succ {i : Nat} (h : i < 9223372036854775807) : IntKind.i64.wrap ((i : Int) + 1) = ((i + 1 : Nat) : Int) := by rw [w64_id (by omega) (by omega)]; omega
theorem dec_lt {i n : Nat} : (decide ((i : Int) < (n : Int)) = true) = (i < n) := by simp
theorem dec_nlt {i n : Nat} : (decide ((i : Int) < (n : Int)) = false) = (n ≤ i) := by simp
/-- A list that is changed place by place. -/
theorem set_next {α : Type} {f g : Nat → α} {n i : Nat} (h : i < n) {x : α} (hx : x = f i) : (((List.range n).map fun j => if j < i then f j else g j).set i x) = (List.range n).map fun j => if j < i + 1 then f j else g j := by
  subst hx
  apply List.ext_getElem?
  intro j
  rw [List.getElem?_set]
  simp only [List.length_map, List.length_range, List.getElem?_map]
  by_cases e : i = j
  · subst e; simp [h]
  · rw [if_neg e]
    by_cases hj : j < n
    · simp only [List.getElem?_range hj, Option.map_some]
      have : (j < i) = (j < i + 1) := by apply propext; omega
      simp [this]
    · simp [hj]
theorem map_range_get {α : Type} [Inhabited α] (xs : List α) : ((List.range xs.length).map fun j => xs.getD j default) = xs := by
  apply List.ext_getElem?
  intro j
  by_cases hj : j < xs.length
  · simp [hj, List.getD_eq_getElem?_getD]
  · simp [hj]
theorem gt_map {α : Type} [Inhabited α] {f : Nat → α} {n i : Nat} (h : i < n) : gt ((List.range n).map f) (i : Int) = f i := by
  rw [gt_nat (by simpa using h)]; simp
end Go.Proofs.Ytonmmfjagkgifaa
