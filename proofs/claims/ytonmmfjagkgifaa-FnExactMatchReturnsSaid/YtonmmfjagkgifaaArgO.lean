/- Printed by lawrow.py, a program of this work: what the laws' arguments are. -/
import Derived.Test.YtonmmfjagkgifaaClose
import Derived.Test.YtonmmfjagkgifaaGT
set_option linter.unusedVariables false
set_option linter.unusedSimpArgs false
namespace Go.Proofs.Ytonmmfjagkgifaa
open Go.ChangeShapes Go.WideShapes Go.ChangeAt Go.RowKit

theorem rows_enc {α : Type} {R : Rd α} {enc : α → List Value} (h : ∀ H x, R H x (enc x)) (H : Hp) (xs : List α) : Rows R H xs (xs.map enc) := ⟨by simp, fun i x hx => by rw [List.getD_eq_getElem?_getD, List.getElem?_map, hx]; exact h H x⟩
theorem enc_ok {α : Type} {enc : α → List Value} {ok : α → Prop} {rows : List (List Value)} (h : ∀ r ∈ rows, ∃ x, ok x ∧ r = enc x) : ∃ xs : List α, rows = xs.map enc ∧ ∀ x ∈ xs, ok x := rows_dec enc ok rows h
def okS_Order (x : S_Order) : Prop := (-128 ≤ x.fBuyer ∧ x.fBuyer ≤ 127) ∧ (-128 ≤ x.fItem ∧ x.fItem ≤ 127) ∧ (-32768 ≤ x.fNumber ∧ x.fNumber ≤ 32767) ∧ (-32768 ≤ x.fPrice ∧ x.fPrice ≤ 32767) ∧ (-32768 ≤ x.fDay ∧ x.fDay ≤ 32767)
def enc_Order (x : S_Order) : List Value := [Value.int .i8 x.fBuyer, Value.int .i8 x.fItem, Value.int .i16 x.fNumber, Value.int .i16 x.fPrice, Value.int .i16 x.fDay]
theorem cells_Order : Go.Proofs.Try.prog.cellsOf 113 = 5 := by kernel_rfl
theorem cells_i8 : Go.Proofs.Try.prog.cellsOf 22 = 1 := by kernel_rfl
theorem cells_i16 : Go.Proofs.Try.prog.cellsOf 23 = 1 := by kernel_rfl
theorem len_Order {α : Type} {l : List α} (h : l.length = 5) : ∃ a0 a1 a2 a3 a4, l = [a0, a1, a2, a3, a4] := by
  match l, h with
  | [a0, a1, a2, a3, a4], _ => exact ⟨a0, a1, a2, a3, a4, rfl⟩
theorem dec_Order {H : Type} {enc : TypeId × Value → H} {W : World} {sp : Nat → Bool} {held : Bool} {fuel : Nat} {r : List Value} {x : DataW H × List MemPlace} (h : DataW.trod enc Go.Proofs.Try.prog W 0 sp held fuel 113 r = some x) : ∃ y : S_Order, okS_Order y ∧ r = enc_Order y := by
  have hl := len00 Go.Proofs.Try.underlying113 h
  rw [cells_Order] at hl
  obtain ⟨a0, a1, a2, a3, a4, rfl⟩ := len_Order hl
  obtain ⟨n0, h0, b0⟩ := partI Go.Proofs.Try.underlying113 h 0 0 rfl cells_i8 Go.Proofs.Try.underlying22
  obtain ⟨n1, h1, b1⟩ := partI Go.Proofs.Try.underlying113 h 1 1 rfl cells_i8 Go.Proofs.Try.underlying22
  obtain ⟨n2, h2, b2⟩ := partI Go.Proofs.Try.underlying113 h 2 2 rfl cells_i16 Go.Proofs.Try.underlying23
  obtain ⟨n3, h3, b3⟩ := partI Go.Proofs.Try.underlying113 h 3 3 rfl cells_i16 Go.Proofs.Try.underlying23
  obtain ⟨n4, h4, b4⟩ := partI Go.Proofs.Try.underlying113 h 4 4 rfl cells_i16 Go.Proofs.Try.underlying23
  simp only [List.drop_zero, List.drop_succ_cons, List.take_succ_cons, List.take_zero, List.cons.injEq, and_true] at h0 h1 h2 h3 h4
  subst h0 h1 h2 h3 h4
  exact ⟨⟨n0, n1, n2, n3, n4⟩, ⟨b0, b1, b2, b3, b4⟩, rfl⟩
theorem arg_Order {H : Type} {enc : TypeId × Value → H} {W : World} {sp : Nat → Bool} {held : Bool} {fuel : Nat} {v : Value} {x : DataW H × List MemPlace} (h : DataW.trod enc Go.Proofs.Try.prog W 0 sp held fuel 44 [v] = some x) : ∃ ys : List S_Order, vLen false v = some (.int .i64 ys.length) ∧ ys.length ≤ 9223372036854775807 ∧ (ys.length ≤ 1152921504606846976 → SlR R_Order 5 (H00 W) ys v) ∧ ∀ y ∈ ys, okS_Order y := by
  obtain ⟨ad, ln, cp, rows, h2, hlen, hmax, hsl, hr⟩ := sl00 Go.Proofs.Try.underlying44 (by rw [cells_Order]; omega) h
  obtain ⟨ys, rfl, hok⟩ := enc_ok (enc := enc_Order) (ok := okS_Order) (rows := rows) fun r hm => by
    obtain ⟨_, _, h⟩ := hr r hm
    exact dec_Order h
  cases h2
  rw [List.length_map] at hlen
  subst hlen
  rw [cells_Order] at hsl
  exact ⟨ys, rfl, hmax, fun hle => ⟨_, hsl hle, rows_enc (R := R_Order) (enc := enc_Order) (fun _ _ => rfl) _ _⟩, hok⟩
def okS_Return (x : S_Return) : Prop := (-128 ≤ x.fBuyer ∧ x.fBuyer ≤ 127) ∧ (-128 ≤ x.fItem ∧ x.fItem ≤ 127) ∧ (-32768 ≤ x.fNumber ∧ x.fNumber ≤ 32767) ∧ (-32768 ≤ x.fDay ∧ x.fDay ≤ 32767)
def enc_Return (x : S_Return) : List Value := [Value.int .i8 x.fBuyer, Value.int .i8 x.fItem, Value.int .i16 x.fNumber, Value.int .i16 x.fDay]
theorem cells_Return : Go.Proofs.Try.prog.cellsOf 115 = 4 := by kernel_rfl
theorem len_Return {α : Type} {l : List α} (h : l.length = 4) : ∃ a0 a1 a2 a3, l = [a0, a1, a2, a3] := by
  match l, h with
  | [a0, a1, a2, a3], _ => exact ⟨a0, a1, a2, a3, rfl⟩
theorem dec_Return {H : Type} {enc : TypeId × Value → H} {W : World} {sp : Nat → Bool} {held : Bool} {fuel : Nat} {r : List Value} {x : DataW H × List MemPlace} (h : DataW.trod enc Go.Proofs.Try.prog W 0 sp held fuel 115 r = some x) : ∃ y : S_Return, okS_Return y ∧ r = enc_Return y := by
  have hl := len00 Go.Proofs.Try.underlying115 h
  rw [cells_Return] at hl
  obtain ⟨a0, a1, a2, a3, rfl⟩ := len_Return hl
  obtain ⟨n0, h0, b0⟩ := partI Go.Proofs.Try.underlying115 h 0 0 rfl cells_i8 Go.Proofs.Try.underlying22
  obtain ⟨n1, h1, b1⟩ := partI Go.Proofs.Try.underlying115 h 1 1 rfl cells_i8 Go.Proofs.Try.underlying22
  obtain ⟨n2, h2, b2⟩ := partI Go.Proofs.Try.underlying115 h 2 2 rfl cells_i16 Go.Proofs.Try.underlying23
  obtain ⟨n3, h3, b3⟩ := partI Go.Proofs.Try.underlying115 h 3 3 rfl cells_i16 Go.Proofs.Try.underlying23
  simp only [List.drop_zero, List.drop_succ_cons, List.take_succ_cons, List.take_zero, List.cons.injEq, and_true] at h0 h1 h2 h3
  subst h0 h1 h2 h3
  exact ⟨⟨n0, n1, n2, n3⟩, ⟨b0, b1, b2, b3⟩, rfl⟩
theorem arg_Return {H : Type} {enc : TypeId × Value → H} {W : World} {sp : Nat → Bool} {held : Bool} {fuel : Nat} {v : Value} {x : DataW H × List MemPlace} (h : DataW.trod enc Go.Proofs.Try.prog W 0 sp held fuel 45 [v] = some x) : ∃ ys : List S_Return, vLen false v = some (.int .i64 ys.length) ∧ ys.length ≤ 9223372036854775807 ∧ (ys.length ≤ 1152921504606846976 → SlR R_Return 4 (H00 W) ys v) ∧ ∀ y ∈ ys, okS_Return y := by
  obtain ⟨ad, ln, cp, rows, h2, hlen, hmax, hsl, hr⟩ := sl00 Go.Proofs.Try.underlying45 (by rw [cells_Return]; omega) h
  obtain ⟨ys, rfl, hok⟩ := enc_ok (enc := enc_Return) (ok := okS_Return) (rows := rows) fun r hm => by
    obtain ⟨_, _, h⟩ := hr r hm
    exact dec_Return h
  cases h2
  rw [List.length_map] at hlen
  subst hlen
  rw [cells_Return] at hsl
  exact ⟨ys, rfl, hmax, fun hle => ⟨_, hsl hle, rows_enc (R := R_Return) (enc := enc_Return) (fun _ _ => rfl) _ _⟩, hok⟩
end Go.Proofs.Ytonmmfjagkgifaa
