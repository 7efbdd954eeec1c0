/- Rows of arguments, decoded. -/
import Derived.Test.YtonmmfjagkgifaaRow
import Derived.Test.YtonmmfjagkgifaaRows
import Derived.JoinedOf
import Derived.Handed
set_option linter.unusedVariables false
set_option linter.unusedSimpArgs false
namespace Go.Proofs.Ytonmmfjagkgifaa
open Go.ChangeShapes Go.WideShapes Go.ChangeAt Go.RowKit

theorem rows_dec {α : Type} (enc : α → List Value) (ok : α → Prop) : ∀ (rows : List (List Value)), (∀ r ∈ rows, ∃ x, ok x ∧ r = enc x) → ∃ xs : List α, rows = xs.map enc ∧ ∀ x ∈ xs, ok x
  | [], _ => ⟨[], rfl, by simp⟩
  | r :: rows, h => by
    obtain ⟨x, hx, rfl⟩ := h r (by simp)
    obtain ⟨xs, rfl, hxs⟩ := rows_dec enc ok rows (fun r hr => h r (by simp [hr]))
    refine ⟨x :: xs, rfl, fun y hy => ?_⟩
    rcases List.mem_cons.1 hy with rfl | hy
    · exact hx
    · exact hxs y hy
theorem len3 {α : Type} {l : List α} (h : l.length = 3) : ∃ a b c, l = [a, b, c] := by
  match l, h with
  | [a, b, c], _ => exact ⟨a, b, c, rfl⟩
theorem len2 {α : Type} {l : List α} (h : l.length = 2) : ∃ a b, l = [a, b] := by
  match l, h with
  | [a, b], _ => exact ⟨a, b, rfl⟩
theorem len4 {α : Type} {l : List α} (h : l.length = 4) : ∃ a b c d, l = [a, b, c, d] := by
  match l, h with
  | [a, b, c, d], _ => exact ⟨a, b, c, d, rfl⟩
theorem len5 {α : Type} {l : List α} (h : l.length = 5) : ∃ a b c d e, l = [a, b, c, d, e] := by
  match l, h with
  | [a, b, c, d, e], _ => exact ⟨a, b, c, d, e, rfl⟩
theorem own00 : ownKnob Go.Proofs.Try.prog.godebug = none := by kernel_rfl
theorem laid00 : laidOutB Go.Proofs.Try.prog = true := by kernel_rfl
section
variable {H : Type} {enc : TypeId × Value → H} {P : Program} {W : World} {sp : Nat → Bool} {held : Bool}
theorem len00 {t : TypeId} {fs : Array Field} {fuel : Nat} {cs : List Value} {x : DataW H × List MemPlace} (ht : P.underlying t = some (.struct fs)) (h : DataW.trod enc P W 0 sp held fuel t cs = some x) : cs.length = P.cellsOf t := by
  obtain ⟨xs, n, _, rfl, hl, hlen, hall⟩ := DataW.trod_struct ht h
  exact hl
/-- A part that is a whole number. -/
theorem partI {t : TypeId} {fs : Array Field} {fuel : Nat} {cs : List Value} {x : DataW H × List MemPlace} (ht : P.underlying t = some (.struct fs)) (h : DataW.trod enc P W 0 sp held fuel t cs = some x) (i off : Nat) {ft : TypeId} (hf : (fs[i]?).map (fun f => (f.offset, f.type)) = some (off, ft)) (hc : P.cellsOf ft = 1) {k : IntKind} (hk : P.underlying ft = some (.int k)) :
    ∃ n, (cs.drop off).take 1 = [.int k n] ∧ k.min ≤ n ∧ n ≤ k.max := by
  obtain ⟨f, h1, h2⟩ := Option.map_eq_some_iff.1 hf
  cases h2
  obtain ⟨n, y, h3⟩ := part00 ht h h1
  rw [hc] at h3
  exact int00 hk h3
/-- Any other part. -/
theorem partX {t : TypeId} {fs : Array Field} {fuel : Nat} {cs : List Value} {x : DataW H × List MemPlace} (ht : P.underlying t = some (.struct fs)) (h : DataW.trod enc P W 0 sp held fuel t cs = some x) (i off : Nat) {ft : TypeId} {sz : Nat} (hf : (fs[i]?).map (fun f => (f.offset, f.type)) = some (off, ft)) (hc : P.cellsOf ft = sz) :
    ∃ n y, DataW.trod enc P W 0 sp held n ft ((cs.drop off).take sz) = some y := by
  obtain ⟨f, h1, h2⟩ := Option.map_eq_some_iff.1 hf
  cases h2
  obtain ⟨n, y, h3⟩ := part00 ht h h1
  rw [hc] at h3
  exact ⟨n, y, h3⟩
end
end Go.Proofs.Ytonmmfjagkgifaa
