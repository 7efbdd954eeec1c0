/- Plain: the library's stable sort of whole numbers; swaps of ranges, rotation. -/
import Derived.Test.YtonmmfjagkgifaaSort1
set_option linter.unusedVariables false
set_option linter.unusedSimpArgs false
namespace Go.Proofs.Ytonmmfjagkgifaa

theorem w64_add {a b : Nat} (h : a + b ≤ 9223372036854775807) : IntKind.i64.wrap ((a : Int) + (b : Int)) = ((a + b : Nat) : Int) := by rw [w64_id (by omega) (by omega)]; omega
theorem w64_sub {a b : Nat} (h : b ≤ a) (h2 : a ≤ 9223372036854775807) : IntKind.i64.wrap ((a : Int) - (b : Int)) = ((a - b : Nat) : Int) := by rw [w64_id (by omega) (by omega)]; omega
/-- Two ranges, exchanged. -/
def xch (a b n : Nat) (f : Nat → Int) : Nat → Int := fun k => if a ≤ k ∧ k < a + n then f (k + (b - a)) else if b ≤ k ∧ k < b + n then f (k - (b - a)) else f k
abbrev g (xs : List Int) : Nat → Int := fun k => gt xs (k : Int)
theorem ok_swapRange {cmp : Int → Int → (Int → Prop) → Prop} {xs : List Int} {a b n : Nat} (hab : a + n ≤ b) (hb : b + n ≤ xs.length) (hl : xs.length ≤ 1152921504606846976) {Q : List Int → Prop}
    (h : ∀ ys : List Int, ys.length = xs.length → ys.Perm xs → (∀ k, k < xs.length → g ys k = xch a b n (g xs) k) → Q ys) : w_slices_swapRangeCmpFunc_int64 xs a b n cmp Q := by
  refine ⟨fun m x ys => ∃ i : Nat, x = i ∧ i ≤ n ∧ m = n - i ∧ ys.length = xs.length ∧ ys.Perm xs ∧ ∀ k, k < xs.length → g ys k = xch a b i (g xs) k, ⟨_, 0, rfl, by omega, rfl, rfl, .refl _, fun k hk => ?_⟩, ?_⟩
  · unfold xch; rw [if_neg (by omega), if_neg (by omega)]
  rintro m x ys ⟨i, rfl, hi, rfl, hlen, hp, hg⟩
  constructor
  · intro e
    rw [dec_lt] at e
    rw [w64_add (by omega), w64_add (by omega)]
    refine ⟨in_nat (by omega), in_nat (by omega), ?_⟩
    rintro y1 hy1
    have hy1l : y1.length = ys.length := by rw [hy1]; simp
    refine ⟨in_nat (by omega), ?_⟩
    rintro y2 hy2
    rw [hy1] at hy2
    simp only [Int.toNat_natCast] at hy2
    rw [w64_succ (by omega)]
    refine ⟨n - (i + 1), by omega, i + 1, rfl, by omega, rfl, by rw [hy2]; simp [hlen], ?_, fun k hk => ?_⟩
    · rw [hy2]; exact (sw_perm (by omega) (by omega)).trans hp
    · show gt y2 (k : Int) = _
      rw [hy2, sw_get (by omega) (by omega) (by omega)]
      have ha := hg (a + i) (by omega)
      have hb' := hg (b + i) (by omega)
      have hk' := hg k hk
      unfold xch at ha hb' hk' ⊢
      rw [if_neg (by omega), if_neg (by omega)] at ha hb'
      by_cases c1 : k = b + i
      · rw [if_pos c1, if_neg (by omega), if_pos (by omega)]
        subst c1
        rw [show b + i - (b - a) = a + i by omega]
        exact ha
      · rw [if_neg c1]
        by_cases c2 : k = a + i
        · rw [if_pos c2, if_pos (by omega)]
          subst c2
          rw [show a + i + (b - a) = b + i by omega]
          exact hb'
        · rw [if_neg c2]
          refine hk'.trans ?_
          by_cases c3 : a ≤ k ∧ k < a + i
          · rw [if_pos c3, if_pos (by omega)]
          · rw [if_neg c3]
            by_cases c4 : b ≤ k ∧ k < b + i
            · rw [if_pos c4, if_neg (by omega), if_pos (by omega)]
            · rw [if_neg c4, if_neg (by omega), if_neg (by omega)]
  · intro e
    rw [dec_nlt] at e
    have : i = n := by omega
    subst this
    exact h ys hlen hp hg
/-- Two neighbouring ranges, the other way round. -/
def rot (a m b : Nat) (f : Nat → Int) : Nat → Int := fun k => if a ≤ k ∧ k < b then (if k < a + (b - m) then f (k + (m - a)) else f (k - (b - m))) else f k
theorem ok_rotate {cmp : Int → Int → (Int → Prop) → Prop} {xs : List Int} {a m b : Nat} (ham : a < m) (hmb : m < b) (hb : b ≤ xs.length) (hl : xs.length ≤ 1152921504606846976) {Q : List Int → Prop}
    (h : ∀ ys : List Int, ys.length = xs.length → ys.Perm xs → (∀ k, k < xs.length → g ys k = rot a m b (g xs) k) → Q ys) : w_slices_rotateCmpFunc_int64 xs a m b cmp Q := by
  refine ⟨fun q x y ys => ∃ i j : Nat, x = i ∧ y = j ∧ 0 < i ∧ 0 < j ∧ i ≤ m - a ∧ j ≤ b - m ∧ q = i + j ∧ ys.length = xs.length ∧ ys.Perm xs ∧ ∀ k, k < xs.length → rot a m b (g xs) k = rot (m - i) m (m + j) (g ys) k,
    ⟨_, m - a, b - m, w64_sub (by omega) (by omega), w64_sub (by omega) (by omega), by omega, by omega, Nat.le_refl _, Nat.le_refl _, rfl, rfl, .refl _, fun k hk => ?_⟩, ?_⟩
  · rw [show m - (m - a) = a by omega, show m + (b - m) = b by omega]
  rintro q x y ys ⟨i, j, rfl, rfl, hi, hj, hia, hjb, rfl, hlen, hp, hg⟩
  constructor
  · intro e
    have hne : i ≠ j := by
      have : ¬ (i : Int) = (j : Int) := by simpa using e
      omega
    constructor
    · intro e1
      have hgt : j < i := by simpa using e1
      refine ⟨by omega, ?_⟩
      rw [w64_sub (by omega) (by omega)]
      refine ok_swapRange (by omega) (by omega) (by omega) fun ys2 hl2 hp2 hg2 => ?_
      rw [w64_sub (by omega) (by omega)]
      refine ⟨i - j + j, by omega, i - j, j, rfl, rfl, by omega, hj, by omega, hjb, rfl, by omega, hp2.trans hp, fun k hk => (hg k hk).trans ?_⟩
      have s : ∀ k, k < xs.length → g ys2 k = xch (m - i) m j (g ys) k := fun k hk => hg2 k (by omega)
      unfold rot
      by_cases c0 : m - i ≤ k ∧ k < m + j
      · rw [if_pos c0]
        by_cases c1 : m - (i - j) ≤ k ∧ k < m + j
        · rw [if_pos c1]
          by_cases c2 : k < m - i + (m + j - m)
          · omega
          · rw [if_neg c2]
            by_cases c3 : k < m - (i - j) + (m + j - m)
            · rw [if_pos c3, s _ (by omega)]
              unfold xch
              rw [if_neg (by omega), if_pos (by omega)]
              congr 1; omega
            · rw [if_neg c3, s _ (by omega)]
              unfold xch
              rw [if_neg (by omega), if_neg (by omega)]
        · rw [if_neg c1, s _ (by omega), if_pos (by omega)]
          unfold xch
          rw [if_pos (by omega)]
      · rw [if_neg c0, if_neg (by omega), s _ hk]
        unfold xch
        rw [if_neg (by omega), if_neg (by omega)]
    · intro e1
      have hlt : i < j := by have : ¬ j < i := by simpa using e1
                             omega
      refine ⟨by omega, ?_⟩
      rw [w64_sub (by omega) (by omega), w64_add (by omega), w64_sub (by omega) (by omega)]
      refine ok_swapRange (by omega) (by omega) (by omega) fun ys2 hl2 hp2 hg2 => ?_
      rw [w64_sub (by omega) (by omega)]
      refine ⟨i + (j - i), by omega, i, j - i, rfl, rfl, hi, by omega, hia, by omega, rfl, by omega, hp2.trans hp, fun k hk => (hg k hk).trans ?_⟩
      have s : ∀ k, k < xs.length → g ys2 k = xch (m - i) (m + j - i) i (g ys) k := fun k hk => hg2 k (by omega)
      unfold rot
      by_cases c0 : m - i ≤ k ∧ k < m + j
      · rw [if_pos c0]
        by_cases c1 : m - i ≤ k ∧ k < m + (j - i)
        · rw [if_pos c1, if_pos (by omega)]
          by_cases c3 : k < m - i + (m + (j - i) - m)
          · rw [if_pos c3, s _ (by omega)]
            unfold xch
            rw [if_neg (by omega), if_neg (by omega)]
          · rw [if_neg c3, s _ (by omega)]
            unfold xch
            rw [if_pos (by omega)]
            congr 1; omega
        · rw [if_neg c1, if_neg (by omega), s _ (by omega)]
          unfold xch
          rw [if_neg (by omega), if_pos (by omega)]
          congr 1; omega
      · rw [if_neg c0, if_neg (by omega), s _ hk]
        unfold xch
        rw [if_neg (by omega), if_neg (by omega)]
  · intro e
    have hij : i = j := by
      have : (i : Int) = (j : Int) := by simpa using e
      omega
    subst hij
    refine ⟨by omega, ?_⟩
    rw [w64_sub (by omega) (by omega)]
    refine ok_swapRange (by omega) (by omega) (by omega) fun ys2 hl2 hp2 hg2 => h ys2 (by omega) (hp2.trans hp) fun k hk => ?_
    rw [hg k hk, hg2 k (by omega)]
    unfold xch rot
    by_cases c0 : m - i ≤ k ∧ k < m + i
    · rw [if_pos c0]
      by_cases c1 : k < m
      · rw [if_pos (by omega), if_pos (by omega)]
      · rw [if_neg (by omega), if_pos (by omega), if_neg (by omega)]
        congr 1; omega
    · rw [if_neg c0, if_neg (by omega), if_neg (by omega)]
end Go.Proofs.Ytonmmfjagkgifaa
