/- Plain: the library's stable sort of whole numbers, the whole. -/
import Derived.Test.YtonmmfjagkgifaaSort4
set_option linter.unusedVariables false
set_option linter.unusedSimpArgs false
namespace Go.Proofs.Ytonmmfjagkgifaa

/-- Equal keys stand in the order of the numbers. -/
def Stb (key : Int → Int) (xs : List Int) (n : Nat) : Prop := ∀ p q : Nat, p < q → q < n → key (g xs p) = key (g xs q) → g xs p < g xs q
theorem Stb.seg {key : Int → Int} {xs ys : List Int} {n a b : Nat} (h : Stb key xs n) (s : Seg a b xs ys) (k : Srt key ys a b) (hb : b ≤ n) (hn : n ≤ xs.length) : Stb key ys n := fun p q h1 h2 e => by
  by_cases cp : a ≤ p ∧ p < b
  · by_cases cq : q < b
    · have := k p q cp.1 h1 cq
      unfold klt at this; simp only [g] at e ⊢; omega
    · have eq : g ys q = g xs q := s.out q (by omega) (by omega)
      obtain ⟨p', i1, i2, ep⟩ := s.into p cp.1 cp.2
      have ep' : g ys p = g xs p' := ep
      rw [ep', eq] at e ⊢
      exact h p' q (by omega) h2 e
  · have ep : g ys p = g xs p := s.out p (by omega) (by omega)
    by_cases cq : a ≤ q ∧ q < b
    · obtain ⟨q', i1, i2, eq⟩ := s.into q cq.1 cq.2
      have eq' : g ys q = g xs q' := eq
      rw [ep, eq'] at e ⊢
      exact h p q' (by omega) (by omega) e
    · have eq : g ys q = g xs q := s.out q (by omega) (by omega)
      rw [ep, eq] at e ⊢
      exact h p q h1 h2 e
theorem Srt.out {key : Int → Int} {xs ys : List Int} {a b c d : Nat} (k : Srt key xs c d) (s : Seg a b xs ys) (h : d ≤ a ∨ b ≤ c) (hd : d ≤ xs.length) : Srt key ys c d := fun p q h1 h2 h3 => by
  rw [s.out p (by omega) (by omega), s.out q (by omega) (by omega)]; exact k p q h1 h2 h3
theorem mul_lt' {s j k : Nat} (h : j < k) : s * j + s ≤ s * k := by
  have := Nat.mul_le_mul_left s (show j + 1 ≤ k from h)
  rw [Nat.mul_add] at this; omega
theorem ok_insertion' {key : Int → Int} {D : Int → Prop} {cmp : Int → Int → (Int → Prop) → Prop} (hc : Cmp key D cmp) {xs : List Int} {a b n : Nat} (hbn : b ≤ n) (hn : n ≤ xs.length) (han : a ≤ n) (hl : xs.length ≤ 1152921504606846976) (hD : AllD D xs) (hst : Stb key xs n) {Q : List Int → Prop} (h : ∀ ys, Seg a b xs ys → Srt key ys a b → Q ys) : w_slices_insertionSortCmpFunc_int64 xs a b cmp Q :=
  ok_insertion hc (by omega) (by omega) hl hD (fun p q h1 h2 h3 e => hst p q h2 (by omega) e) h
theorem le_dec {i j : Nat} : (decide ((i : Int) ≤ (j : Int)) = true) = (i ≤ j) := by simp
theorem nle_dec {i j : Nat} : (decide ((i : Int) ≤ (j : Int)) = false) = (¬ i ≤ j) := by simp
theorem ok_stable {key : Int → Int} {D : Int → Prop} {cmp : Int → Int → (Int → Prop) → Prop} (hc : Cmp key D cmp) {xs : List Int} {n : Nat} (hn : n = xs.length) (hl : xs.length ≤ 1152921504606846976) (hD : AllD D xs) (hst : Stb key xs n) {Q : List Int → Prop} (h : ∀ ys, Seg 0 n xs ys → Srt key ys 0 n → Q ys) : w_slices_stableCmpFunc_int64 xs n cmp Q := by
  refine ⟨fun m x y ys => ∃ k : Nat, x = ((20 * k : Nat) : Int) ∧ y = ((20 * k + 20 : Nat) : Int) ∧ 20 * k ≤ n ∧ m = n - 20 * k ∧ Seg 0 n xs ys ∧ Stb key ys n ∧ ∀ j, j < k → Srt key ys (20 * j) (20 * j + 20),
    ⟨_, 0, rfl, rfl, by omega, rfl, Seg.refl _ _ _, hst, fun j hj => by omega⟩, ?_⟩
  rintro m x y ys ⟨k, rfl, rfl, hk, rfl, hs, ht, hb⟩
  have hyl := hs.len
  have hDy := hD.seg hs (by omega)
  constructor
  · intro e
    rw [le_dec] at e
    refine ⟨by omega, ok_insertion' hc e (by omega) (by omega) (by omega) hDy ht fun zs s2 k2 => ?_⟩
    rw [show ((20 * k + 20 : Nat) : Int) + 20 = ((20 * k + 20 : Nat) : Int) + ((20 : Nat) : Int) from rfl, w64_add (by omega)]
    refine ⟨n - 20 * (k + 1), by omega, k + 1, rfl, rfl, by omega, rfl, hs.trans (s2.mono (by omega) (by omega) (by omega)), ht.seg s2 k2 (by omega) (by omega), fun j hj => ?_⟩
    by_cases c : j = k
    · rw [c]; exact k2
    · exact (hb j (by omega)).out s2 (by omega) (by omega)
  · intro e
    rw [nle_dec] at e
    refine ⟨by omega, ok_insertion' hc (Nat.le_refl _) (by omega) hk (by omega) hDy ht fun zs s2 k2 => ?_⟩
    refine ⟨fun m x us => ∃ s : Nat, x = s ∧ 20 ≤ s ∧ s ≤ 2305843009213693952 ∧ m = n - s ∧ Seg 0 n xs us ∧ Stb key us n ∧ ∀ j, Srt key us (s * j) (min (s * j + s) n),
      ⟨_, 20, rfl, by omega, by omega, rfl, hs.trans (s2.mono (by omega) (by omega) (by omega)), ht.seg s2 k2 (by omega) (by omega), fun j => ?_⟩, ?_⟩
    · by_cases c : j = k
      · rw [c, Nat.min_eq_right (by omega)]; exact k2
      · by_cases c2 : j < k
        · rw [Nat.min_eq_left (by omega)]; exact (hb j c2).out s2 (by omega) (by omega)
        · exact fun p q h1 h2 h3 => by omega
    rintro m x us ⟨s, rfl, hs1, hs2, rfl, gs, gt', gb⟩
    have hul := gs.len
    constructor
    · intro e
      rw [dec_lt] at e
      have e2 : IntKind.i64.wrap (2 * (s : Int)) = ((2 * s : Nat) : Int) := by rw [w64_id (by omega) (by omega)]; omega
      have e3 : IntKind.i64.wrap ((s : Int) * 2) = ((2 * s : Nat) : Int) := by rw [w64_id (by omega) (by omega)]; omega
      rw [e2]
      have dbl : ∀ i : Nat, 2 * s * i = s * (2 * i) := fun i => by rw [Nat.mul_comm 2 s, Nat.mul_assoc]
      have dbl1 : ∀ i : Nat, s * (2 * i + 1) = s * (2 * i) + s := fun i => by rw [Nat.mul_add, Nat.mul_one]
      refine ⟨fun m x y vs => ∃ k : Nat, x = ((2 * s * k : Nat) : Int) ∧ y = ((2 * s * k + 2 * s : Nat) : Int) ∧ 2 * s * k ≤ n ∧ m = n - 2 * s * k ∧ Seg 0 n xs vs ∧ Stb key vs n ∧ (∀ j, j < k → Srt key vs (2 * s * j) (2 * s * j + 2 * s)) ∧ ∀ j, 2 * k ≤ j → Srt key vs (s * j) (min (s * j + s) n),
        ⟨_, 0, by simp, by simp, by omega, rfl, gs, gt', fun j hj => by omega, fun j hj => gb j⟩, ?_⟩
      rintro m x y vs ⟨k, rfl, rfl, hk, rfl, fs, ft, fb, fb2⟩
      have hvl := fs.len
      have hDv := hD.seg fs (by omega)
      have d0 := dbl k
      have d1 := dbl1 k
      generalize ha : 2 * s * k = a at *
      have b0 := fb2 (2 * k) (by omega)
      have b1 := fb2 (2 * k + 1) (by omega)
      rw [d1, ← d0] at b1
      rw [← d0] at b0
      have hnext : 2 * s * (k + 1) = a + 2 * s := by rw [Nat.mul_add, Nat.mul_one, ha]
      have two : ∀ b, a + s < b → b = min (a + 2 * s) n → Two key vs a (a + s) b := fun b hb hb2 =>
        ⟨by rw [Nat.min_eq_left (by omega)] at b0; exact b0, by rw [show min (a + s + s) n = b by omega] at b1; exact b1, fun p q h1 h2 h3 h4 h5 => ft p q (by omega) (by omega) h5⟩
      constructor
      · intro e4
        rw [le_dec] at e4
        rw [w64_add (by omega)]
        refine ⟨by omega, n, ok_symMerge hc n (by omega) (by omega) (by omega) (by omega) (by omega) hDv (two _ (by omega) (by omega)) fun ws s3 k3 => ?_⟩
        rw [w64_add (by omega)]
        refine ⟨n - (a + 2 * s), by omega, k + 1, by rw [hnext], by rw [hnext], by omega, by rw [hnext], fs.trans (s3.mono (by omega) (by omega) (by omega)), ft.seg s3 k3 (by omega) (by omega), fun j hj => ?_, fun j hj => ?_⟩
        · by_cases c : j = k
          · rw [c, ha]; exact k3
          · have := mul_lt' (s := 2 * s) (show j < k by omega)
            exact (fb j (by omega)).out s3 (by omega) (by omega)
        · have := Nat.mul_le_mul_left s hj
          rw [show 2 * (k + 1) = 2 * k + 1 + 1 by omega, Nat.mul_add s (2 * k + 1), Nat.mul_one] at this
          exact (fb2 j (by omega)).out s3 (by omega) (by omega)
      · intro e4
        rw [nle_dec] at e4
        rw [w64_add (by omega)]
        have fin : ∀ ws, Seg a n vs ws → Srt key ws a n → ∃ m', m' < n - s ∧ ∃ s' : Nat, IntKind.i64.wrap ((s : Int) * 2) = s' ∧ 20 ≤ s' ∧ s' ≤ 2305843009213693952 ∧ m' = n - s' ∧ Seg 0 n xs ws ∧ Stb key ws n ∧ ∀ j, Srt key ws (s' * j) (min (s' * j + s') n) := fun ws s3 k3 => by
          rw [e3]
          refine ⟨n - 2 * s, by omega, 2 * s, rfl, by omega, by omega, rfl, fs.trans (s3.mono (by omega) (Nat.le_refl _) (by omega)), ft.seg s3 k3 (Nat.le_refl _) (by omega), fun j => ?_⟩
          by_cases c : j = k
          · rw [c, ha, Nat.min_eq_right (by omega)]; exact k3
          · by_cases c2 : j < k
            · have := mul_lt' (s := 2 * s) c2
              rw [Nat.min_eq_left (by omega)]; exact (fb j c2).out s3 (by omega) (by omega)
            · have := mul_lt' (s := 2 * s) (show k < j by omega)
              exact fun p q h1 h2 h3 => by omega
        constructor
        · intro e5
          rw [dec_lt] at e5
          exact ⟨by omega, n, ok_symMerge hc n (by omega) (by omega) (by omega) (by omega) (by omega) hDv (two _ (by omega) (by omega)) fin⟩
        · intro e5
          rw [dec_nlt] at e5
          refine fin vs (Seg.refl _ _ _) fun p q h1 h2 h3 => ?_
          exact b0 p q h1 h2 (by omega)
    · intro e
      rw [dec_nlt] at e
      refine h us gs ?_
      have := gb 0
      rw [Nat.mul_zero, Nat.min_eq_right (by omega)] at this
      exact this
end Go.Proofs.Ytonmmfjagkgifaa
