/- Plain: the library's stable sort of whole numbers; the merge of two sorted neighbours. -/
import Derived.Test.YtonmmfjagkgifaaSort2
set_option linter.unusedVariables false
set_option linter.unusedSimpArgs false
namespace Go.Proofs.Ytonmmfjagkgifaa

theorem wrapU64 {n : Int} (h1 : 0 ≤ n) (h2 : n ≤ 9223372036854775807) : IntKind.u64.wrap n = n := by simp only [IntKind.wrap, IntKind.bits, IntKind.signed]; simp; omega
theorem mid_nat {i j : Nat} (h : i + j ≤ 4611686018427387904) : IntKind.i64.wrap (Int.fdiv (IntKind.u64.wrap (IntKind.i64.wrap ((i : Int) + (j : Int)))) 2) = (((i + j) / 2 : Nat) : Int) := by
  rw [w64_add (by omega), wrapU64 (by omega) (by omega), Int.fdiv_eq_ediv_of_nonneg _ (by omega), w64_id (by omega) (by omega)]
  omega
/-- What is asked of two neighbours ahead of the merge. -/
structure Two (key : Int → Int) (xs : List Int) (a m b : Nat) : Prop where
  left : Srt key xs a m
  right : Srt key xs m b
  cross : ∀ p q : Nat, a ≤ p → p < m → m ≤ q → q < b → key (g xs p) = key (g xs q) → g xs p < g xs q
theorem dec_eq1 {i : Nat} : (decide ((i : Int) = 1) = true) = (i = 1) := by simp; omega
theorem dec_ne1 {i : Nat} : (decide ((i : Int) = 1) = false) = (i ≠ 1) := by simp; omega
section
variable {key : Int → Int} {D : Int → Prop} {cmp : Int → Int → (Int → Prop) → Prop} {rec : List Int → Int → Int → Int → (Int → Int → (Int → Prop) → Prop) → (List Int → Prop) → Prop} {xs : List Int} {a m b : Nat} {Q : List Int → Prop}
theorem klt_of {x y : Int} (h : key x ≤ key y) (h2 : key x = key y → x < y) : klt key x y := by
  unfold klt; omega
theorem sym_left (hc : Cmp key D cmp) (hma : m = a + 1) (hmb : m < b) (hb : b ≤ xs.length) (hl : xs.length ≤ 1152921504606846976) (hD : AllD D xs) (ht : Two key xs a m b) (h : ∀ ys, Seg a b xs ys → Srt key ys a b → Q ys) :
    w_slices_symMergeCmpFunc_int64 rec xs a m b cmp Q := by
  refine ⟨fun _ => ?_, fun e => by rw [w64_sub (by omega) (by omega), dec_ne1] at e; omega⟩
  refine ⟨fun q x y zs => ∃ i j : Nat, x = i ∧ y = j ∧ m ≤ i ∧ i ≤ j ∧ j ≤ b ∧ q = j - i ∧ zs = xs ∧ (∀ k : Nat, m ≤ k → k < i → key (g xs k) < key (g xs a)) ∧ (∀ k : Nat, j ≤ k → k < b → ¬ key (g xs k) < key (g xs a)),
    ⟨_, m, b, rfl, rfl, Nat.le_refl _, by omega, Nat.le_refl _, rfl, rfl, fun k h1 h2 => by omega, fun k h1 h2 => by omega⟩, ?_⟩
  rintro q x y zs ⟨i, j, rfl, rfl, hmi, hij, hjb, rfl, rfl, h1, h2⟩
  constructor
  · intro e
    rw [dec_lt] at e
    rw [mid_nat (by omega)]
    refine ⟨in_nat (by omega), in_nat (by omega), hc _ _ _ (hD _ (by omega)) (hD a (by omega)) fun r hr => ⟨fun e1 => ?_, fun e1 => ?_⟩⟩
    · have hlt := hr.1 (by simpa using e1)
      rw [w64_succ (by omega)]
      refine ⟨j - ((i + j) / 2 + 1), by omega, (i + j) / 2 + 1, j, rfl, rfl, by omega, by omega, hjb, rfl, rfl, fun k g1 g2 => ?_, h2⟩
      by_cases c : k = (i + j) / 2
      · rw [c]; exact hlt
      · have := ht.right k ((i + j) / 2) g1 (by omega) (by omega)
        unfold klt at this; simp only [g] at hlt ⊢; omega
    · have hge : ¬ key (g zs ((i + j) / 2)) < key (g zs a) := fun hh => by have := hr.2 hh; simp at e1; omega
      refine ⟨(i + j) / 2 - i, by omega, i, (i + j) / 2, rfl, rfl, hmi, by omega, by omega, rfl, rfl, h1, fun k g1 g2 => ?_⟩
      by_cases c : k = (i + j) / 2
      · rw [c]; exact hge
      · have := ht.right ((i + j) / 2) k (by omega) (by omega) g2
        unfold klt at this; simp only [g] at hge ⊢; omega
  · intro e
    rw [dec_nlt] at e
    have hij' : i = j := by omega
    subst hij'
    refine ⟨fun q x ys => ∃ k : Nat, x = k ∧ a ≤ k ∧ k < i ∧ q = i - k ∧ Seg a b zs ys ∧ ∀ p : Nat, p < zs.length → g ys p = if a ≤ p ∧ p < k then g zs (p + 1) else if p = k then g zs a else g zs p,
      ⟨_, a, rfl, Nat.le_refl _, by omega, rfl, Seg.refl _ _ _, fun p hp => ?_⟩, ?_⟩
    · rw [if_neg (by omega)]
      split
      · rename_i hh; rw [hh]
      · rfl
    rintro q x ys ⟨k, rfl, hak, hki, rfl, hs, hg⟩
    have hyl := hs.len
    rw [w64_pred (by omega) (by omega)]
    constructor
    · intro e2
      rw [dec_lt] at e2
      rw [w64_succ (by omega)]
      refine ⟨in_nat (by omega), in_nat (by omega), ?_⟩
      rintro y1 hy1
      have hy1l : y1.length = ys.length := by rw [hy1]; simp
      refine ⟨in_nat (by omega), ?_⟩
      rintro y2 hy2
      rw [hy1] at hy2
      simp only [Int.toNat_natCast] at hy2
      refine ⟨i - (k + 1), by omega, k + 1, rfl, by omega, by omega, rfl, hs.trans (by rw [hy2]; exact Seg.swap ⟨by omega, by omega⟩ ⟨by omega, by omega⟩ (by omega)), fun p hp => ?_⟩
      show gt y2 (p : Int) = _
      rw [hy2, sw_get (by omega) (by omega) (by omega)]
      have e3 : gt ys (k : Int) = g zs a := by
        have := hg k (by omega)
        rw [if_neg (by omega), if_pos rfl] at this; exact this
      have e4 : gt ys ((k + 1 : Nat) : Int) = g zs (k + 1) := by
        have := hg (k + 1) (by omega)
        rw [if_neg (by omega), if_neg (by omega)] at this; exact this
      have e5 := hg p hp
      by_cases c1 : p = k + 1
      · rw [if_pos c1, if_neg (by omega), if_pos c1]; exact e3
      · rw [if_neg c1]
        by_cases c2 : p = k
        · rw [if_pos c2, if_pos (by omega), e4, c2]
        · rw [if_neg c2]
          refine e5.trans ?_
          by_cases c3 : a ≤ p ∧ p < k
          · rw [if_pos c3, if_pos (by omega)]
          · rw [if_neg c3, if_neg c2, if_neg (by omega), if_neg c1]
    · intro e2
      rw [dec_nlt] at e2
      have hk : k + 1 = i := by omega
      refine h ys hs fun p q g1 g2 g3 => ?_
      have ep := hg p (by omega)
      have eq := hg q (by omega)
      show klt key (g ys p) (g ys q)
      rw [ep, eq]
      by_cases c1 : p < k
      · rw [if_pos ⟨g1, c1⟩]
        by_cases c2 : q < k
        · rw [if_pos ⟨by omega, c2⟩]; exact ht.right (p + 1) (q + 1) (by omega) (by omega) (by omega)
        · rw [if_neg (by omega)]
          by_cases c3 : q = k
          · rw [if_pos c3]; exact .inl (h1 (p + 1) (by omega) (by omega))
          · rw [if_neg c3]; exact ht.right (p + 1) q (by omega) (by omega) g3
      · rw [if_neg (show ¬ (a ≤ p ∧ p < k) by omega), if_neg (show ¬ (a ≤ q ∧ q < k) by omega), if_neg (show ¬ q = k by omega)]
        by_cases c3 : p = k
        · rw [if_pos c3]
          exact klt_of (by have := h2 q (by omega) g3; omega) (ht.cross a q (Nat.le_refl _) (by omega) (by omega) g3)
        · rw [if_neg c3]; exact ht.right p q (by omega) g2 g3
theorem sym_right (hc : Cmp key D cmp) (ham : a + 1 < m) (hmb : b = m + 1) (hb : b ≤ xs.length) (hl : xs.length ≤ 1152921504606846976) (hD : AllD D xs) (ht : Two key xs a m b) (h : ∀ ys, Seg a b xs ys → Srt key ys a b → Q ys) :
    w_slices_symMergeCmpFunc_int64 rec xs a m b cmp Q := by
  refine ⟨fun e => by rw [w64_sub (by omega) (by omega), dec_eq1] at e; omega, fun _ => ⟨fun _ => ?_, fun e => by rw [w64_sub (by omega) (by omega), dec_ne1] at e; omega⟩⟩
  refine ⟨fun q x y zs => ∃ i j : Nat, x = i ∧ y = j ∧ a ≤ i ∧ i ≤ j ∧ j ≤ m ∧ q = j - i ∧ zs = xs ∧ (∀ k : Nat, a ≤ k → k < i → ¬ key (g xs m) < key (g xs k)) ∧ (∀ k : Nat, j ≤ k → k < m → key (g xs m) < key (g xs k)),
    ⟨_, a, m, rfl, rfl, Nat.le_refl _, by omega, Nat.le_refl _, rfl, rfl, fun k h1 h2 => by omega, fun k h1 h2 => by omega⟩, ?_⟩
  rintro q x y zs ⟨i, j, rfl, rfl, hai, hij, hjm, rfl, rfl, h1, h2⟩
  constructor
  · intro e
    rw [dec_lt] at e
    rw [mid_nat (by omega)]
    refine ⟨in_nat (by omega), in_nat (by omega), hc _ _ _ (hD m (by omega)) (hD _ (by omega)) fun r hr => ⟨fun e1 => ?_, fun e1 => ?_⟩⟩
    · have hge : ¬ key (g zs m) < key (g zs ((i + j) / 2)) := fun hh => by have := hr.2 hh; simp at e1; omega
      rw [w64_succ (by omega)]
      refine ⟨j - ((i + j) / 2 + 1), by omega, (i + j) / 2 + 1, j, rfl, rfl, by omega, by omega, hjm, rfl, rfl, fun k g1 g2 => ?_, h2⟩
      by_cases c : k = (i + j) / 2
      · rw [c]; exact hge
      · have := ht.left k ((i + j) / 2) g1 (by omega) (by omega)
        unfold klt at this; simp only [g] at hge ⊢; omega
    · have hlt : key (g zs m) < key (g zs ((i + j) / 2)) := hr.1 (by simpa using e1)
      refine ⟨(i + j) / 2 - i, by omega, i, (i + j) / 2, rfl, rfl, hai, by omega, by omega, rfl, rfl, h1, fun k g1 g2 => ?_⟩
      by_cases c : k = (i + j) / 2
      · rw [c]; exact hlt
      · have := ht.left ((i + j) / 2) k (by omega) (by omega) g2
        unfold klt at this; simp only [g] at hlt ⊢; omega
  · intro e
    rw [dec_nlt] at e
    have hij' : i = j := by omega
    subst hij'
    refine ⟨fun q x ys => ∃ k : Nat, x = k ∧ i ≤ k ∧ k ≤ m ∧ k = q ∧ Seg a b zs ys ∧ ∀ p : Nat, p < zs.length → g ys p = if k < p ∧ p ≤ m then g zs (p - 1) else if p = k then g zs m else g zs p,
      ⟨_, m, rfl, by omega, Nat.le_refl _, rfl, Seg.refl _ _ _, fun p hp => ?_⟩, ?_⟩
    · rw [if_neg (by omega)]
      split
      · rename_i hh; rw [hh]
      · rfl
    rintro q x ys ⟨k, rfl, hik, hkm, rfl, hs, hg⟩
    have hyl := hs.len
    constructor
    · intro e2
      have e2' : i < k := by
        have : (i : Int) < (k : Int) := by simpa using e2
        omega
      rw [w64_pred (by omega) (by omega)]
      refine ⟨in_nat (by omega), in_nat (by omega), ?_⟩
      rintro y1 hy1
      have hy1l : y1.length = ys.length := by rw [hy1]; simp
      refine ⟨in_nat (by omega), ?_⟩
      rintro y2 hy2
      rw [hy1] at hy2
      simp only [Int.toNat_natCast] at hy2
      refine ⟨k - 1, by omega, k - 1, rfl, by omega, by omega, rfl, hs.trans (by rw [hy2]; exact Seg.swap ⟨by omega, by omega⟩ ⟨by omega, by omega⟩ (by omega)), fun p hp => ?_⟩
      show gt y2 (p : Int) = _
      rw [hy2, sw_get (by omega) (by omega) (by omega)]
      have e3 : gt ys (k : Int) = g zs m := by
        have := hg k (by omega)
        rw [if_neg (by omega), if_pos rfl] at this; exact this
      have e4 : gt ys ((k - 1 : Nat) : Int) = g zs (k - 1) := by
        have := hg (k - 1) (by omega)
        rw [if_neg (by omega), if_neg (by omega)] at this; exact this
      have e5 := hg p hp
      by_cases c1 : p = k - 1
      · rw [if_pos c1, if_neg (by omega), if_pos c1]; exact e3
      · rw [if_neg c1]
        by_cases c2 : p = k
        · rw [if_pos c2, if_pos (by omega), e4, c2]
        · rw [if_neg c2]
          refine e5.trans ?_
          by_cases c3 : k < p ∧ p ≤ m
          · rw [if_pos c3, if_pos (by omega)]
          · rw [if_neg c3, if_neg c2, if_neg (by omega), if_neg c1]
    · intro e2
      have e2' : k = i := by
        have : ¬ (i : Int) < (k : Int) := by simpa using e2
        omega
      subst e2'
      refine h ys hs fun p q g1 g2 g3 => ?_
      have ep := hg p (by omega)
      have eq := hg q (by omega)
      show klt key (g ys p) (g ys q)
      rw [ep, eq]
      by_cases c1 : k < p
      · rw [if_pos (by omega), if_pos (by omega)]; exact ht.left (p - 1) (q - 1) (by omega) (by omega) (by omega)
      · rw [if_neg (by omega)]
        by_cases c2 : p = k
        · rw [if_pos c2, if_pos (by omega)]; exact .inl (h2 (q - 1) (by omega) (by omega))
        · rw [if_neg c2]
          by_cases c3 : k < q
          · rw [if_pos (by omega)]; exact ht.left p (q - 1) g1 (by omega) (by omega)
          · rw [if_neg (by omega)]
            by_cases c4 : q = k
            · rw [if_pos c4]
              exact klt_of (by have := h1 p g1 (by omega); omega) (ht.cross p m g1 (by omega) (Nat.le_refl _) (by omega))
            · rw [if_neg c4]; exact ht.left p q g1 g2 (by omega)
end
end Go.Proofs.Ytonmmfjagkgifaa
