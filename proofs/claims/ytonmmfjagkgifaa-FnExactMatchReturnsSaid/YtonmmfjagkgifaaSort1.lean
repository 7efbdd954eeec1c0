/- Plain: the library's stable sort of whole numbers; insertion. -/
import Derived.Test.YtonmmfjagkgifaaPl1
import Derived.Test.YtonmmfjagkgifaaGW4
set_option linter.unusedVariables false
set_option linter.unusedSimpArgs false
namespace Go.Proofs.Ytonmmfjagkgifaa

theorem sw_get {xs : List Int} {i j k : Nat} (hi : i < xs.length) (hj : j < xs.length) (hk : k < xs.length) : gt ((xs.set i (gt xs (j : Int))).set j (gt xs (i : Int))) (k : Int) = if k = j then gt xs (i : Int) else if k = i then gt xs (j : Int) else gt xs (k : Int) := by
  rw [gt_set (by simpa using hk)]
  by_cases h1 : k = j
  · subst h1; simp
  · rw [if_neg (fun e => h1 e.symm), if_neg h1, gt_set hk]
    by_cases h2 : k = i
    · subst h2; simp
    · rw [if_neg (fun e => h2 e.symm), if_neg h2]
theorem sw_perm {xs : List Int} {i j : Nat} (hi : i < xs.length) (hj : j < xs.length) : ((xs.set i (gt xs (j : Int))).set j (gt xs (i : Int))).Perm xs := by
  rw [gt_nat hi, gt_nat hj]
  exact List.set_set_perm hi hj
structure Seg (a b : Nat) (xs ys : List Int) : Prop where
  len : ys.length = xs.length
  perm : ys.Perm xs
  out : ∀ k : Nat, k < xs.length → (k < a ∨ b ≤ k) → gt ys (k : Int) = gt xs (k : Int)
  into : ∀ k : Nat, a ≤ k → k < b → ∃ k' : Nat, a ≤ k' ∧ k' < b ∧ gt ys (k : Int) = gt xs (k' : Int)
theorem Seg.refl (a b : Nat) (xs : List Int) : Seg a b xs xs := ⟨rfl, .refl _, fun _ _ _ => rfl, fun k h1 h2 => ⟨k, h1, h2, rfl⟩⟩
theorem Seg.trans {a b : Nat} {xs ys zs : List Int} (h : Seg a b xs ys) (k : Seg a b ys zs) : Seg a b xs zs where
  len := k.len.trans h.len
  perm := k.perm.trans h.perm
  out i hi ho := by rw [k.out i (by rw [h.len]; exact hi) ho, h.out i hi ho]
  into i h1 h2 := by
    obtain ⟨j, j1, j2, e⟩ := k.into i h1 h2
    obtain ⟨l, l1, l2, e'⟩ := h.into j j1 j2
    exact ⟨l, l1, l2, e.trans e'⟩
theorem Seg.mono {a b a' b' : Nat} {xs ys : List Int} (h : Seg a b xs ys) (ha : a' ≤ a) (hb : b ≤ b') (hl : b' ≤ xs.length) : Seg a' b' xs ys where
  len := h.len
  perm := h.perm
  out i hi ho := h.out i hi (by omega)
  into i h1 h2 := by
    by_cases hin : a ≤ i ∧ i < b
    · obtain ⟨j, j1, j2, e⟩ := h.into i hin.1 hin.2
      exact ⟨j, by omega, by omega, e⟩
    · exact ⟨i, h1, h2, h.out i (by omega) (by omega)⟩
theorem Seg.swap {a b : Nat} {xs : List Int} {i j : Nat} (hi : a ≤ i ∧ i < b) (hj : a ≤ j ∧ j < b) (hl : b ≤ xs.length) : Seg a b xs ((xs.set i (gt xs (j : Int))).set j (gt xs (i : Int))) where
  len := by simp
  perm := sw_perm (by omega) (by omega)
  out k hk ho := by rw [sw_get (by omega) (by omega) hk, if_neg (by omega), if_neg (by omega)]
  into k h1 h2 := by
    rw [sw_get (by omega) (by omega) (by omega)]
    by_cases e1 : k = j
    · exact ⟨i, hi.1, hi.2, by rw [if_pos e1]⟩
    · by_cases e2 : k = i
      · exact ⟨j, hj.1, hj.2, by rw [if_neg e1, if_pos e2]⟩
      · exact ⟨k, h1, h2, by rw [if_neg e1, if_neg e2]⟩
/-- The order: by the key, then by the number. -/
def klt (key : Int → Int) (x y : Int) : Prop := key x < key y ∨ (key x = key y ∧ x < y)
theorem klt.trans {key : Int → Int} {x y z : Int} (h : klt key x y) (k : klt key y z) : klt key x z := by
  unfold klt at *; omega
def Srt (key : Int → Int) (xs : List Int) (a b : Nat) : Prop := ∀ p q : Nat, a ≤ p → p < q → q < b → klt key (gt xs (p : Int)) (gt xs (q : Int))
/-- What the function that compares must answer. -/
def Cmp (key : Int → Int) (D : Int → Prop) (cmp : Int → Int → (Int → Prop) → Prop) : Prop := ∀ x y (Q : Int → Prop), D x → D y → (∀ r, (r < 0 ↔ key x < key y) → Q r) → cmp x y Q
def AllD (D : Int → Prop) (xs : List Int) : Prop := ∀ k : Nat, k < xs.length → D (gt xs (k : Int))
theorem AllD.seg {D : Int → Prop} {xs ys : List Int} {a b : Nat} (h : AllD D xs) (s : Seg a b xs ys) (hb : b ≤ xs.length) : AllD D ys := fun k hk => by
  rw [s.len] at hk
  by_cases hin : a ≤ k ∧ k < b
  · obtain ⟨j, j1, j2, e⟩ := s.into k hin.1 hin.2
    rw [e]; exact h j (by omega)
  · rw [s.out k hk (by omega)]; exact h k hk
theorem w64_pred {j : Nat} (h : 0 < j) (h2 : j ≤ 9223372036854775807) : IntKind.i64.wrap ((j : Int) - 1) = ((j - 1 : Nat) : Int) := by rw [w64_id (by omega) (by omega)]; omega
theorem ok_insertion {key : Int → Int} {D : Int → Prop} {cmp : Int → Int → (Int → Prop) → Prop} (hc : Cmp key D cmp) {xs : List Int} {a b : Nat} (ha : a ≤ 4611686018427387904) (hb : b ≤ xs.length) (hl : xs.length ≤ 1152921504606846976) (hD : AllD D xs)
    (hst : ∀ p q : Nat, a ≤ p → p < q → q < b → key (gt xs (p : Int)) = key (gt xs (q : Int)) → gt xs (p : Int) < gt xs (q : Int)) {Q : List Int → Prop} (h : ∀ ys, Seg a b xs ys → Srt key ys a b → Q ys) : w_slices_insertionSortCmpFunc_int64 xs a b cmp Q := by
  refine ⟨fun m x ys => ∃ i : Nat, x = i ∧ a + 1 ≤ i ∧ (i ≤ b ∨ i = a + 1) ∧ m = b - i ∧ Seg a b xs ys ∧ Srt key ys a i ∧ ∀ p q : Nat, a ≤ p → p < q → q < b → i ≤ q → key (gt ys (p : Int)) = key (gt ys (q : Int)) → gt ys (p : Int) < gt ys (q : Int),
    ⟨_, a + 1, by rw [w64_succ (by omega)], by omega, .inr rfl, rfl, Seg.refl _ _ _, fun p q h1 h2 h3 => by omega, fun p q h1 h2 h3 _ => hst p q h1 h2 h3⟩, ?_⟩
  rintro m x ys ⟨i, rfl, hai, hib, rfl, hseg, hsrt, hcr⟩
  constructor
  · intro e
    rw [dec_lt] at e
    have hyl := hseg.len
    refine ⟨fun m2 x2 zs => ∃ j : Nat, x2 = j ∧ a ≤ j ∧ j ≤ i ∧ j = m2 ∧ Seg a b xs zs ∧ (∀ p q : Nat, a ≤ p → p < q → q ≤ i → q ≠ j → klt key (gt zs (p : Int)) (gt zs (q : Int))) ∧ (∀ p : Nat, a ≤ p → p < j → key (gt zs (p : Int)) = key (gt zs (j : Int)) → gt zs (p : Int) < gt zs (j : Int)) ∧
      ∀ p q : Nat, a ≤ p → p < q → q < b → i + 1 ≤ q → key (gt zs (p : Int)) = key (gt zs (q : Int)) → gt zs (p : Int) < gt zs (q : Int),
      ⟨_, i, rfl, by omega, Nat.le_refl _, rfl, hseg, fun p q h1 h2 h3 h4 => hsrt p q h1 h2 (by omega), fun p h1 h2 => hcr p i h1 h2 e (Nat.le_refl _), fun p q h1 h2 h3 h4 => hcr p q h1 h2 h3 (by omega)⟩, ?_⟩
    rintro m2 x2 zs ⟨j, rfl, haj, hji, rfl, hz, hp, he, hc2⟩
    have hzl := hz.len
    refine ⟨fun t => t = (decide (a < j) && decide (key (gt zs (j : Int)) < key (gt zs ((j - 1 : Nat) : Int)))), ?_, fun e1 => ?_, fun e1 => ?_⟩
    · rintro t rfl
      refine ⟨fun e2 => ?_, fun e2 => ?_⟩
      · simp only [Bool.and_eq_true, decide_eq_true_eq] at e2
        obtain ⟨h1, h2⟩ := e2
        rw [w64_pred (by omega) (by omega)]
        refine ⟨in_nat (by omega), in_nat (by omega), ?_⟩
        rintro y1 hy1
        have hy1l : y1.length = zs.length := by rw [hy1]; simp
        refine ⟨in_nat (by omega), ?_⟩
        rintro y2 hy2
        rw [hy1] at hy2
        simp only [Int.toNat_natCast] at hy2
        have hsw : Seg a b zs y2 := by rw [hy2]; exact Seg.swap ⟨by omega, by omega⟩ ⟨by omega, by omega⟩ (by omega)
        have hg : ∀ k : Nat, k < zs.length → gt y2 (k : Int) = if k = j - 1 then gt zs (j : Int) else if k = j then gt zs ((j - 1 : Nat) : Int) else gt zs (k : Int) := fun k hk => by rw [hy2, sw_get (by omega) (by omega) hk]
        refine ⟨j - 1, by omega, j - 1, rfl, by omega, by omega, rfl, hz.trans hsw, fun p q g1 g2 g3 g4 => ?_, fun p g1 g2 => ?_, fun p q g1 g2 g3 g4 => ?_⟩
        · rw [hg p (by omega), hg q (by omega), if_neg g4]
          by_cases c1 : q = j
          · rw [if_pos c1]
            by_cases c2 : p = j - 1
            · rw [if_pos c2]; exact .inl h2
            · rw [if_neg c2, if_neg (by omega)]; exact hp p (j - 1) g1 (by omega) (by omega) (by omega)
          · rw [if_neg c1]
            by_cases c2 : p = j - 1
            · rw [if_pos c2]; exact hp j q haj (by omega) g3 (by omega)
            · rw [if_neg c2]
              by_cases c3 : p = j
              · rw [if_pos c3]; exact hp (j - 1) q (by omega) (by omega) g3 (by omega)
              · rw [if_neg c3]; exact hp p q g1 g2 g3 (by omega)
        · rw [hg p (by omega), hg (j - 1) (by omega), if_neg (by omega), if_neg (by omega), if_pos rfl]
          exact he p g1 (by omega)
        · rw [hg q (by omega), if_neg (by omega), if_neg (by omega)]
          rw [hg p (by omega)]
          by_cases c2 : p = j - 1
          · rw [if_pos c2]; exact hc2 j q haj (by omega) g3 g4
          · rw [if_neg c2]
            by_cases c3 : p = j
            · rw [if_pos c3]; exact hc2 (j - 1) q (by omega) (by omega) g3 g4
            · rw [if_neg c3]; exact hc2 p q g1 g2 g3 g4
      · rw [w64_succ (by omega)]
        refine ⟨b - (i + 1), by omega, i + 1, rfl, by omega, .inl (by omega), rfl, hz, fun p q g1 g2 g3 => ?_, hc2⟩
        by_cases c1 : q = j
        · subst c1
          have hk : key (gt zs ((q - 1 : Nat) : Int)) ≤ key (gt zs (q : Int)) := by
            simp only [Bool.and_eq_false_iff, decide_eq_false_iff_not] at e2
            omega
          have h3 : klt key (gt zs ((q - 1 : Nat) : Int)) (gt zs (q : Int)) := by
            by_cases c2 : key (gt zs ((q - 1 : Nat) : Int)) = key (gt zs (q : Int))
            · exact .inr ⟨c2, he (q - 1) (by omega) (by omega) c2⟩
            · exact .inl (by omega)
          by_cases c2 : p = q - 1
          · rw [c2]; exact h3
          · exact (hp p (q - 1) g1 (by omega) (by omega) (by omega)).trans h3
        · exact hp p q g1 g2 (by omega) c1
    · have e1' : a < j := by simpa using e1
      rw [w64_pred (by omega) (by omega)]
      refine ⟨in_nat (by omega), in_nat (by omega), ?_⟩
      have hDz := hD.seg hz hb
      refine hc _ _ _ (hDz j (by omega)) (hDz (j - 1) (by omega)) fun r hr => ?_
      rw [show decide (a < j) = true by simpa using e1', Bool.true_and]
      exact decide_eq_decide.2 hr
    · have e1' : ¬ a < j := by simpa using e1
      simp [e1']
  · intro e
    rw [dec_nlt] at e
    exact h ys hseg fun p q h1 h2 h3 => hsrt p q h1 h2 (by omega)
end Go.Proofs.Ytonmmfjagkgifaa
