/- Plain: the library's stable sort of whole numbers; the merge of two sorted neighbours, the main case, and the whole sort. -/
import Derived.Test.YtonmmfjagkgifaaSort3
set_option linter.unusedVariables false
set_option linter.unusedSimpArgs false
namespace Go.Proofs.Ytonmmfjagkgifaa

theorem sym_core {key : Int → Int} {xs ys : List Int} {a m b s e mid : Nat} (ht : Two key xs a m b) (has : a ≤ s) (hsm : s ≤ m) (hme : m ≤ e) (heb : e ≤ b) (hb : b ≤ xs.length) (hmid : mid = s + (e - m))
    (f1 : a < s → e < b → key (g xs (s - 1)) ≤ key (g xs e)) (f2 : s < m → m < e → key (g xs (e - 1)) < key (g xs s)) (hg : ∀ k, k < xs.length → g ys k = rot s m e (g xs) k) :
    Two key ys a s mid ∧ Two key ys mid e b ∧ ∀ p q : Nat, a ≤ p → p < mid → mid ≤ q → q < b → klt key (g ys p) (g ys q) := by
  have r1 : ∀ k, k < s → g ys k = g xs k := fun k h => by rw [hg k (by omega)]; unfold rot; rw [if_neg (by omega)]
  have r2 : ∀ k, s ≤ k → k < mid → g ys k = g xs (k + (m - s)) := fun k h h' => by
    rw [hg k (by omega)]; unfold rot
    by_cases c : k < e
    · rw [if_pos (by omega), if_pos (by omega)]
    · rw [if_neg (by omega), show k + (m - s) = k by omega]
  have r3 : ∀ k, mid ≤ k → k < e → g ys k = g xs (k - (e - m)) := fun k h h' => by
    rw [hg k (by omega)]; unfold rot
    rw [if_pos (by omega), if_neg (by omega)]
  have r4 : ∀ k, e ≤ k → k < b → g ys k = g xs k := fun k h h' => by rw [hg k (by omega)]; unfold rot; rw [if_neg (by omega)]
  refine ⟨⟨fun p q g1 g2 g3 => ?_, fun p q g1 g2 g3 => ?_, fun p q g1 g2 g3 g4 => ?_⟩, ⟨fun p q g1 g2 g3 => ?_, fun p q g1 g2 g3 => ?_, fun p q g1 g2 g3 g4 => ?_⟩, fun p q g1 g2 g3 g4 => ?_⟩
  · show klt key (g ys p) (g ys q)
    rw [r1 p (by omega), r1 q (by omega)]; exact ht.left p q g1 g2 (by omega)
  · show klt key (g ys p) (g ys q)
    rw [r2 p (by omega) (by omega), r2 q (by omega) (by omega)]; exact ht.right _ _ (by omega) (by omega) (by omega)
  · rw [r1 p (by omega), r2 q (by omega) (by omega)]; exact ht.cross _ _ (by omega) (by omega) (by omega) (by omega)
  · show klt key (g ys p) (g ys q)
    rw [r3 p (by omega) (by omega), r3 q (by omega) (by omega)]; exact ht.left _ _ (by omega) (by omega) (by omega)
  · show klt key (g ys p) (g ys q)
    rw [r4 p (by omega) (by omega), r4 q (by omega) (by omega)]; exact ht.right _ _ (by omega) (by omega) (by omega)
  · rw [r3 p (by omega) (by omega), r4 q (by omega) (by omega)]; exact ht.cross _ _ (by omega) (by omega) (by omega) (by omega)
  · have le : ∀ {u v : Int}, klt key u v → key u ≤ key v := fun h => by unfold klt at h; omega
    by_cases c1 : p < s
    · rw [r1 p c1]
      by_cases c2 : q < e
      · rw [r3 q g3 c2]; exact ht.left _ _ (by omega) (by omega) (by omega)
      · rw [r4 q (by omega) g4]
        refine klt_of ?_ (ht.cross p q g1 (by omega) (by omega) g4)
        have e1 := f1 (by omega) (by omega)
        have e2 : key (g xs p) ≤ key (g xs (s - 1)) := by
          by_cases c : p = s - 1
          · rw [c]; omega
          · exact le (ht.left p (s - 1) g1 (by omega) (by omega))
        have e3 : key (g xs e) ≤ key (g xs q) := by
          by_cases c : q = e
          · rw [c]; omega
          · exact le (ht.right e q hme (by omega) g4)
        omega
    · rw [r2 p (by omega) g2]
      by_cases c2 : q < e
      · rw [r3 q g3 c2]
        have e1 := f2 (by omega) (by omega)
        refine .inl ?_
        have e2 : key (g xs (p + (m - s))) ≤ key (g xs (e - 1)) := by
          by_cases c : p + (m - s) = e - 1
          · rw [c]; omega
          · exact le (ht.right _ _ (by omega) (by omega) (by omega))
        have e3 : key (g xs s) ≤ key (g xs (q - (e - m))) := by
          by_cases c : q - (e - m) = s
          · rw [c]; omega
          · exact le (ht.left _ _ (by omega) (by omega) (by omega))
        omega
      · rw [r4 q (by omega) g4]; exact ht.right _ _ (by omega) (by omega) (by omega)
theorem seg_rot {xs ys : List Int} {a m b s e : Nat} (has : a ≤ s) (hsm : s ≤ m) (hme : m ≤ e) (heb : e ≤ b) (hb : b ≤ xs.length) (hlen : ys.length = xs.length) (hp : ys.Perm xs) (hg : ∀ k, k < xs.length → g ys k = rot s m e (g xs) k) : Seg a b xs ys where
  len := hlen
  perm := hp
  out k hk ho := by
    have := hg k hk
    unfold rot at this
    rw [if_neg (by omega)] at this; exact this
  into k h1 h2 := by
    have := hg k (by omega)
    unfold rot at this
    by_cases c : s ≤ k ∧ k < e
    · rw [if_pos c] at this
      by_cases c2 : k < s + (e - m)
      · rw [if_pos c2] at this; exact ⟨_, by omega, by omega, this⟩
      · rw [if_neg c2] at this; exact ⟨_, by omega, by omega, this⟩
    · rw [if_neg c] at this; exact ⟨k, h1, h2, this⟩
theorem rot_id {xs : List Int} {s m e : Nat} (hsm : s ≤ m) (hme : m ≤ e) (h : s = m ∨ m = e) : ∀ k, k < xs.length → g xs k = rot s m e (g xs) k := fun k _ => by
  unfold rot
  by_cases c : s ≤ k ∧ k < e
  · rw [if_pos c]
    by_cases c2 : k < s + (e - m)
    · rw [if_pos c2, show k + (m - s) = k by omega]
    · rw [if_neg c2, show k - (e - m) = k by omega]
  · rw [if_neg c]
theorem srt_join {key : Int → Int} {xs y1 y2 : List Int} {a m b : Nat} (ham : a ≤ m) (hmb : m ≤ b) (hb : b ≤ xs.length) (s1 : Seg a m xs y1) (s2 : Seg m b y1 y2) (k1 : Srt key y1 a m) (k2 : Srt key y2 m b) (h : ∀ p q : Nat, a ≤ p → p < m → m ≤ q → q < b → klt key (g xs p) (g xs q)) : Srt key y2 a b := fun p q g1 g2 g3 => by
  by_cases c1 : q < m
  · rw [s2.out p (by rw [s1.len]; omega) (by omega), s2.out q (by rw [s1.len]; omega) (by omega)]; exact k1 p q g1 g2 c1
  · by_cases c2 : p < m
    · rw [s2.out p (by rw [s1.len]; omega) (by omega)]
      obtain ⟨q', j1, j2, eq⟩ := s2.into q (by omega) g3
      rw [eq, s1.out q' (by omega) (by omega)]
      obtain ⟨p', i1, i2, ep⟩ := s1.into p g1 c2
      rw [ep]; exact h p' q' i1 i2 j1 j2
    · exact k2 p q (by omega) g2 g3
theorem srt_of_two {key : Int → Int} {xs : List Int} {a m b : Nat} (ht : Two key xs a m b) (h : ¬ (a < m ∧ m < b)) (ham : a ≤ m) (hmb : m ≤ b) : Srt key xs a b := fun p q g1 g2 g3 => by
  by_cases c : a < m
  · exact ht.left p q g1 g2 (by omega)
  · exact ht.right p q (by omega) g2 g3
theorem sym_main {key : Int → Int} {D : Int → Prop} {cmp : Int → Int → (Int → Prop) → Prop} {rec : List Int → Int → Int → Int → (Int → Int → (Int → Prop) → Prop) → (List Int → Prop) → Prop} {xs : List Int} {a m b : Nat} {Q : List Int → Prop} (hc : Cmp key D cmp) (ham : a + 1 < m) (hmb : m + 1 < b) (hb : b ≤ xs.length) (hl : xs.length ≤ 1152921504606846976) (hD : AllD D xs) (ht : Two key xs a m b)
    (hrec : ∀ (zs : List Int) (a' m' b' : Nat) (Q' : List Int → Prop), zs.length = xs.length → AllD D zs → a' < m' → m' < b' → b' ≤ b → b' - a' < b - a → Two key zs a' m' b' → (∀ ys, Seg a' b' zs ys → Srt key ys a' b' → Q' ys) → rec zs a' m' b' cmp Q')
    (h : ∀ ys, Seg a b xs ys → Srt key ys a b → Q ys) : w_slices_symMergeCmpFunc_int64 rec xs a m b cmp Q := by
  obtain ⟨mid, hmid⟩ : ∃ mid, mid = (a + b) / 2 := ⟨_, rfl⟩
  have e0 := mid_nat (i := a) (j := b) (by omega)
  rw [← hmid] at e0
  have e1 : IntKind.i64.wrap ((mid : Int) + (m : Int)) = ((mid + m : Nat) : Int) := w64_add (by omega)
  unfold w_slices_symMergeCmpFunc_int64
  simp only [e0, e1]
  refine ⟨fun e => by rw [w64_sub (by omega) (by omega), dec_eq1] at e; omega, fun _ => ⟨fun e => by rw [w64_sub (by omega) (by omega), dec_eq1] at e; omega, fun _ => ?_⟩⟩
  refine ⟨fun x y => ∃ lo hi : Nat, x = lo ∧ y = hi ∧ a ≤ lo ∧ mid + m ≤ lo + b ∧ lo ≤ hi ∧ hi ≤ m ∧ hi ≤ mid ∧ (lo = a ∨ lo + b = mid + m) ∧ (hi = m ∨ hi = mid), ?_, fun e => ?_, fun e => ?_⟩
  · rintro x y ⟨lo, hi, rfl, rfl, h1, h2, h3, h4, h5, h6, h7⟩
    refine ⟨fun q x y zs => ∃ i j : Nat, x = i ∧ y = j ∧ lo ≤ i ∧ i ≤ j ∧ j ≤ hi ∧ q = j - i ∧ zs = xs ∧ (∀ c : Nat, lo ≤ c → c < i → ¬ key (g xs (mid + m - 1 - c)) < key (g xs c)) ∧ (∀ c : Nat, j ≤ c → c < hi → key (g xs (mid + m - 1 - c)) < key (g xs c)),
      ⟨_, lo, hi, rfl, rfl, Nat.le_refl _, h3, Nat.le_refl _, rfl, rfl, fun c g1 g2 => by omega, fun c g1 g2 => by omega⟩, ?_⟩
    rintro q x y zs ⟨i, j, rfl, rfl, hli, hij, hjh, rfl, rfl, f1, f2⟩
    constructor
    · intro e
      rw [dec_lt] at e
      rw [mid_nat (by omega)]
      obtain ⟨c, hcc⟩ : ∃ c, c = (i + j) / 2 := ⟨_, rfl⟩
      rw [← hcc]
      have hci : i ≤ c := by omega
      have hcj : c < j := by omega
      rintro z rfl
      rw [w64_pred (by omega) (by omega), w64_sub (by omega) (by omega)]
      refine ⟨in_nat (by omega), in_nat (by omega), hc _ _ _ (hD _ (by omega)) (hD _ (by omega)) fun r hr => ⟨fun e1 => ?_, fun e1 => ?_⟩⟩
      · have hge : ¬ key (g zs (mid + m - 1 - c)) < key (g zs c) := fun hh => by have := hr.2 hh; simp at e1; omega
        rw [w64_succ (by omega)]
        refine ⟨j - (c + 1), by omega, c + 1, j, rfl, rfl, by omega, by omega, hjh, rfl, rfl, fun k g1 g2 => ?_, f2⟩
        by_cases d : k = c
        · rw [d]; exact hge
        · have l1 := ht.left k c (by omega) (by omega) (by omega)
          have l2 := ht.right (mid + m - 1 - c) (mid + m - 1 - k) (by omega) (by omega) (by omega)
          unfold klt at l1 l2; simp only [g] at hge ⊢; omega
      · have hlt : key (g zs (mid + m - 1 - c)) < key (g zs c) := hr.1 (by simpa using e1)
        refine ⟨c - i, by omega, i, c, rfl, rfl, hli, by omega, by omega, rfl, rfl, f1, fun k g1 g2 => ?_⟩
        by_cases d : k = c
        · rw [d]; exact hlt
        · have l1 := ht.left c k (by omega) (by omega) (by omega)
          have l2 := ht.right (mid + m - 1 - k) (mid + m - 1 - c) (by omega) (by omega) (by omega)
          unfold klt at l1 l2; simp only [g] at hlt ⊢; omega
    · intro e
      rw [dec_nlt] at e
      have hij' : i = j := by omega
      subst hij'
      rw [w64_sub (by omega) (by omega)]
      obtain ⟨en, hen⟩ : ∃ en, en = mid + m - i := ⟨_, rfl⟩
      rw [← hen]
      have hmid' : mid = i + (en - m) := by omega
      refine ⟨fun ys => ys.length = zs.length ∧ ys.Perm zs ∧ ∀ k, k < zs.length → g ys k = rot i m en (g zs) k, ?_, fun e2 => ?_, fun e2 => ?_⟩
      · rintro ys ⟨hyl, hyp, hyg⟩
        have hsg : Seg a b zs ys := seg_rot (by omega) (by omega) (by omega) (by omega) hb hyl hyp hyg
        obtain ⟨t1, t2, t3⟩ := sym_core ht (s := i) (e := en) (by omega) (by omega) (by omega) (by omega) hb hmid'
          (fun c1 c2 => by
            have := f1 (i - 1) (by omega) (by omega)
            rw [show mid + m - 1 - (i - 1) = en by omega] at this; omega)
          (fun c1 c2 => by
            have := f2 i (Nat.le_refl _) (by omega)
            rw [show mid + m - 1 - i = en - 1 by omega] at this; exact this) hyg
        have hDy := hD.seg hsg hb
        refine ⟨fun y1 => Seg a mid ys y1 ∧ Srt key y1 a mid, ?_, fun e3 => ?_, fun e3 => ?_⟩
        · rintro y1 ⟨s1, k1⟩
          have hy1 := s1.len
          rintro z rfl
          have t2' : Two key y1 mid en b := ⟨fun p q g1 g2 g3 => by rw [s1.out p (by omega) (by omega), s1.out q (by omega) (by omega)]; exact t2.left p q g1 g2 g3,
            fun p q g1 g2 g3 => by rw [s1.out p (by omega) (by omega), s1.out q (by omega) (by omega)]; exact t2.right p q g1 g2 g3,
            fun p q g1 g2 g3 g4 g5 => by
              have e1 : g y1 p = g ys p := s1.out p (by omega) (by omega)
              have e2 : g y1 q = g ys q := s1.out q (by omega) (by omega)
              rw [e1, e2] at g5 ⊢; exact t2.cross p q g1 g2 g3 g4 g5⟩
          have fin : ∀ y2, Seg mid b y1 y2 → Srt key y2 mid b → Q y2 := fun y2 s2 k2 => h y2 (hsg.trans ((s1.mono (Nat.le_refl _) (by omega) (by omega)).trans (s2.mono (by omega) (Nat.le_refl _) (by omega)))) (srt_join (by omega) (by omega) (by omega) s1 s2 k1 k2 t3)
          refine ⟨fun e4 => ?_, fun e4 => ?_⟩
          · have e5 : mid < en ∧ en < b := by simpa using e4
            refine ⟨by omega, hrec y1 mid en b _ (by omega) (hDy.seg s1 (by omega)) e5.1 e5.2 (Nat.le_refl _) (by omega) t2' fin⟩
          · have e5 : ¬ (mid < en ∧ en < b) := fun hh => by
              have e6 : ((mid : Nat) : Int) < en := by omega
              have e7 : ((en : Nat) : Int) < b := by omega
              simp [e6, e7] at e4
            exact fin y1 (Seg.refl _ _ _) (srt_of_two t2' e5 (by omega) (by omega))
        · have e5 : a < i ∧ i < mid := by simpa using e3
          exact ⟨by omega, hrec ys a i mid _ hyl hDy e5.1 e5.2 (by omega) (by omega) t1 fun y1 s1 k1 => ⟨s1, k1⟩⟩
        · have e5 : ¬ (a < i ∧ i < mid) := fun hh => by
              have e6 : ((a : Nat) : Int) < i := by omega
              have e7 : ((i : Nat) : Int) < mid := by omega
              simp [e6, e7] at e3
          exact ⟨Seg.refl _ _ _, srt_of_two t1 e5 (by omega) (by omega)⟩
      · have e5 : i < m ∧ m < en := by simpa using e2
        exact ⟨by omega, ok_rotate e5.1 e5.2 (by omega) hl fun ys g1 g2 g3 => ⟨g1, g2, g3⟩⟩
      · have e5 : ¬ (i < m ∧ m < en) := fun hh => by
              have e6 : ((i : Nat) : Int) < m := by omega
              have e7 : ((m : Nat) : Int) < en := by omega
              simp [e6, e7] at e2
        exact ⟨rfl, .refl _, rot_id (by omega) (by omega) (by omega)⟩
  · have e5 : mid < m := by simpa using e
    exact ⟨mid + m - b, mid, by rw [w64_sub (by omega) (by omega)], rfl, by omega, by omega, by omega, by omega, by omega, by omega, by omega⟩
  · have e5 : ¬ mid < m := by simpa using e
    exact ⟨a, m, rfl, rfl, by omega, by omega, by omega, by omega, by omega, by omega, by omega⟩
theorem ok_symMerge {key : Int → Int} {D : Int → Prop} {cmp : Int → Int → (Int → Prop) → Prop} (hc : Cmp key D cmp) : ∀ (n : Nat) {xs : List Int} {a m b : Nat} {Q : List Int → Prop}, a < m → m < b → b ≤ xs.length → xs.length ≤ 1152921504606846976 → b - a ≤ n → AllD D xs → Two key xs a m b →
    (∀ ys, Seg a b xs ys → Srt key ys a b → Q ys) → W_slices_symMergeCmpFunc_int64 n xs a m b cmp Q := by
  intro n
  induction n with
  | zero => intro xs a m b Q h1 h2 h3 h4 h5; omega
  | succ n ih =>
    intro xs a m b Q h1 h2 h3 h4 h5 hD ht h
    show w_slices_symMergeCmpFunc_int64 (W_slices_symMergeCmpFunc_int64 n) xs a m b cmp Q
    by_cases c1 : m = a + 1
    · exact sym_left hc c1 h2 h3 h4 hD ht h
    · by_cases c2 : b = m + 1
      · exact sym_right hc (by omega) c2 h3 h4 hD ht h
      · exact sym_main hc (by omega) (by omega) h3 h4 hD ht (fun zs a' m' b' Q' g1 g2 g3 g4 g5 g6 g7 g8 => ih g3 g4 (by omega) (by omega) (by omega) g2 g7 g8) h
end Go.Proofs.Ytonmmfjagkgifaa
