/- Nets, plain: the way that both tell, and that the program's test is the reference's. -/
import Derived.Test.YtonmmfjagkgifaaFwd
import Derived.Test.YtonmmfjagkgifaaLoc
set_option linter.unusedVariables false
set_option linter.unusedSimpArgs false
namespace Go.Proofs.Ytonmmfjagkgifaa

/-- The hours of one station, by lanes from one station. -/
def rideL (n : NetD) (last s : Nat) (f : Nat → Bool) (ls : List LaneD) : Nat → Bool := fun u => ls.any fun l => decide (l.frm = last) && decide (l.to = s) && rideB l n f 0 301 u
theorem rideL_snoc (n : NetD) (last s : Nat) (f : Nat → Bool) (ls : List LaneD) (l : LaneD) (u : Nat) : rideL n last s f (ls ++ [l]) u = (rideL n last s f ls u || (decide (l.frm = last) && decide (l.to = s) && rideB l n f 0 301 u)) := by
  simp [rideL]
theorem bool_ext {a b : Bool} (h : a = true ↔ b = true) : a = b := by cases a <;> cases b <;> simp_all
theorem ride_step {n : NetD} (hv : validNet n = true) {G f : Nat → Bool} {last s : Nat} (hG : At last G) (hf : ∀ h, h < 301 → f h = G (last * 301 + h)) (u : Nat) (hu : u < 301) :
    rideL n last s f n.lanes u = stepL n G (n.lanes.filter (toSt s)) (s * 301 + u) := by
  apply bool_ext
  simp only [rideL, rideB, stepL, List.any_eq_true, Bool.and_eq_true, List.mem_range, List.mem_filter, toSt, decide_eq_true_eq]
  constructor
  · rintro ⟨l, hl, ⟨hfr, hto⟩, h, hh, hfh, hs⟩
    refine ⟨l, ⟨hl, hto⟩, h, hh, ?_, ?_⟩
    · rw [hf h hh] at hfh
      rw [show l.frm.toNat = last by omega]; exact hfh
    · rw [show l.to.toNat = s by omega]
      simp only [spn, decide_eq_true_eq] at hs ⊢
      omega
  · rintro ⟨l, ⟨hl, hto⟩, h, hh, hg, hs⟩
    obtain ⟨h', hh', e⟩ := hG _ hg
    obtain ⟨ff, t, hlv⟩ := laneV_of hv hl
    obtain ⟨e1, e2, f8, t8, l1, lm, m40, s0, s40⟩ := hlv
    have e3 : l.frm.toNat = last ∧ h = h' := by omega
    obtain ⟨e4, rfl⟩ := e3
    refine ⟨l, hl, ⟨by omega, hto⟩, h, hh, ?_, ?_⟩
    · rw [hf h hh, ← e4]; exact hg
    · rw [show l.to.toNat = s by omega] at hs
      simp only [spn, decide_eq_true_eq] at hs ⊢
      omega
theorem meet_one {g c f d : Nat → Bool} {s : Nat} (hs : s < 8) (hg : At s g) (hf : ∀ h, h < 301 → f h = g (s * 301 + h)) (hd : ∀ h, h < 301 → d h = c (s * 301 + h)) : ((List.range 301).any fun h => f h && d h) = meetG g c := by
  apply bool_ext
  simp only [meetG, List.any_eq_true, Bool.and_eq_true, List.mem_range]
  constructor
  · rintro ⟨h, hh, h1, h2⟩
    exact ⟨s, hs, h, hh, by rw [← hf h hh]; exact h1, by rw [← hd h hh]; exact h2⟩
  · rintro ⟨s', hs', h, hh, h1, h2⟩
    obtain ⟨h', hh', e⟩ := hg _ h1
    have e3 : s' = s ∧ h = h' := by omega
    obtain ⟨rfl, rfl⟩ := e3
    exact ⟨h, hh, by rw [hf h hh]; exact h1, by rw [hd h hh]; exact h2⟩

def aheads (n : NetD) (j0 m : Nat) : List (List Value) := (List.range m).map fun k => gcells 2408 (ahead n j0 k)
theorem aheads_len (n : NetD) (j0 m : Nat) : (aheads n j0 m).length = m := by simp [aheads]
theorem aheads_get (n : NetD) (j0 m i : Nat) (h : i < m) : (aheads n j0 m).getD i [] = gcells 2408 (ahead n j0 i) := by simp [aheads, List.getD_eq_getElem?_getD, h]
theorem aheads_succ (n : NetD) (j0 m : Nat) : aheads n j0 (m + 1) = aheads n j0 m ++ [gcells 2408 (ahead n j0 m)] := by simp [aheads, List.range_succ]
theorem pick_some {n : NetD} {ah now : Nat → Bool} {s : Nat} (hs : s < n.st.toNat) (hno : ∀ r, r < s → meetG (stepL n now (n.lanes.filter (toSt r))) ah = false) (hy : meetG (stepL n now (n.lanes.filter (toSt s))) ah = true) : pick n ah now = some s := by
  unfold pick
  rw [List.find?_eq_some_iff_getElem]
  refine ⟨hy, s, by simpa using hs, by simp, fun j hj => ?_⟩
  have := hno j hj
  simp [this]
theorem pick_none {n : NetD} {ah now : Nat → Bool} (hno : ∀ r, r < n.st.toNat → meetG (stepL n now (n.lanes.filter (toSt r))) ah = false) : pick n ah now = none := by
  unfold pick
  rw [List.find?_eq_none]
  intro r hr
  have := hno r (by simpa using hr)
  simp [this]
/-- The least number of lanes. -/
structure LeastK (n : NetD) (i0 j0 K : Nat) : Prop where
  one : 1 ≤ K
  few : K ≤ 300
  yes : ahead n j0 K i0 = true
  no : ∀ k, 1 ≤ k → k < K → ahead n j0 k i0 = false
theorem leastK_some {n : NetD} (hv : validNet n = true) {i0 j0 : Nat} (h : Reach n i0 j0) : ∃ K, LeastK n i0 j0 K := by
  obtain ⟨k, h1, h2, h3⟩ := ahead_some hv h
  have key : ∀ m, m ≤ 300 → (∃ K, LeastK n i0 j0 K) ∨ ∀ k, 1 ≤ k → k ≤ m → ahead n j0 k i0 = false := by
    intro m
    induction m with
    | zero => intro _; exact .inr fun k h1 h2 => by omega
    | succ m ih =>
      intro hm
      rcases ih (by omega) with h | h
      · exact .inl h
      · cases e : ahead n j0 (m + 1) i0 with
        | true => exact .inl ⟨m + 1, by omega, hm, e, fun k h1 h2 => h k h1 (by omega)⟩
        | false =>
          refine .inr fun k h1 h2 => ?_
          by_cases e' : k = m + 1
          · subst e'; exact e
          · exact h k h1 (by omega)
  rcases key 300 (by omega) with h | h
  · exact h
  · rw [h k h1 h2] at h3; cases h3
theorem LeastK.uniq {n : NetD} {i0 j0 K K' : Nat} (h : LeastK n i0 j0 K) (h' : LeastK n i0 j0 K') : K = K' := by
  rcases Nat.lt_trichotomy K K' with hl | hl | hl
  · have := h'.no K h.one hl; rw [h.yes] at this; cases this
  · exact hl
  · have := h.no K' h'.one hl; rw [h'.yes] at this; cases this
def place (a : Int × Int) : Nat := a.1.toNat * 301 + a.2.toNat
def fewOut (n : NetD) (a b : Int × Int) (K : Nat) : List Nat := fwd n (place b) K (only (place a)) [a.1.toNat]
def scanCode2 (n : NetD) (a b : Int × Int) : Int := netCode n [a.1, b.1] [a.2, b.2]
inductive FewRes (n : NetD) (a b : Int × Int) : List Nat → Int → Prop
  | bad (h : scanCode2 n a b ≠ 0) : FewRes n a b [] (scanCode2 n a b)
  | none (h : scanCode2 n a b = 0) (hr : ¬ Reach n (place a) (place b)) : FewRes n a b [] 6
  | way (h : scanCode2 n a b = 0) (hr : Reach n (place a) (place b)) {K : Nat} (hK : LeastK n (place a) (place b) K) : FewRes n a b (fewOut n a b K) 0
theorem FewRes.uniq {n : NetD} {a b : Int × Int} {o o' : List Nat} {c c' : Int} (h : FewRes n a b o c) (h' : FewRes n a b o' c') : o = o' ∧ c = c' := by
  cases h with
  | bad h => cases h' with
    | bad h' => exact ⟨rfl, rfl⟩
    | none h' => exact absurd h' h
    | way h' => exact absurd h' h
  | none h hr => cases h' with
    | bad h' => exact absurd h h'
    | none h' => exact ⟨rfl, rfl⟩
    | way h' hr' => exact absurd hr' hr
  | way h hr hK => cases h' with
    | bad h' => exact absurd h h'
    | none h' hr' => exact absurd hr hr'
    | way h' hr' hK' => rw [hK.uniq hK']; exact ⟨rfl, rfl⟩
theorem fwd_len (n : NetD) (j0 : Nat) : ∀ (k : Nat) (now : Nat → Bool) (out : List Nat), (fwd n j0 k now out).length ≤ out.length + k
  | 0, now, out => by simp [fwd]
  | k + 1, now, out => by
    rw [fwd]
    split
    · have := fwd_len n j0 k (stepL n now (n.lanes.filter (toSt ‹Nat›))) (out ++ [‹Nat›])
      simp at this ⊢; omega
    · have := fwd_len n j0 k now out
      omega
theorem FewRes.len {n : NetD} {a b : Int × Int} {o : List Nat} {c : Int} (h : FewRes n a b o c) : o.length ≤ 301 := by
  cases h with
  | bad h => simp
  | none h => simp
  | way h hr hK =>
    have := fwd_len n (place b) ‹Nat› (only (place a)) [a.1.toNat]
    have := hK.few
    unfold fewOut
    simp at *; omega
theorem code2_ok {n : NetD} {a b : Int × Int} (h : scanCode2 n a b = 0) : validNet n = true ∧ (0 ≤ a.1 ∧ a.1 < n.st ∧ 0 ≤ a.2 ∧ a.2 ≤ 300) ∧ (0 ≤ b.1 ∧ b.1 < n.st ∧ 0 ≤ b.2 ∧ b.2 ≤ 300) ∧ n.st ≤ 8 := by
  unfold scanCode2 netCode at h
  cases hv : validNet n with
  | false => rw [hv] at h; simp at h
  | true =>
    rw [hv] at h
    simp only [Bool.not_true, Bool.false_eq_true, if_false] at h
    split at h
    · rename_i hc
      simp only [List.all_cons, List.all_nil, Bool.and_true, Bool.and_eq_true, isSt, within, decide_eq_true_eq] at hc
      have hv' := hv
      simp only [validNet, within, Bool.and_eq_true, decide_eq_true_eq] at hv'
      exact ⟨rfl, by omega, by omega, by omega⟩
    · simp at h
end Go.Proofs.Ytonmmfjagkgifaa
