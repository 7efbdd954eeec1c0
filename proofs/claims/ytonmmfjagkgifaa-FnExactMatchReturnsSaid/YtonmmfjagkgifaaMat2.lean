/- Plain: the matching of returns to orders, what it is. -/
import Derived.Test.YtonmmfjagkgifaaMat1
import Derived.Test.YtonmmfjagkgifaaSort5
set_option linter.unusedVariables false
set_option linter.unusedSimpArgs false
namespace Go.Proofs.Ytonmmfjagkgifaa

structure goodO (o : S_Order) : Prop where
  n0 : 1 ≤ o.fNumber
  n1 : o.fNumber ≤ 100
  d0 : 0 ≤ o.fDay
  d1 : o.fDay ≤ 1000
structure goodR (r : S_Return) : Prop where
  n0 : 1 ≤ r.fNumber
  n1 : r.fNumber ≤ 100
  d0 : 0 ≤ r.fDay
  d1 : r.fDay ≤ 1000
def can (o : S_Order) (r : S_Return) (days : Int) : Bool := decide (o.fBuyer = r.fBuyer) && decide (o.fItem = r.fItem) && within (r.fDay - o.fDay) 0 days
theorem dayW {o : S_Order} {r : S_Return} (ho : goodO o) (hr : goodR r) : IntKind.i64.wrap (IntKind.i64.wrap r.fDay - IntKind.i64.wrap o.fDay) = r.fDay - o.fDay := by
  have := ho.d0; have := ho.d1; have := hr.d0; have := hr.d1
  rw [w64_id (n := r.fDay) (by omega) (by omega), w64_id (n := o.fDay) (by omega) (by omega), w64_id (by omega) (by omega)]
theorem ok_canMatch {o : S_Order} {r : S_Return} {days : Int} (ho : goodO o) (hr : goodR r) {Q : Bool → Prop} (h : Q (can o r days)) : w_impl_canMatch o r days Q := by
  refine ⟨fun x => x = can o r days, ?_, fun e => ok_within ?_, fun e => ?_⟩
  · rintro x rfl; exact h
  · rw [dayW ho hr]
    simp only [can, e, Bool.true_and]
  · simp only [can, e, Bool.false_and]
theorem ok_l06Can {o : S_Order} {r : S_Return} {days : Int} (ho : goodO o) (hr : goodR r) {Q : Bool → Prop} (h : Q (can o r days)) : w_spec_l06Can o r days Q := by
  rintro z rfl
  rw [dayW ho hr]
  have e : decide (o.fDay ≤ r.fDay) = decide (0 ≤ r.fDay - o.fDay) := decide_eq_decide.2 (by omega)
  rw [e, Bool.and_assoc]
  exact h
/-! ### the order of the orders -/
def keyD (os : List S_Order) (x : Int) : Int := (gt os x).fDay
def leD (os : List S_Order) (x y : Int) : Bool := decide (keyD os x < keyD os y ∨ (keyD os x = keyD os y ∧ x ≤ y))
def ix (n : Nat) : List Int := (List.range n).map fun i : Nat => (i : Int)
theorem ix_len (n : Nat) : (ix n).length = n := by simp [ix]
theorem ix_gt {n i : Nat} (h : i < n) : gt (ix n) (i : Int) = (i : Int) := gt_map h
theorem ix_mem {n : Nat} {x : Int} : x ∈ ix n ↔ ∃ i : Nat, i < n ∧ x = i := by
  simp only [ix, List.mem_map, List.mem_range]
  exact ⟨fun ⟨i, h, e⟩ => ⟨i, h, e.symm⟩, fun ⟨i, h, e⟩ => ⟨i, h, e.symm⟩⟩
def ordered (os : List S_Order) : List Int := (ix os.length).mergeSort (leD os)
theorem leD_trans (os : List S_Order) (a b c : Int) (h : leD os a b = true) (k : leD os b c = true) : leD os a c = true := by
  simp only [leD, decide_eq_true_eq] at *; omega
theorem leD_total (os : List S_Order) (a b : Int) : (leD os a b || leD os b a) = true := by
  simp only [leD, Bool.or_eq_true, decide_eq_true_eq]; omega
theorem ordered_perm (os : List S_Order) : (ordered os).Perm (ix os.length) := List.mergeSort_perm _ _
theorem ordered_pw (os : List S_Order) : (ordered os).Pairwise fun x y => leD os x y = true := List.pairwise_mergeSort (leD_trans os) (leD_total os) _
theorem ordered_mem {os : List S_Order} {x : Int} : x ∈ ordered os ↔ ∃ i : Nat, i < os.length ∧ x = i := by rw [(ordered_perm os).mem_iff, ix_mem]
theorem ordered_len (os : List S_Order) : (ordered os).length = os.length := by rw [(ordered_perm os).length_eq, ix_len]
theorem ordered_of {os : List S_Order} {ys : List Int} (hp : ys.Perm (ix os.length)) (hs : Srt (keyD os) ys 0 ys.length) : ys = ordered os := by
  refine List.Perm.eq_of_pairwise (le := fun x y => leD os x y = true) ?_ ?_ (ordered_pw os) (hp.trans (ordered_perm os).symm)
  · intro a b _ _ h k
    simp only [leD, decide_eq_true_eq] at h k; omega
  · rw [List.pairwise_iff_getElem]
    intro i j hi hj hij
    have := hs i j (by omega) hij hj
    rw [gt_nat hi, gt_nat hj] at this
    unfold klt at this
    simp only [leD, decide_eq_true_eq]; omega
theorem ordered_split {os : List S_Order} {b : Int} (hb : b ∈ ordered os) : ∃ pre post, ordered os = pre ++ b :: post ∧ ∀ p ∈ pre, p ≠ b ∧ klt (keyD os) p b := by
  obtain ⟨pre, post, e, hn⟩ := List.eq_append_cons_of_mem hb
  refine ⟨pre, post, e, fun p hp => ?_⟩
  have hne : p ≠ b := fun h => hn (h ▸ hp)
  have h := ordered_pw os
  rw [e, List.pairwise_append] at h
  have := h.2.2 p hp b (by simp)
  simp only [leD, decide_eq_true_eq] at this
  exact ⟨hne, by unfold klt; omega⟩
/-! ### one return's run over the orders -/
structure MS where
  left : Int
  hv : List Int
  ms : List S_Match
def zOf (s : MS) (j : Int) : Int := if gt s.hv j < s.left then gt s.hv j else s.left
def elig (os : List S_Order) (r : S_Return) (days : Int) (s : MS) (j : Int) : Bool := decide (0 < zOf s j) && can (gt os j) r days
def stp (os : List S_Order) (r : S_Return) (days : Int) (i : Int) (s : MS) (j : Int) : MS :=
  if elig os r days s j = true then ⟨s.left - zOf s j, s.hv.set j.toNat (gt s.hv j - zOf s j), s.ms ++ [⟨IntKind.i8.wrap i, IntKind.i8.wrap j, zOf s j⟩]⟩ else s
def run (os : List S_Order) (r : S_Return) (days : Int) (i : Int) (s : MS) (l : List Int) : MS := l.foldl (stp os r days i) s
structure FitH (n : Nat) (hv : List Int) : Prop where
  len : hv.length = n
  has : ∀ k : Nat, k < n → 0 ≤ gt hv (k : Int) ∧ gt hv (k : Int) ≤ 100
structure Fit (n : Nat) (s : MS) : Prop where
  h : FitH n s.hv
  l0 : 0 ≤ s.left
  l1 : s.left ≤ 100
theorem zOf_le {n : Nat} {s : MS} (hf : Fit n s) {k : Nat} (hk : k < n) : 0 ≤ zOf s k ∧ zOf s k ≤ 100 ∧ zOf s k ≤ s.left ∧ zOf s k ≤ gt s.hv (k : Int) := by
  have := hf.h.has k hk; have := hf.l0; have := hf.l1
  unfold zOf
  split <;> omega
theorem stp_fit {os : List S_Order} {r : S_Return} {days i : Int} {n : Nat} {s : MS} (hf : Fit n s) {k : Nat} (hk : k < n) : Fit n (stp os r days i s k) := by
  unfold stp
  have hz := zOf_le hf hk
  split
  · rename_i he
    refine ⟨⟨by simp [hf.h.len], fun m hm => ?_⟩, ?_, ?_⟩
    · show 0 ≤ gt (s.hv.set k _) (m : Int) ∧ gt (s.hv.set k _) (m : Int) ≤ 100
      rw [gt_set (by rw [hf.h.len]; exact hm)]
      have := hf.h.has m hm; have := hf.h.has k hk
      split <;> omega
    · have := hf.l0; show 0 ≤ s.left - _; omega
    · have := hf.l1; show s.left - _ ≤ _; omega
  · exact hf
theorem stp_len {os : List S_Order} {r : S_Return} {days i : Int} {s : MS} {j : Int} : s.ms.length ≤ (stp os r days i s j).ms.length ∧ (stp os r days i s j).ms.length ≤ s.ms.length + 1 := by
  unfold stp
  split
  · simp
  · omega
theorem run_cons (os : List S_Order) (r : S_Return) (days i : Int) (s : MS) (j : Int) (l : List Int) : run os r days i s (j :: l) = run os r days i (stp os r days i s j) l := rfl
theorem run_app (os : List S_Order) (r : S_Return) (days i : Int) (s : MS) (l l' : List Int) : run os r days i s (l ++ l') = run os r days i (run os r days i s l) l' := List.foldl_append
theorem run_fit {os : List S_Order} {r : S_Return} {days i : Int} {n : Nat} : ∀ (l : List Int) {s : MS}, (∀ x ∈ l, ∃ k : Nat, k < n ∧ x = k) → Fit n s → Fit n (run os r days i s l)
  | [], s, _, hf => hf
  | j :: l, s, hl, hf => by
    obtain ⟨k, hk, rfl⟩ := hl j (by simp)
    rw [run_cons]
    exact run_fit l (fun x hx => hl x (by simp [hx])) (stp_fit hf hk)
theorem run_len {os : List S_Order} {r : S_Return} {days i : Int} : ∀ (l : List Int) {s : MS}, s.ms.length ≤ (run os r days i s l).ms.length ∧ (run os r days i s l).ms.length ≤ s.ms.length + l.length
  | [], s => ⟨Nat.le_refl _, Nat.le_refl _⟩
  | j :: l, s => by
    rw [run_cons]
    have h1 := stp_len (os := os) (r := r) (days := days) (i := i) (s := s) (j := j)
    have h2 := run_len (os := os) (r := r) (days := days) (i := i) l (s := stp os r days i s j)
    rw [List.length_cons]
    omega
theorem run_idle {os : List S_Order} {r : S_Return} {days i : Int} : ∀ (l : List Int) {s : MS}, (∀ x ∈ l, elig os r days s x = false) → run os r days i s l = s
  | [], s, _ => rfl
  | j :: l, s, h => by
    rw [run_cons, stp, if_neg (by rw [h j (by simp)]; simp)]
    exact run_idle l fun x hx => h x (by simp [hx])
theorem elig_mono {os : List S_Order} {r : S_Return} {days i : Int} {n : Nat} {s : MS} (hf : Fit n s) {b k : Nat} (hb : b < n) (hk : k < n) (h : elig os r days s k = false) : elig os r days (stp os r days i s b) k = false := by
  have hz : zOf (stp os r days i s b) k ≤ zOf s k := by
    have hb' := zOf_le hf hb
    unfold stp
    split
    · rename_i he
      have h1 : gt (s.hv.set b (gt s.hv (b : Int) - zOf s b)) (k : Int) ≤ gt s.hv (k : Int) := by
        rw [gt_set (by rw [hf.h.len]; exact hk)]
        split
        · rename_i e; subst e; omega
        · omega
      have h2 := hb'.1
      show (if gt (s.hv.set b (gt s.hv (b : Int) - zOf s b)) (k : Int) < s.left - zOf s b then gt (s.hv.set b (gt s.hv (b : Int) - zOf s b)) (k : Int) else s.left - zOf s b) ≤ if gt s.hv (k : Int) < s.left then gt s.hv (k : Int) else s.left
      split <;> split <;> omega
    · omega
  unfold elig at h ⊢
  rw [Bool.and_eq_false_iff] at h ⊢
  rcases h with h | h
  · exact .inl (by rw [decide_eq_false_iff_not] at h ⊢; omega)
  · exact .inr h
theorem run_take {os : List S_Order} {r : S_Return} {days i : Int} {s : MS} (hf : Fit os.length s) {b : Nat} (hb : b < os.length) (he : elig os r days s b = true) (hbest : ∀ k : Nat, k < os.length → elig os r days s k = true → k = b ∨ klt (keyD os) b k) :
    run os r days i (stp os r days i s b) (ordered os) = run os r days i s (ordered os) := by
  obtain ⟨pre, post, e, hp⟩ := ordered_split (os := os) (b := (b : Int)) (ordered_mem.2 ⟨b, hb, rfl⟩)
  have hpre : ∀ x ∈ pre, ∃ k : Nat, k < os.length ∧ x = k := fun x hx => ordered_mem.1 (by rw [e]; simp [hx])
  have hidle : ∀ x ∈ pre, elig os r days s x = false := fun x hx => by
    obtain ⟨k, hk, rfl⟩ := hpre x hx
    have := hp _ hx
    cases hh : elig os r days s (k : Int) with
    | false => rfl
    | true =>
      rcases hbest k hk hh with h | h
      · exact absurd (by rw [h]) this.1
      · have h2 := this.2; unfold klt at h h2; omega
  have hidle2 : ∀ x ∈ pre, elig os r days (stp os r days i s b) x = false := fun x hx => by
    obtain ⟨k, hk, rfl⟩ := hpre x hx
    exact elig_mono hf hb hk (hidle _ hx)
  have hfin : elig os r days (stp os r days i s b) (b : Int) = false := by
    have hz : zOf (stp os r days i s b) (b : Int) ≤ 0 := by
      rw [stp, if_pos he]
      have e1 : gt (s.hv.set b (gt s.hv (b : Int) - zOf s b)) (b : Int) = gt s.hv (b : Int) - zOf s b := gt_set_self (by rw [hf.h.len]; exact hb)
      show (if gt (s.hv.set b (gt s.hv (b : Int) - zOf s b)) (b : Int) < s.left - zOf s b then gt (s.hv.set b (gt s.hv (b : Int) - zOf s b)) (b : Int) else s.left - zOf s b) ≤ 0
      rw [e1]
      unfold zOf
      split <;> split <;> omega
    unfold elig
    rw [show decide (0 < zOf (stp os r days i s b) (b : Int)) = false by rw [decide_eq_false_iff_not]; omega, Bool.false_and]
  rw [e, run_app, run_app, run_idle pre hidle, run_idle pre hidle2, run_cons, run_cons]
  congr 1
  conv => lhs; rw [stp]
  rw [if_neg (by rw [hfin]; simp)]
/-- The runs of all returns, the first k. -/
structure MAR where
  over : List Int
  hv : List Int
  ms : List S_Match
def s0 (rs : List S_Return) (k : Nat) (t : MAR) : MS := ⟨(gt rs (k : Int)).fNumber, t.hv, t.ms⟩
def allR (os : List S_Order) (rs : List S_Return) (days : Int) : Nat → MAR
  | 0 => ⟨[], (List.range os.length).map fun j : Nat => (gt os (j : Int)).fNumber, []⟩
  | k + 1 =>
    let s := run os (gt rs (k : Int)) days k (s0 rs k (allR os rs days k)) (ordered os)
    ⟨(allR os rs days k).over ++ [IntKind.i64.wrap s.left], s.hv, s.ms⟩
structure Good (os : List S_Order) (rs : List S_Return) : Prop where
  o : ∀ k : Nat, k < os.length → goodO (gt os (k : Int))
  r : ∀ k : Nat, k < rs.length → goodR (gt rs (k : Int))
  ol : os.length ≤ 40
  rl : rs.length ≤ 40
theorem all_fit {os : List S_Order} {rs : List S_Return} {days : Int} (hg : Good os rs) : ∀ {k : Nat}, k ≤ rs.length → FitH os.length (allR os rs days k).hv
  | 0, _ => ⟨by simp [allR], fun k hk => by
      show 0 ≤ gt ((List.range os.length).map fun j : Nat => (gt os (j : Int)).fNumber) (k : Int) ∧ gt ((List.range os.length).map fun j : Nat => (gt os (j : Int)).fNumber) (k : Int) ≤ 100
      rw [gt_map hk]
      have := (hg.o k hk).n0; have := (hg.o k hk).n1
      omega⟩
  | k + 1, hk => (run_fit (ordered os) (fun x hx => ordered_mem.1 hx) ⟨all_fit hg (by omega), by have := (hg.r k hk).n0; show 0 ≤ (gt rs (k : Int)).fNumber; omega, (hg.r k hk).n1⟩).h
theorem all_fit0 {os : List S_Order} {rs : List S_Return} {days : Int} (hg : Good os rs) {k : Nat} (hk : k < rs.length) : Fit os.length (s0 rs k (allR os rs days k)) :=
  ⟨all_fit hg (by omega), by have := (hg.r k hk).n0; show 0 ≤ (gt rs (k : Int)).fNumber; omega, (hg.r k hk).n1⟩
theorem all_len {os : List S_Order} {rs : List S_Return} {days : Int} : ∀ k : Nat, (allR os rs days k).ms.length ≤ k * os.length
  | 0 => by simp [allR]
  | k + 1 => by
    have h1 := all_len (os := os) (rs := rs) (days := days) k
    have h2 := (run_len (os := os) (r := gt rs (k : Int)) (days := days) (i := k) (ordered os) (s := s0 rs k (allR os rs days k))).2
    rw [ordered_len] at h2
    have h3 : (s0 rs k (allR os rs days k)).ms.length = (allR os rs days k).ms.length := rfl
    show (run _ _ _ _ _ _).ms.length ≤ _
    rw [Nat.add_mul]; omega
theorem all_len' {os : List S_Order} {rs : List S_Return} {days : Int} (hg : Good os rs) {k : Nat} (hk : k ≤ rs.length) : (allR os rs days k).ms.length ≤ 1600 :=
  Nat.le_trans (all_len k) (Nat.le_trans (Nat.mul_le_mul (Nat.le_trans hk hg.rl) hg.ol) (by omega))
theorem all_over {os : List S_Order} {rs : List S_Return} {days : Int} : ∀ k : Nat, (allR os rs days k).over.length = k
  | 0 => rfl
  | k + 1 => by show (_ ++ [_]).length = _; rw [List.length_append, all_over k]; rfl
end Go.Proofs.Ytonmmfjagkgifaa
