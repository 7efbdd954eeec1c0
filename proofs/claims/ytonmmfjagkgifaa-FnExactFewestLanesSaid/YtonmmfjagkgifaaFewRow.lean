/- The law FnExactFewestLanes holds: for every input it returns true, and the input reads as it did. No condition. -/
import Derived.Test.YtonmmfjagkgifaaFew3
import Derived.Test.YtonmmfjagkgifaaClose
set_option linter.unusedVariables false
set_option linter.unusedSimpArgs false
namespace Go.Proofs.Ytonmmfjagkgifaa
open Go.ChangeShapes Go.WideShapes Go.ChangeAt Go.RowKit

theorem cellsLN : Go.Proofs.Try.prog.cellsOf 26 = 3 := by kernel_rfl
theorem cellsLL : Go.Proofs.Try.prog.cellsOf 144 = 4 := by kernel_rfl
theorem cellsLS : Go.Proofs.Try.prog.cellsOf 28 = 2 := by kernel_rfl
theorem cells8 : Go.Proofs.Try.prog.cellsOf 22 = 1 := by kernel_rfl
theorem cells16 : Go.Proofs.Try.prog.cellsOf 23 = 1 := by kernel_rfl
theorem cellsSL : Go.Proofs.Try.prog.cellsOf 24 = 1 := by kernel_rfl
section
variable {H : Type} {enc : TypeId × Value → H} {W : World} {sp : Nat → Bool} {held : Bool}
theorem lane00 {fuel : Nat} {r : List Value} {x : DataW H × List MemPlace} (h : DataW.trod enc Go.Proofs.Try.prog W 0 sp held fuel 144 r = some x) : ∃ l : LaneD, l.ok ∧ r = encLane l := by
  have hl := len00 Go.Proofs.Try.underlying144 h
  rw [cellsLL] at hl
  obtain ⟨a, b, c, d, rfl⟩ := len4 hl
  obtain ⟨n0, h0, b0⟩ := partI Go.Proofs.Try.underlying144 h 0 0 rfl cells8 Go.Proofs.Try.underlying22
  obtain ⟨n1, h1, b1⟩ := partI Go.Proofs.Try.underlying144 h 1 1 rfl cells8 Go.Proofs.Try.underlying22
  obtain ⟨n2, h2, b2⟩ := partI Go.Proofs.Try.underlying144 h 2 2 rfl cells16 Go.Proofs.Try.underlying23
  obtain ⟨n3, h3, b3⟩ := partI Go.Proofs.Try.underlying144 h 3 3 rfl cells16 Go.Proofs.Try.underlying23
  simp only [List.drop_zero, List.drop_succ_cons, List.take_succ_cons, List.take_zero, List.cons.injEq, and_true] at h0 h1 h2 h3
  subst h0 h1 h2 h3
  exact ⟨⟨n0, n1, n2, n3⟩, ⟨b0, b1, b2, b3⟩, rfl⟩
theorem scan00 {fuel : Nat} {r : List Value} {x : DataW H × List MemPlace} (h : DataW.trod enc Go.Proofs.Try.prog W 0 sp held fuel 28 r = some x) : ∃ a : Int × Int, okScan a ∧ r = encScan a := by
  have hl := len00 Go.Proofs.Try.underlying28 h
  rw [cellsLS] at hl
  obtain ⟨a, b, rfl⟩ := len2 hl
  obtain ⟨n0, h0, b0⟩ := partI Go.Proofs.Try.underlying28 h 0 0 rfl cells8 Go.Proofs.Try.underlying22
  obtain ⟨n1, h1, b1⟩ := partI Go.Proofs.Try.underlying28 h 1 1 rfl cells16 Go.Proofs.Try.underlying23
  simp only [List.drop_zero, List.drop_succ_cons, List.take_succ_cons, List.take_zero, List.cons.injEq, and_true] at h0 h1
  subst h0 h1
  exact ⟨(n0, n1), ⟨b0, b1⟩, rfl⟩
theorem net00 {fuel : Nat} {r : List Value} {x : DataW H × List MemPlace} (h : DataW.trod enc Go.Proofs.Try.prog W 0 sp held fuel 26 r = some x) : ∃ (n : NetD) (s : Value), n.ok ∧ r = encNet n s ∧ vLen false s = some (.int .i64 n.lanes.length) ∧ n.lanes.length ≤ 9223372036854775807 ∧ (n.lanes.length ≤ 1152921504606846976 → Sl (H00 W) 4 s (n.lanes.map encLane)) := by
  have hl := len00 Go.Proofs.Try.underlying26 h
  rw [cellsLN] at hl
  obtain ⟨a, b, c, rfl⟩ := len3 hl
  obtain ⟨n0, h0, b0⟩ := partI Go.Proofs.Try.underlying26 h 0 0 rfl cells8 Go.Proofs.Try.underlying22
  obtain ⟨n1, h1, b1⟩ := partI Go.Proofs.Try.underlying26 h 1 1 rfl cells16 Go.Proofs.Try.underlying23
  obtain ⟨m, y, hp⟩ := partX Go.Proofs.Try.underlying26 h 2 2 rfl cellsSL
  obtain ⟨ad, ln, cp, rows, h2, hlen, hmax, hsl, hr⟩ := sl00 Go.Proofs.Try.underlying24 (by rw [cellsLL]; omega) hp
  obtain ⟨lanes, rfl, hok⟩ := rows_dec encLane LaneD.ok rows fun r hm => by
    obtain ⟨_, _, h⟩ := hr r hm
    exact lane00 h
  simp only [List.drop_zero, List.drop_succ_cons, List.take_succ_cons, List.take_zero, List.cons.injEq, and_true] at h0 h1 h2
  subst h0 h1 h2
  rw [List.length_map] at hlen
  subst hlen
  rw [cellsLL] at hsl
  exact ⟨⟨n0, n1, lanes⟩, _, ⟨b0, b1, hok⟩, rfl, rfl, hmax, hsl⟩
end
set_option maxRecDepth 100000 in
theorem FewestLanes_lifted (os : Os) (started : os.Started) (H : Type) (enc : TypeId × Value → H) :
    ReturnsInHanded {} Go.Proofs.Try.checked os 3 .any (Rows.fnExactFewestLanesSpec.pre6 enc Go.Proofs.Try.prog Go.Proofs.Try.f3 Rows.fnExactFewestLanesRow.domain false) (Rows.fnExactFewestLanesSpec.post enc Go.Proofs.Try.prog Go.Proofs.Try.f3 false true false false) := by
  refine returnsInHanded_of_change (C := Go.Proofs.Try.checked) own00 started (by kernel_rfl) Go.Proofs.Try.func3
    (ChangeSpec.witness6 (enc := enc) (C := Go.Proofs.Try.checked) false ⟨#[], #[.agg #[.int .i8 0, .int .i16 0, .slice none 0 0], .agg #[.int .i8 0, .int .i16 0], .agg #[.int .i8 0, .int .i16 0]], []⟩ 8 (by kernel_rfl) (by kernel_rfl) (by kernel_rfl) (by kernel_rfl)) ?_
  intro W base args ds gs before hval0 hW hcnd _
  have hval : ∀ (j : Nat) t v, Go.Proofs.Try.f3.params[j]? = some t → args[j]? = some v → Value.okWide Go.Proofs.Try.prog W .any base t v := hval0
  have hW' := hW
  obtain ⟨p, q, hA0, hV, rfl, hfz, hnd⟩ := hW
  have hA : DataW.TrodAll enc Go.Proofs.Try.prog W 0 (fun _ => true) true Go.Proofs.Try.f3.params.toList args.toList ds p := hA0
  rw [Go.Proofs.Try.params3] at hA hval
  obtain ⟨v0, v1, v2, d0, d1, d2, p0, p1, p2, rfl, rfl, rfl, h0, h1, h2⟩ := trodAll_three hA
  obtain ⟨c0, rfl, z0⟩ := okWide_struct Go.Proofs.Try.underlying26 (hval 0 26 v0 rfl rfl)
  obtain ⟨c1, rfl, z1⟩ := okWide_struct Go.Proofs.Try.underlying28 (hval 1 28 v1 rfl rfl)
  obtain ⟨c2, rfl, z2⟩ := okWide_struct Go.Proofs.Try.underlying28 (hval 2 28 v2 rfl rfl)
  obtain ⟨f0, g0⟩ := h0
  obtain ⟨f1, g1⟩ := h1
  obtain ⟨f2, g2⟩ := h2
  obtain ⟨n, s, hn, e0, hlen, hmax, hsl⟩ := net00 g0
  obtain ⟨a, ha, e1⟩ := scan00 g1
  obtain ⟨b, hb, e2⟩ := scan00 g2
  have e0' : c0 = (encNet n s).toArray := by rw [← e0]; rfl
  have e1' : c1 = (encScan a).toArray := by rw [← e1]; rfl
  have e2' : c2 = (encScan b).toArray := by rw [← e2]; rfl
  subst e0' e1' e2'
  refine (acalls_below (Q := fun v => v = .bool true) (spec_law_FewestLanes n s a b hn ha hb hlen hmax hsl (fun v _ => v = .bool true) fun _ => rfl)).mono fun e W' hr => ?_
  obtain ⟨r, rfl, rfl, hbl⟩ := hr
  refine ⟨_, rfl, post_true laid00 hW' hbl (tb := 4) (by kernel_rfl) Go.Proofs.Try.underlying4 ?_ rfl ?_⟩
  · intro ds hds
    rw [Go.Proofs.Try.params3] at hds
    obtain ⟨x, y, z, rfl⟩ := len3 hds
    exact ⟨rfl, rfl, rfl⟩
  · intro t ht
    rw [Go.Proofs.Try.params3] at ht
    simp only [List.mem_cons, List.not_mem_nil, or_false] at ht
    rcases ht with rfl | rfl | rfl <;> exact ⟨by kernel_rfl, of_decide_eq_true (by kernel_rfl)⟩
theorem FewestLanes_holds : Rows.FnExactFewestLanesSaid :=
  OpenClaim.holds_of_wide 3 Go.Proofs.Try.f3 rfl rfl rfl rfl rfl rfl rfl ⟨rfl, rfl, rfl, rfl, rfl⟩ rfl rfl rfl rfl rfl (by kernel_rfl) Go.Proofs.Try.func3 (by kernel_rfl)
    (of_decide_eq_true (by kernel_rfl)) (by unfold Func.isWrapper; first | (rw [if_pos (by decide +kernel)]; kernel_rfl) | (rw [if_neg (by decide +kernel)]; exact ⟨rfl, rfl⟩))
    (fun os started H enc _ => FewestLanes_lifted os started H enc)
#print axioms FewestLanes_holds
end Go.Proofs.Ytonmmfjagkgifaa
