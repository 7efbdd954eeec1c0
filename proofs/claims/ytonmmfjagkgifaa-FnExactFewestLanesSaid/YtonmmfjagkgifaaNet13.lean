/- Nets: the program's arrivals by one or more lanes. -/
import Derived.Test.YtonmmfjagkgifaaReach
set_option linter.unusedVariables false
set_option linter.unusedSimpArgs false
namespace Go.Proofs.Ytonmmfjagkgifaa
open Go.RowKit
attribute [local go_sem] aw_mv aw_mkf aw_pick aw_bin aw_eqB aw_eqNil aw_eqAgg aw_un aw_conv aw_fa aw_ia aw_iaArr aw_ixArr aw_ixStr aw_fld aw_ext aw_bld aw_nilc aw_slc aw_slcArr aw_slcStr aw_len aw_cap aw_mnx aw_ld aw_st aw_guard_y aw_guard_n aw_nil aw_exit aw_ret aw_cond_t aw_cond_f aw_blk seqQ_norm seqQ_exit seqQ_ret blkQ_norm blkQ_exit_same blkQ_exit_ne blkQ_ret vPick_b vEqB_t vEqB_f vEqNil_sn vEqNil_ss vEqNil_pn vEqNil_ps vUn_neg vUn_not vUn_xor vConv_i vFa_p vIa_s vFld_a vExt_t vNilc_p vLen_s vLen_t vMnx_t vMnx_f abin_add abin_sub abin_mul abin_eql abin_neq abin_lss abin_leq abin_gtr abin_geq abin_and abin_or abin_xor abin_quo abin_rem abin_shl abin_shr abin_seq abin_sne abin_scat ev_tmp ev_const ev_func put_get puto_some puto_none args0_get List.getD_cons_succ List.getD_cons_zero Option.isSome_some Option.getD_some Option.isNone_none Option.isNone_some Option.map_some Option.map_none Value.bool.injEq Value.int.injEq add_mk aload_ptr rd_mk rdObj_row set_get astore_ptr apart_f apart_t List.length_cons List.length_nil List.drop_succ_cons List.drop_zero List.take_succ_cons List.take_zero List.map_cons List.map_nil Option.bind_some Option.bind_none ares_nil ares_tmp oneOf1 Nat.zero_add Nat.add_zero Bool.not_true Bool.not_false ne_eq not_false_eq_true not_true_eq_false decide_true decide_false Bool.true_and Bool.and_true Bool.false_eq_true and_self and_true true_and List.getElem?_cons_zero List.getElem?_cons_succ vc_agg vc_int vc_bool vc_slice aw_chk1 aw_chk2 st_agg st_int st_slice st_ptr one_int one_bool one_slice one_ptr one_str splice_eq aparts_nil aparts_cons afill_nil afill_cons rz0 rz1 rz2 List.all_cons List.all_nil Bool.and_self List.nil_append List.cons_append List.append_nil set_set

theorem cellsEq_bool (f g : Nat → Bool) : ∀ (l : List Nat), cellsEq .bool (l.map fun i => .bool (f i)) (l.map fun i => .bool (g i)) = some (l.all fun i => f i == g i)
  | [] => rfl
  | x :: l => by
    have := cellsEq_bool f g l
    show (scalarEq .bool (.bool (f x)) (.bool (g x))).bind (fun a => (cellsEq .bool (l.map fun i => .bool (f i)) (l.map fun i => .bool (g i))).map fun b => a && b) = _
    rw [this]
    rfl
theorem gc_eqAgg (n : Nat) (f g : Nat → Bool) : vEqAgg true .bool n (.agg (gcells n f).toArray) (.agg (gcells n g).toArray) = some (.bool (!(List.range n).all fun i => f i == g i)) := by
  show (if (gcells n f).toArray.size = n ∧ (gcells n g).toArray.size = n then (cellsEq .bool (gcells n f).toArray.toList (gcells n g).toArray.toList).map fun b => Value.bool (if true then !b else b) else none) = _
  rw [if_pos ⟨by simp [gc_len], by simp [gc_len]⟩]
  show (cellsEq .bool (gcells n f) (gcells n g)).map _ = _
  rw [gcells, gcells, cellsEq_bool]
  rfl
theorem set_self {H : Hp} {b : Nat} {o : AObj} (h : H b = some o) : H.set b o = H := by
  funext c
  rw [set_get]
  split
  · rename_i e; rw [e, h]
  · rfl
theorem sub2_st {B H : Hp} {p q : Nat} {X Y X' Y' : AObj} (hpq : p ≠ q) (h : ((B.set p X).set q Y).sub H) : ((B.set p X').set q Y').sub ((H.set p X').set q Y') := fun c o hc => by
  by_cases e1 : c = q
  · subst e1; rw [set_same] at hc ⊢; exact hc
  · rw [set_ne e1] at hc ⊢
    by_cases e2 : c = p
    · subst e2; rw [set_same] at hc ⊢; exact hc
    · rw [set_ne e2] at hc ⊢
      exact h c o (by rw [set_ne e1, set_ne e2]; exact hc)
theorem sub_comm {A H : Hp} {p q : Nat} {X Y : AObj} (hpq : p ≠ q) (h : ((A.set p X).set q Y).sub H) : ((A.set q Y).set p X).sub H := fun c o hc => by
  refine h c o ?_
  by_cases e1 : c = p
  · subst e1; rw [set_same] at hc; rw [set_ne hpq, set_same]; exact hc
  · rw [set_ne e1] at hc
    by_cases e2 : c = q
    · subst e2; rw [set_same] at hc ⊢; exact hc
    · rw [set_ne e2] at hc ⊢; rw [set_ne e1]; exact hc
theorem sub_drop {A H : Hp} {b : Nat} {Y : AObj} (hb : A b = none) (h : (A.set b Y).sub H) : A.sub H := fun c o hc => h c o (by rw [set_ne (by intro e; subst e; rw [hb] at hc; cases hc)]; exact hc)
theorem filter_len_le {p q : Nat → Bool} : ∀ (l : List Nat), (∀ j, q j = true → p j = true) → (l.filter q).length ≤ (l.filter p).length
  | [], _ => by simp
  | x :: l, h => by
    have := filter_len_le l h
    cases hq : q x with
    | true => simp [hq, h x hq]; omega
    | false => cases hp : p x <;> simp [hq, hp] <;> omega
theorem left_le {g g' : Nat → Bool} (h : ∀ j, g j = true → g' j = true) : left g' ≤ left g := filter_len_le _ fun j hj => by
  cases e : g j with
  | true => rw [h j e] at hj; cases hj
  | false => rfl
def meas (out now : Nat → Bool) : Nat := 2 * left out + (if ((List.range 2408).all fun i => now i == false) then 0 else 1)
def upto (p : Nat → Bool) (m : Nat) : Nat → Bool := fun j => decide (j < m) && p j
theorem upto_skip {p : Nat → Bool} {q h : Nat} (hp : p (q * 301 + h) = false) (j : Nat) : upto p (q * 301 + (h + 1)) j = upto p (q * 301 + h) j := by
  unfold upto
  by_cases e : j = q * 301 + h
  · rw [e, hp]; simp
  · exact congrArg (fun z => z && p j) (decide_eq_decide.2 (by omega))
theorem gor_old {out nx : Nat → Bool} {q h j : Nat} (ho : out (q * 301 + h) = true) : gor out (upto nx (q * 301 + (h + 1))) j = gor out (upto nx (q * 301 + h)) j := by
  unfold gor upto
  by_cases e : j = q * 301 + h
  · rw [e, ho]; simp
  · exact congrArg (fun z => out j || z && nx j) (decide_eq_decide.2 (by omega))
theorem gup_upto {p : Nat → Bool} {q h j : Nat} (hp : p (q * 301 + h) = true) : gup (upto p (q * 301 + h)) (q * 301 + h) true j = upto p (q * 301 + (h + 1)) j := by
  unfold gup upto
  split
  · rename_i e; rw [e, hp, show decide (q * 301 + h < q * 301 + (h + 1)) = true from decide_eq_true (by omega)]; rfl
  · exact congrArg (fun z => z && p j) (decide_eq_decide.2 (by omega))
theorem gup_gor {out nx : Nat → Bool} {q h j : Nat} (hp : nx (q * 301 + h) = true) : gup (gor out (upto nx (q * 301 + h))) (q * 301 + h) true j = gor out (upto nx (q * 301 + (h + 1))) j := by
  have := gup_upto (j := j) hp
  unfold gup at this ⊢
  unfold gor
  split
  · rename_i e; rw [if_pos e] at this; rw [← this]; simp
  · rename_i e; rw [if_neg e] at this; rw [this]
theorem spec_all (n : NetD) (s : Value) (hv : validNet n = true) (a0 : Int × Int) (st hr : Nat) (e1 : a0.1 = st) (e2 : a0.2 = hr) (h8 : st < 8) (h3 : hr ≤ 300) {H : Hp} (hs : Sl H 4 s (n.lanes.map encLane)) (K : Value → Hp → Prop)
    (hK : ∀ g : Nat → Bool, (∀ j, j < 2408 → (g j = true ↔ Reach n (st * 301 + hr) j)) → K (.agg (gcells 2408 g).toArray) H) :
    ACalls Go.Proofs.Try.prog n_impl_Net_all #[.agg (encNet n s).toArray, .agg (encScan a0).toArray] H K := by
  refine acalls_go fn_impl_Net_all rfl fun hl => ?_
  simp only [c_impl_Net_all, gc_zero, encScan]
  rw [netRow]
  refine aw_boxv (by (try simp only [go_sem, ↓reduceIte, Nat.reduceEqDiff, reduceCtorEq, Nat.reduceAdd, Nat.reduceLeDiff, Nat.reduceSub, Nat.reduceMul, Int.reduceEq, Nat.reduceBEq]) <;> rfl) fun b2 hb2 => ?_
  refine aw_boxv (by (try simp only [go_sem, ↓reduceIte, Nat.reduceEqDiff, reduceCtorEq, Nat.reduceAdd, Nat.reduceLeDiff, Nat.reduceSub, Nat.reduceMul, Int.reduceEq, Nat.reduceBEq]) <;> rfl) fun b3 hb3 => ?_
  refine aw_alloc fun b4 hb4 => ?_
  have x1 := ne_set hb3
  have x2 := ne_set hb4
  have x3 := ne_set (none_set hb4)
  simp only [go_sem, ↓reduceIte, Nat.reduceEqDiff, reduceCtorEq, Nat.reduceAdd, Nat.reduceLeDiff, Nat.reduceSub, Nat.reduceMul, Int.reduceEq, Nat.reduceBEq, gc_rdall, gc_apart, gc_stall, gc_len, vBld_nil, x1, x2, x3, x1.symm, x2.symm, x3.symm]
  refine aw_call (by (try simp only [go_sem, ↓reduceIte, Nat.reduceEqDiff, reduceCtorEq, Nat.reduceAdd, Nat.reduceLeDiff, Nat.reduceSub, Nat.reduceMul, Int.reduceEq, Nat.reduceBEq]) <;> rfl) (by (try simp only [go_sem, ↓reduceIte, Nat.reduceEqDiff, reduceCtorEq, Nat.reduceAdd, Nat.reduceLeDiff, Nat.reduceSub, Nat.reduceMul, Int.reduceEq, Nat.reduceBEq]) <;> rfl) (spec_begin a0 st hr e1 e2 h8 h3 _ _ ?_)
  simp only [go_sem, ↓reduceIte, Nat.reduceEqDiff, reduceCtorEq, Nat.reduceAdd, Nat.reduceLeDiff, Nat.reduceSub, Nat.reduceMul, Int.reduceEq, Nat.reduceBEq, gc_rdall, gc_apart, gc_stall, gc_len, vBld_nil]
  refine aw_alloc fun b5 hb5 => ?_
  refine aw_alloc fun b6 hb6 => ?_
  have x4 := ne_set hb5
  have x5 := ne_set (none_set hb5)
  have x6 := ne_set (none_set (none_set hb5))
  have x7 := ne_set hb6
  have x8 := ne_set (none_set hb6)
  have x9 := ne_set (none_set (none_set hb6))
  have x10 := ne_set (none_set (none_set (none_set hb6)))
  have z4 : H b4 = none := none_set (none_set hb4)
  have z5 : H b5 = none := none_set (none_set (none_set hb5))
  have z6 : H b6 = none := none_set (none_set (none_set (none_set hb6)))
  rw [gc_len] at *
  simp only [go_sem, ↓reduceIte, Nat.reduceEqDiff, reduceCtorEq, Nat.reduceAdd, Nat.reduceLeDiff, Nat.reduceSub, Nat.reduceMul, Int.reduceEq, Nat.reduceBEq, gc_rdall, gc_apart, gc_stall, gc_len, vBld_nil, x1, x2, x3, x4, x5, x6, x7, x8, x9, x10, x1.symm, x2.symm, x3.symm, x4.symm, x5.symm, x6.symm, x7.symm, x8.symm, x9.symm, x10.symm]
  have hsubL : H.sub (((((((H.set b2 (.row true 35 [.int .i8 n.st, .int .i16 n.stay, s] 3)).set b3 (.row true 37 [.int .i8 a0.1, .int .i16 a0.2] 2)).set b4 (.row true 90 (gcells 2408 fun x => false) 2408)).set b5 (.row true 90 (gcells 2408 fun x => false) 2408)).set b6 (.row true 90 (gcells 2408 fun x => false) 2408)).set b5 (.row true 90 (gcells 2408 fun x => false) 2408)).set b6 (.row true 90 (gcells 2408 (only (st * 301 + hr))) 2408)) := sub_set0 z6 (sub_set0 z5 (sub_set0 z6 (sub_set0 z5 (sub_set0 z4 (sub_set hb3 (sub_set hb2 (Hp.sub.refl _)))))))
  have g2 : (((((((H.set b2 (.row true 35 [.int .i8 n.st, .int .i16 n.stay, s] 3)).set b3 (.row true 37 [.int .i8 a0.1, .int .i16 a0.2] 2)).set b4 (.row true 90 (gcells 2408 fun x => false) 2408)).set b5 (.row true 90 (gcells 2408 fun x => false) 2408)).set b6 (.row true 90 (gcells 2408 fun x => false) 2408)).set b5 (.row true 90 (gcells 2408 fun x => false) 2408)).set b6 (.row true 90 (gcells 2408 (only (st * 301 + hr))) 2408)) b2 = some (.row true 35 [.int .i8 n.st, .int .i16 n.stay, s] 3) := by rw [set_ne x10, set_ne x6, set_ne x10, set_ne x6, set_ne x3, set_ne x1, set_same]
  have g4 : (((((((H.set b2 (.row true 35 [.int .i8 n.st, .int .i16 n.stay, s] 3)).set b3 (.row true 37 [.int .i8 a0.1, .int .i16 a0.2] 2)).set b4 (.row true 90 (gcells 2408 fun x => false) 2408)).set b5 (.row true 90 (gcells 2408 fun x => false) 2408)).set b6 (.row true 90 (gcells 2408 fun x => false) 2408)).set b5 (.row true 90 (gcells 2408 fun x => false) 2408)).set b6 (.row true 90 (gcells 2408 (only (st * 301 + hr))) 2408)) b4 = some (.row true 90 (gcells 2408 fun x => false) 2408) := by rw [set_ne x8, set_ne x4, set_ne x8, set_ne x4, set_same]
  have g5 : (((((((H.set b2 (.row true 35 [.int .i8 n.st, .int .i16 n.stay, s] 3)).set b3 (.row true 37 [.int .i8 a0.1, .int .i16 a0.2] 2)).set b4 (.row true 90 (gcells 2408 fun x => false) 2408)).set b5 (.row true 90 (gcells 2408 fun x => false) 2408)).set b6 (.row true 90 (gcells 2408 fun x => false) 2408)).set b5 (.row true 90 (gcells 2408 fun x => false) 2408)).set b6 (.row true 90 (gcells 2408 (only (st * 301 + hr))) 2408)) b5 = some (.row true 90 (gcells 2408 fun x => false) 2408) := by rw [set_ne x7, set_same]
  have g6 : (((((((H.set b2 (.row true 35 [.int .i8 n.st, .int .i16 n.stay, s] 3)).set b3 (.row true 37 [.int .i8 a0.1, .int .i16 a0.2] 2)).set b4 (.row true 90 (gcells 2408 fun x => false) 2408)).set b5 (.row true 90 (gcells 2408 fun x => false) 2408)).set b6 (.row true 90 (gcells 2408 fun x => false) 2408)).set b5 (.row true 90 (gcells 2408 fun x => false) 2408)).set b6 (.row true 90 (gcells 2408 (only (st * 301 + hr))) 2408)) b6 = some (.row true 90 (gcells 2408 (only (st * 301 + hr))) 2408) := set_same _ _ _
  have hlL : Live (((((((H.set b2 (.row true 35 [.int .i8 n.st, .int .i16 n.stay, s] 3)).set b3 (.row true 37 [.int .i8 a0.1, .int .i16 a0.2] 2)).set b4 (.row true 90 (gcells 2408 fun x => false) 2408)).set b5 (.row true 90 (gcells 2408 fun x => false) 2408)).set b6 (.row true 90 (gcells 2408 fun x => false) 2408)).set b5 (.row true 90 (gcells 2408 fun x => false) 2408)).set b6 (.row true 90 (gcells 2408 (only (st * 301 + hr))) 2408)) := by
    refine Live.set (Live.set (Live.set (Live.set (Live.set (Live.set (Live.set hl _ _ _ _ ?_) _ _ _ _ ?_) _ _ _ _ ?_) _ _ _ _ ?_) _ _ _ _ ?_) _ _ _ _ ?_) _ _ _ _ ?_
    · simp
    · simp
    all_goals (rw [gc_len]; exact Nat.le_refl 2408)
  generalize (((((((H.set b2 (.row true 35 [.int .i8 n.st, .int .i16 n.stay, s] 3)).set b3 (.row true 37 [.int .i8 a0.1, .int .i16 a0.2] 2)).set b4 (.row true 90 (gcells 2408 fun x => false) 2408)).set b5 (.row true 90 (gcells 2408 fun x => false) 2408)).set b6 (.row true 90 (gcells 2408 fun x => false) 2408)).set b5 (.row true 90 (gcells 2408 fun x => false) 2408)).set b6 (.row true 90 (gcells 2408 (only (st * 301 + hr))) 2408)) = HL at *
  refine aw_loopM hlL (fun m T' H' => ∃ out now : Nat → Bool, Srch n (st * 301 + hr) out now ∧ m = meas out now ∧ ((HL.set b5 (.row true 90 (gcells 2408 out) 2408)).set b6 (.row true 90 (gcells 2408 now) 2408)).sub H') _ HL (Hp.sub.refl _) ⟨fun _ => false, only (st * 301 + hr), Srch.start _ _, rfl, ?_⟩ ?_
  · rw [set_self g5, set_self g6]
    exact Hp.sub.refl _
  rintro m T' H' hl' hoff ⟨out, now, hsr, hm, hsub⟩
  have t2 : T' 2 = .pointer (some ⟨b2, 0, none⟩) := by rw [hoff.get rfl]; simp only [go_sem, ↓reduceIte, Nat.reduceEqDiff, reduceCtorEq, Nat.reduceAdd, Nat.reduceLeDiff, Nat.reduceSub, Nat.reduceMul, Int.reduceEq, Nat.reduceBEq]
  have t4 : T' 4 = .pointer (some ⟨b4, 0, none⟩) := by rw [hoff.get rfl]; simp only [go_sem, ↓reduceIte, Nat.reduceEqDiff, reduceCtorEq, Nat.reduceAdd, Nat.reduceLeDiff, Nat.reduceSub, Nat.reduceMul, Int.reduceEq, Nat.reduceBEq]
  have t5 : T' 5 = .pointer (some ⟨b5, 0, none⟩) := by rw [hoff.get rfl]; simp only [go_sem, ↓reduceIte, Nat.reduceEqDiff, reduceCtorEq, Nat.reduceAdd, Nat.reduceLeDiff, Nat.reduceSub, Nat.reduceMul, Int.reduceEq, Nat.reduceBEq]
  have t6 : T' 6 = .pointer (some ⟨b6, 0, none⟩) := by rw [hoff.get rfl]; simp only [go_sem, ↓reduceIte, Nat.reduceEqDiff, reduceCtorEq, Nat.reduceAdd, Nat.reduceLeDiff, Nat.reduceSub, Nat.reduceMul, Int.reduceEq, Nat.reduceBEq]
  have r6 : H' b6 = some (.row true 90 (gcells 2408 now) 2408) := sub_at hsub
  have r5 : H' b5 = some (.row true 90 (gcells 2408 out) 2408) := hsub _ _ (by rw [set_ne x7, set_same])
  have r2 : H' b2 = _ := hsub _ _ (by rw [set_ne x10, set_ne x6]; exact g2)
  have r4 : H' b4 = _ := hsub _ _ (by rw [set_ne x8, set_ne x4]; exact g4)
  have q := gc_eqAgg 2408 now fun _ => false
  cases ea : ((List.range 2408).all fun i => now i == false) with
  | true =>
    rw [ea] at q
    simp only [go_sem, ↓reduceIte, Nat.reduceEqDiff, reduceCtorEq, Nat.reduceAdd, Nat.reduceLeDiff, Nat.reduceSub, Nat.reduceMul, Int.reduceEq, Nat.reduceBEq, gc_rdall, gc_apart, gc_stall, gc_len, vBld_nil, t6, r6, q]
    show lpQ _ _ _ (.exit 0) _ _
    simp only [lpQ]
    simp only [go_sem, ↓reduceIte, Nat.reduceEqDiff, reduceCtorEq, Nat.reduceAdd, Nat.reduceLeDiff, Nat.reduceSub, Nat.reduceMul, Int.reduceEq, Nat.reduceBEq, gc_rdall, gc_apart, gc_stall, gc_len, vBld_nil, t4, t5, r4, r5]
    have hno : ∀ j, j < 2408 → now j = false := fun j hj => by simpa using List.all_eq_true.1 ea j (by simpa using hj)
    refine retQ_c1 (b := b4) (off := 0) (by simp only [put_get, puto_none, t4]; rfl) (by rw [set_same, gc_rdall, Option.bind_some, gc_apart]) H ?_ (hK out (hsr.end hv hno))
    exact sub_set0 z4 ((sub_set0 z6 (sub_set0 z5 hsubL)).trans hsub)
  | false =>
    rw [ea] at q
    simp only [go_sem, ↓reduceIte, Nat.reduceEqDiff, reduceCtorEq, Nat.reduceAdd, Nat.reduceLeDiff, Nat.reduceSub, Nat.reduceMul, Int.reduceEq, Nat.reduceBEq, gc_rdall, gc_apart, gc_stall, gc_len, vBld_nil, t6, r6, q]
    refine aw_alloc fun b7 hb7 => ?_
    have y2 := some_ne r2 hb7
    have y5 := some_ne r5 hb7
    have y6 := some_ne r6 hb7
    rw [gc_len]
    simp only [go_sem, ↓reduceIte, Nat.reduceEqDiff, reduceCtorEq, Nat.reduceAdd, Nat.reduceLeDiff, Nat.reduceSub, Nat.reduceMul, Int.reduceEq, Nat.reduceBEq, gc_rdall, gc_apart, gc_stall, gc_len, vBld_nil, t2, t6, r2, r6, y2, y5, y6, y2.symm, y5.symm, y6.symm]
    refine aw_call (by (try simp only [go_sem, ↓reduceIte, Nat.reduceEqDiff, reduceCtorEq, Nat.reduceAdd, Nat.reduceLeDiff, Nat.reduceSub, Nat.reduceMul, Int.reduceEq, Nat.reduceBEq]) <;> rfl) (by (try simp only [go_sem, ↓reduceIte, Nat.reduceEqDiff, reduceCtorEq, Nat.reduceAdd, Nat.reduceLeDiff, Nat.reduceSub, Nat.reduceMul, Int.reduceEq, Nat.reduceBEq]) <;> rfl) (spec_next n s hv now (hs.sub (sub_set hb7 ((sub_set0 z6 (sub_set0 z5 hsubL)).trans hsub))) _ ?_)
    simp only [go_sem, ↓reduceIte, Nat.reduceEqDiff, reduceCtorEq, Nat.reduceAdd, Nat.reduceLeDiff, Nat.reduceSub, Nat.reduceMul, Int.reduceEq, Nat.reduceBEq]
    have hcom : (((HL.set b6 (.row true 90 (gcells 2408 now) 2408)).set b5 (.row true 90 (gcells 2408 out) 2408)).set b7 (.row true 90 (gcells 2408 fun x => false) 2408)).sub (H'.set b7 (.row true 90 (gcells 2408 fun x => false) 2408)) := sub_set2 (sub_comm x7 hsub)
    have hlb : Live (H'.set b7 (.row true 90 (gcells 2408 fun x => false) 2408)) := Live.set hl' _ _ _ _ (by rw [gc_len]; exact Nat.le_refl 2408)
    have hs7 : H'.sub (H'.set b7 (.row true 90 (gcells 2408 fun x => false) 2408)) := sub_set hb7 (Hp.sub.refl _)
    generalize H'.set b7 (.row true 90 (gcells 2408 fun x => false) 2408) = H7 at *
    generalize hnx : stepL n now n.lanes = nx at *
    have ez1 : gcells 2408 (gor out (upto nx (0 * 301))) = gcells 2408 out := gc_ext fun j _ => by simp [gor, upto]
    have ez2 : gcells 2408 (upto (fun j => nx j && !out j) (0 * 301)) = gcells 2408 (fun x => false) := gc_ext fun j _ => by simp [upto]
    refine aw_rangeO hlb 8 (by omega) (fun q T2 H2 => (((HL.set b6 (.row true 90 (gcells 2408 now) 2408)).set b5 (.row true 90 (gcells 2408 (gor out (upto nx (q * 301)))) 2408)).set b7 (.row true 90 (gcells 2408 (upto (fun j => nx j && !out j) (q * 301))) 2408)).sub H2) H7 (Hp.sub.refl _) (by (try simp only [go_sem, ↓reduceIte, Nat.reduceEqDiff, reduceCtorEq, Nat.reduceAdd, Nat.reduceLeDiff, Nat.reduceSub, Nat.reduceMul, Int.reduceEq, Nat.reduceBEq]) <;> rfl) ?_ (fun T' h => by simp [ev_const]) rfl (by decide) (by decide) ?_ ?_
    · rw [ez1, ez2]; exact hcom
    · rintro q T2 H2 hq8 hl2 hoff2 hTq hsub2
      have u5 : T2 5 = .pointer (some ⟨b5, 0, none⟩) := by rw [hoff2.get rfl]; simp only [go_sem, ↓reduceIte, Nat.reduceEqDiff, reduceCtorEq, Nat.reduceAdd, Nat.reduceLeDiff, Nat.reduceSub, Nat.reduceMul, Int.reduceEq, Nat.reduceBEq, t5]
      have u7 : T2 7 = .pointer (some ⟨b7, 0, none⟩) := by rw [hoff2.get rfl]; simp only [go_sem, ↓reduceIte, Nat.reduceEqDiff, reduceCtorEq, Nat.reduceAdd, Nat.reduceLeDiff, Nat.reduceSub, Nat.reduceMul, Int.reduceEq, Nat.reduceBEq]
      have u21 : T2 21 = .agg (gcells 2408 nx).toArray := by rw [hoff2.get rfl]; simp only [go_sem, ↓reduceIte, Nat.reduceEqDiff, reduceCtorEq, Nat.reduceAdd, Nat.reduceLeDiff, Nat.reduceSub, Nat.reduceMul, Int.reduceEq, Nat.reduceBEq]
      have p1 := gc_ixr 8 301 2408 nx .i64 (q : Int) rfl (by omega)
      rw [Int.toNat_natCast] at p1
      simp only [go_sem, ↓reduceIte, Nat.reduceEqDiff, reduceCtorEq, Nat.reduceAdd, Nat.reduceLeDiff, Nat.reduceSub, Nat.reduceMul, Int.reduceEq, Nat.reduceBEq, u21, hTq, p1]
      refine aw_alloc fun b9 hb9 => ?_
      rw [gc_len]
      simp only [go_sem, ↓reduceIte, Nat.reduceEqDiff, reduceCtorEq, Nat.reduceAdd, Nat.reduceLeDiff, Nat.reduceSub, Nat.reduceMul, Int.reduceEq, Nat.reduceBEq, gc_rdall, gc_apart, gc_stall, gc_len, vBld_nil]
      have hs9 : H2.sub (H2.set b9 (.row true 88 (gcells 301 fun i => nx (q * 301 + i)) 301)) := sub_set hb9 (Hp.sub.refl _)
      have hl9 : Live (H2.set b9 (.row true 88 (gcells 301 fun i => nx (q * 301 + i)) 301)) := Live.set hl2 _ _ _ _ (by rw [gc_len]; exact Nat.le_refl 301)
      generalize H2.set b9 (.row true 88 (gcells 301 fun i => nx (q * 301 + i)) 301) = H9 at *
      refine aw_rangeO hl9 301 (by omega) (fun h T3 H3 => (((HL.set b6 (.row true 90 (gcells 2408 now) 2408)).set b5 (.row true 90 (gcells 2408 (gor out (upto nx (q * 301 + h)))) 2408)).set b7 (.row true 90 (gcells 2408 (upto (fun j => nx j && !out j) (q * 301 + h))) 2408)).sub H3) H9 (Hp.sub.refl _) (by (try simp only [go_sem, ↓reduceIte, Nat.reduceEqDiff, reduceCtorEq, Nat.reduceAdd, Nat.reduceLeDiff, Nat.reduceSub, Nat.reduceMul, Int.reduceEq, Nat.reduceBEq]) <;> rfl) (by have h0 := hsub2.trans hs9; rw [← Nat.add_zero (q * 301)] at h0; exact h0) (fun T' h => by simp [ev_const]) rfl (by decide) (by decide) ?_ ?_
      · rintro h T3 H3 hh hl3 hoff3 hTh hsub3
        have v5 : T3 5 = .pointer (some ⟨b5, 0, none⟩) := by rw [hoff3.get rfl]; simp only [go_sem, ↓reduceIte, Nat.reduceEqDiff, reduceCtorEq, Nat.reduceAdd, Nat.reduceLeDiff, Nat.reduceSub, Nat.reduceMul, Int.reduceEq, Nat.reduceBEq, u5]
        have v7 : T3 7 = .pointer (some ⟨b7, 0, none⟩) := by rw [hoff3.get rfl]; simp only [go_sem, ↓reduceIte, Nat.reduceEqDiff, reduceCtorEq, Nat.reduceAdd, Nat.reduceLeDiff, Nat.reduceSub, Nat.reduceMul, Int.reduceEq, Nat.reduceBEq, u7]
        have v8 : T3 8 = .int .i64 q := by rw [hoff3.get rfl]; simp only [go_sem, ↓reduceIte, Nat.reduceEqDiff, reduceCtorEq, Nat.reduceAdd, Nat.reduceLeDiff, Nat.reduceSub, Nat.reduceMul, Int.reduceEq, Nat.reduceBEq]
        have v26 : T3 26 = .agg (gcells 301 fun i => nx (q * 301 + i)).toArray := by rw [hoff3.get rfl]; simp only [go_sem, ↓reduceIte, Nat.reduceEqDiff, reduceCtorEq, Nat.reduceAdd, Nat.reduceLeDiff, Nat.reduceSub, Nat.reduceMul, Int.reduceEq, Nat.reduceBEq]
        have m5 : H3 b5 = some (.row true 90 (gcells 2408 (gor out (upto nx (q * 301 + h)))) 2408) := hsub3 _ _ (by rw [set_ne (Ne.symm y5.symm), set_same])
        have m7 : H3 b7 = some (.row true 90 (gcells 2408 (upto (fun j => nx j && !out j) (q * 301 + h))) 2408) := sub_at hsub3
        have pi := gc_ix1 301 (fun i => nx (q * 301 + i)) .i64 (h : Int) (by omega)
        rw [Int.toNat_natCast] at pi
        have uno : upto nx (q * 301 + h) (q * 301 + h) = false := by simp [upto]
        cases en : nx (q * 301 + h) with
        | false =>
          rw [en] at pi
          simp only [go_sem, ↓reduceIte, Nat.reduceEqDiff, reduceCtorEq, Nat.reduceAdd, Nat.reduceLeDiff, Nat.reduceSub, Nat.reduceMul, Int.reduceEq, Nat.reduceBEq, v26, hTh, pi]
          refine ⟨H3, Hp.sub.refl _, ?_⟩
          show (((HL.set b6 (.row true 90 (gcells 2408 now) 2408)).set b5 (.row true 90 (gcells 2408 (gor out (upto nx (q * 301 + (h + 1))))) 2408)).set b7 (.row true 90 (gcells 2408 (upto (fun j => nx j && !out j) (q * 301 + (h + 1)))) 2408)).sub H3
          rw [show gcells 2408 (gor out (upto nx (q * 301 + (h + 1)))) = gcells 2408 (gor out (upto nx (q * 301 + h))) from gc_ext fun j _ => by rw [gor, gor, upto_skip en], show gcells 2408 (upto (fun j => nx j && !out j) (q * 301 + (h + 1))) = gcells 2408 (upto (fun j => nx j && !out j) (q * 301 + h)) from gc_ext fun j _ => upto_skip (by simp [en]) _]
          exact hsub3
        | true =>
          rw [en] at pi
          have p1 := ptr_ix 8 301 b5 0 .i64 (q : Int) q rfl hq8
          have p2 := ptr_ix 301 1 b5 (0 + q * 301) .i64 (h : Int) h rfl hh
          have rd := gc_rd1 true 90 2408 2408 (gor out (upto nx (q * 301 + h))) (0 + q * 301 + h * 1) (by omega)
          simp only [Nat.zero_add, Nat.mul_one] at p1 p2 rd
          cases eo : out (q * 301 + h) with
          | true =>
            rw [show gor out (upto nx (q * 301 + h)) (q * 301 + h) = true by simp [gor, eo]] at rd
            simp only [go_sem, ↓reduceIte, Nat.reduceEqDiff, reduceCtorEq, Nat.reduceAdd, Nat.reduceLeDiff, Nat.reduceSub, Nat.reduceMul, Int.reduceEq, Nat.reduceBEq, v26, hTh, pi, v5, v8, m5, p1, p2, rd]
            refine ⟨H3, Hp.sub.refl _, ?_⟩
            show (((HL.set b6 (.row true 90 (gcells 2408 now) 2408)).set b5 (.row true 90 (gcells 2408 (gor out (upto nx (q * 301 + (h + 1))))) 2408)).set b7 (.row true 90 (gcells 2408 (upto (fun j => nx j && !out j) (q * 301 + (h + 1)))) 2408)).sub H3
            rw [show gcells 2408 (gor out (upto nx (q * 301 + (h + 1)))) = gcells 2408 (gor out (upto nx (q * 301 + h))) from gc_ext fun j _ => gor_old eo, show gcells 2408 (upto (fun j => nx j && !out j) (q * 301 + (h + 1))) = gcells 2408 (upto (fun j => nx j && !out j) (q * 301 + h)) from gc_ext fun j _ => upto_skip (by simp [eo]) _]
            exact hsub3
          | false =>
            rw [show gor out (upto nx (q * 301 + h)) (q * 301 + h) = false by simp [gor, eo, uno]] at rd
            have p3 := ptr_ix 8 301 b7 0 .i64 (q : Int) q rfl hq8
            have p4 := ptr_ix 301 1 b7 (0 + q * 301) .i64 (h : Int) h rfl hh
            have s5 := gc_st1 90 2408 2408 (gor out (upto nx (q * 301 + h))) (0 + q * 301 + h * 1) true (by omega)
            have s7 := gc_st1 90 2408 2408 (upto (fun j => nx j && !out j) (q * 301 + h)) (0 + q * 301 + h * 1) true (by omega)
            simp only [Nat.zero_add, Nat.mul_one] at p3 p4 s5 s7
            have f5 : gcells 2408 (gup (gor out (upto nx (q * 301 + h))) (q * 301 + h) true) = gcells 2408 (gor out (upto nx (q * 301 + (h + 1)))) := gc_ext fun j _ => gup_gor en
            have f7 : gcells 2408 (gup (upto (fun j => nx j && !out j) (q * 301 + h)) (q * 301 + h) true) = gcells 2408 (upto (fun j => nx j && !out j) (q * 301 + (h + 1))) := gc_ext fun j _ => gup_upto (by simp [en, eo])
            rw [f5] at s5
            rw [f7] at s7
            simp only [go_sem, ↓reduceIte, Nat.reduceEqDiff, reduceCtorEq, Nat.reduceAdd, Nat.reduceLeDiff, Nat.reduceSub, Nat.reduceMul, Int.reduceEq, Nat.reduceBEq, v26, hTh, pi, v5, v7, v8, m5, m7, p1, p2, rd, p3, p4, s5, s7, y5, y5.symm]
            exact ⟨_, Hp.sub.refl _, sub2_st y5 hsub3⟩
      · rintro T3 H3 hl3 hoff3 hTh hsub3
        simp only [go_sem, ↓reduceIte, Nat.reduceEqDiff, reduceCtorEq, Nat.reduceAdd, Nat.reduceLeDiff, Nat.reduceSub, Nat.reduceMul, Int.reduceEq, Nat.reduceBEq]
        refine ⟨H3, Hp.sub.refl _, ?_⟩
        show (((HL.set b6 (.row true 90 (gcells 2408 now) 2408)).set b5 (.row true 90 (gcells 2408 (gor out (upto nx ((q + 1) * 301)))) 2408)).set b7 (.row true 90 (gcells 2408 (upto (fun j => nx j && !out j) ((q + 1) * 301))) 2408)).sub H3
        rw [Nat.succ_mul]
        exact hsub3
    · rintro T2 H2 hl2 hoff2 hTq hsub2
      have v6 : T2 6 = .pointer (some ⟨b6, 0, none⟩) := by rw [hoff2.get rfl]; simp only [go_sem, ↓reduceIte, Nat.reduceEqDiff, reduceCtorEq, Nat.reduceAdd, Nat.reduceLeDiff, Nat.reduceSub, Nat.reduceMul, Int.reduceEq, Nat.reduceBEq, t6]
      have v7 : T2 7 = .pointer (some ⟨b7, 0, none⟩) := by rw [hoff2.get rfl]; simp only [go_sem, ↓reduceIte, Nat.reduceEqDiff, reduceCtorEq, Nat.reduceAdd, Nat.reduceLeDiff, Nat.reduceSub, Nat.reduceMul, Int.reduceEq, Nat.reduceBEq]
      have fe1 : gcells 2408 (gor out (upto nx (8 * 301))) = gcells 2408 (gor out nx) := gc_ext fun j hj => by
        simp only [gor, upto]; rw [show decide (j < 8 * 301) = true from decide_eq_true (by omega)]; simp
      have fe2 : gcells 2408 (upto (fun j => nx j && !out j) (8 * 301)) = gcells 2408 (fun j => nx j && !out j) := gc_ext fun j hj => by
        simp only [upto]; rw [show decide (j < 8 * 301) = true from decide_eq_true (by omega)]; simp
      rw [fe1, fe2] at hsub2
      have m7 : H2 b7 = some (.row true 90 (gcells 2408 (fun j => nx j && !out j)) 2408) := sub_at hsub2
      have m6 : H2 b6 = some (.row true 90 (gcells 2408 now) 2408) := hsub2 _ _ (by rw [set_ne y6, set_ne (Ne.symm x7), set_same])
      simp only [go_sem, ↓reduceIte, Nat.reduceEqDiff, reduceCtorEq, Nat.reduceAdd, Nat.reduceLeDiff, Nat.reduceSub, Nat.reduceMul, Int.reduceEq, Nat.reduceBEq, gc_rdall, gc_apart, gc_stall, gc_len, vBld_nil, v6, v7, m6, m7]
      have n7 : ((HL.set b6 (.row true 90 (gcells 2408 now) 2408)).set b5 (.row true 90 (gcells 2408 (gor out nx)) 2408)) b7 = none := by
        rw [set_ne (Ne.symm y5), set_ne (Ne.symm y6)]
        cases e : HL b7 with
        | none => rfl
        | some o => rw [hsub b7 o (by rw [set_ne (Ne.symm y6), set_ne (Ne.symm y5)]; exact e)] at hb7; cases hb7
      have hr2 := hsr.round hv
      rw [hnx] at hr2
      refine ⟨meas (gor out nx) (fun j => nx j && !out j), _, ?_, Hp.sub.refl _, gor out nx, (fun j => nx j && !out j), hr2, rfl, ?_⟩
      · rw [hm]
        unfold meas
        rw [ea]
        cases ef : ((List.range 2408).all fun i => (nx i && !out i) == false) with
        | true =>
          simp only [if_true, Bool.false_eq_true, if_false]
          have : left (gor out nx) ≤ left out := left_le (fun j hj => by simp [gor, hj])
          omega
        | false =>
          simp only [Bool.false_eq_true, if_false]
          have hex : ∃ j, j < 2408 ∧ out j = false ∧ gor out nx j = true := by
            obtain ⟨j, hj, hne⟩ := List.all_eq_false.1 ef
            simp only [List.mem_range] at hj
            cases h1 : nx j <;> cases h2 : out j <;> simp [h1, h2] at hne
            exact ⟨j, hj, h2, by simp [gor, h1]⟩
          have := left_lt (g := out) (g' := gor out nx) (fun j hj => by simp [gor, hj]) hex
          omega
      · refine Hp.sub.trans ?_ (sub_set2 (b := b6) (o := .row true 90 (gcells 2408 (fun j => nx j && !out j)) 2408) (sub_drop n7 hsub2))
        intro c o hc
        rw [set_get] at hc ⊢
        split
        · rename_i e; rw [if_pos e] at hc; exact hc
        · rename_i e
          rw [if_neg e] at hc
          rw [set_get] at hc ⊢
          split
          · rename_i e3; rw [if_pos e3] at hc; exact hc
          · rename_i e3; rw [if_neg e3] at hc; rw [set_ne e]; exact hc
end Go.Proofs.Ytonmmfjagkgifaa
