/- Nets: the reference's way with the fewest lanes. -/
import Derived.Test.YtonmmfjagkgifaaFew1
set_option linter.unusedVariables false
set_option linter.unusedSimpArgs false
namespace Go.Proofs.Ytonmmfjagkgifaa
open Go.RowKit
attribute [local go_sem] aw_mv aw_mkf aw_pick aw_bin aw_eqB aw_eqNil aw_eqAgg aw_un aw_conv aw_fa aw_ia aw_iaArr aw_ixArr aw_ixStr aw_fld aw_ext aw_bld aw_nilc aw_slc aw_slcArr aw_slcStr aw_len aw_cap aw_mnx aw_ld aw_st aw_guard_y aw_guard_n aw_nil aw_exit aw_ret aw_cond_t aw_cond_f aw_blk seqQ_norm seqQ_exit seqQ_ret blkQ_norm blkQ_exit_same blkQ_exit_ne blkQ_ret vPick_b vEqB_t vEqB_f vEqNil_sn vEqNil_ss vEqNil_pn vEqNil_ps vUn_neg vUn_not vUn_xor vConv_i vFa_p vIa_s vFld_a vExt_t vNilc_p vLen_s vLen_t vMnx_t vMnx_f abin_add abin_sub abin_mul abin_eql abin_neq abin_lss abin_leq abin_gtr abin_geq abin_and abin_or abin_xor abin_quo abin_rem abin_shl abin_shr abin_seq abin_sne abin_scat ev_tmp ev_const ev_func put_get puto_some puto_none args0_get List.getD_cons_succ List.getD_cons_zero Option.isSome_some Option.getD_some Option.isNone_none Option.isNone_some Option.map_some Option.map_none Value.bool.injEq Value.int.injEq add_mk aload_ptr rd_mk rdObj_row set_get astore_ptr apart_f apart_t List.length_cons List.length_nil List.drop_succ_cons List.drop_zero List.take_succ_cons List.take_zero List.map_cons List.map_nil Option.bind_some Option.bind_none ares_nil ares_tmp oneOf1 Nat.zero_add Nat.add_zero Bool.not_true Bool.not_false ne_eq not_false_eq_true not_true_eq_false decide_true decide_false Bool.true_and Bool.and_true Bool.false_eq_true and_self and_true true_and List.getElem?_cons_zero List.getElem?_cons_succ vc_agg vc_int vc_bool vc_slice aw_chk1 aw_chk2 st_agg st_int st_slice st_ptr one_int one_bool one_slice one_ptr one_str splice_eq aparts_nil aparts_cons afill_nil afill_cons rz0 rz1 rz2 List.all_cons List.all_nil Bool.and_self List.nil_append List.cons_append List.append_nil set_set lpQ_exit lpQ_ret

/-- Times that are told by pointers. -/
def Ptrs (B : Hp) (ty : TypeId) (rows : List (List Value)) (g : Nat → (Nat → Bool)) : Prop := ∀ k, k < rows.length → ∃ b, rows[k]? = some [.pointer (some ⟨b, 0, none⟩)] ∧ B b = some (.row true ty (gcells 2408 (g k)) 2408)
theorem Ptrs.sub {B B' : Hp} {ty : TypeId} {rows : List (List Value)} {g : Nat → (Nat → Bool)} (h : Ptrs B ty rows g) (hs : B.sub B') : Ptrs B' ty rows g := fun k hk => by
  obtain ⟨b, h1, h2⟩ := h k hk
  exact ⟨b, h1, hs b _ h2⟩
theorem Ptrs.snoc {B : Hp} {ty : TypeId} {rows : List (List Value)} {g : Nat → (Nat → Bool)} (h : Ptrs B ty rows g) {b : Nat} (hb : B b = some (.row true ty (gcells 2408 (g rows.length)) 2408)) : Ptrs B ty (rows ++ [[.pointer (some ⟨b, 0, none⟩)]]) g := fun k hk => by
  by_cases e : k < rows.length
  · obtain ⟨b', h1, h2⟩ := h k e
    exact ⟨b', by rw [List.getElem?_append_left e]; exact h1, h2⟩
  · have : k = rows.length := by simp at hk; omega
    subst this
    exact ⟨b, by simp, hb⟩
theorem up_only (b : Int × Int) : gcells 2408 (gup (fun _ => false) (b.1.toNat * 301 + b.2.toNat * 1) true) = gcells 2408 (only (place b)) := gc_ext fun j _ => by
  simp only [gup, only, place, Nat.mul_one]
  by_cases h : j = b.1.toNat * 301 + b.2.toNat <;> simp [h]
theorem asked_eq (n : NetD) (a b : Int × Int) : (if (!validNet n) = true then (1 : Int) else if (scanOk n a && scanOk n b) = true then 0 else 2) = scanCode2 n a b := by
  have : (scanOk n a && scanOk n b) = ([a.1, b.1].all (isSt n) && [a.2, b.2].all fun x => within x 0 300) := by
    simp only [scanOk, List.all_cons, List.all_nil, Bool.and_true]
    cases isSt n a.1 <;> cases isSt n b.1 <;> cases within a.2 0 300 <;> simp
  rw [this]; rfl
theorem spec_spec_FewestLanes (n : NetD) (s : Value) (a b : Int × Int) (hn : n.ok) (ha : okScan a) (hb : okScan b) {H : Hp} (hs : Sl H 4 s (n.lanes.map encLane)) (K : Value → Hp → Prop)
    (hK : ∀ out code kb ty v H', FewRes n a b out code → Live H' → Loc H H' [.own kb ty 1 v (out.map encN)] → K (.tuple #[v, .int .i64 code]) H') :
    ACalls Go.Proofs.Try.prog n_spec_FewestLanes #[.agg (encNet n s).toArray, .agg (encScan a).toArray, .agg (encScan b).toArray] H K := by
  refine acalls_go fn_spec_FewestLanes rfl fun hl => ?_
  simp only [c_spec_FewestLanes, gc_zero]
  have hL := Loc.nil H
  refine awL_box (encNet n s) hl hL (by (try simp only [go_sem, ↓reduceIte, Nat.reduceEqDiff, reduceCtorEq, Nat.reduceAdd, Nat.reduceLeDiff, Nat.reduceSub, Nat.reduceMul, Int.reduceEq, Nat.reduceBEq]) <;> rfl) fun bn H1 hl1 hL1 => ?_
  refine awL_box (encScan a) hl1 hL1 (by (try simp only [go_sem, ↓reduceIte, Nat.reduceEqDiff, reduceCtorEq, Nat.reduceAdd, Nat.reduceLeDiff, Nat.reduceSub, Nat.reduceMul, Int.reduceEq, Nat.reduceBEq]) <;> rfl) fun ba H2 hl2 hL2 => ?_
  refine awL_box (encScan b) hl2 hL2 (by (try simp only [go_sem, ↓reduceIte, Nat.reduceEqDiff, reduceCtorEq, Nat.reduceAdd, Nat.reduceLeDiff, Nat.reduceSub, Nat.reduceMul, Int.reduceEq, Nat.reduceBEq]) <;> rfl) fun bb H3 hl3 hL3 => ?_
  clear hL1 hL2 hl1 hl2
  have hbb := hL3.box 0 rfl
  have hba := hL3.box 1 rfl
  rw [encScan_eq] at hba hbb
  (try simp only [go_sem, ↓reduceIte, Nat.reduceEqDiff, reduceCtorEq, Nat.reduceAdd, Nat.reduceLeDiff, Nat.reduceSub, Nat.reduceMul, Int.reduceEq, Nat.reduceBEq])
  refine awL_bsl0 1 hl3 hL3 fun b4 v4 H4 hl4 hL4 => ?_
  have hbb := hL4.box 1 rfl
  have hba := hL4.box 2 rfl
  have hbn := hL4.box 3 rfl
  have hbn0 := hbn
  rw [encScan_eq] at hba hbb
  rw [netRow] at hbn0
  (try simp only [go_sem, ↓reduceIte, Nat.reduceEqDiff, reduceCtorEq, Nat.reduceAdd, Nat.reduceLeDiff, Nat.reduceSub, Nat.reduceMul, Int.reduceEq, Nat.reduceBEq, hba])
  refine aw_call (by (try simp only [go_sem, ↓reduceIte, Nat.reduceEqDiff, reduceCtorEq, Nat.reduceAdd, Nat.reduceLeDiff, Nat.reduceSub, Nat.reduceMul, Int.reduceEq, Nat.reduceBEq]) <;> rfl) (by (try simp only [go_sem, ↓reduceIte, Nat.reduceEqDiff, reduceCtorEq, Nat.reduceAdd, Nat.reduceLeDiff, Nat.reduceSub, Nat.reduceMul, Int.reduceEq, Nat.reduceBEq]) <;> rfl) (spec_l07Scan n s a hn ha H4 hbn _ ?_)
  have hasked := asked_eq n a b
  have bad : scanCode2 n a b ≠ 0 → ∀ (T : Tm), K (.tuple #[v4, .int .i64 (scanCode2 n a b)]) H4 := fun hne T => hK [] _ (some b4) 2 v4 H4 (.bad hne) hl4 (hL4.pick (by simp))
  cases f1 : scanOk n a with
  | false =>
    rw [f1, Bool.false_and] at hasked
    have hne : scanCode2 n a b ≠ 0 := by rw [← hasked]; split <;> simp
    (try simp only [go_sem, ↓reduceIte, Nat.reduceEqDiff, reduceCtorEq, Nat.reduceAdd, Nat.reduceLeDiff, Nat.reduceSub, Nat.reduceMul, Int.reduceEq, Nat.reduceBEq])
    refine aw_call (by (try simp only [go_sem, ↓reduceIte, Nat.reduceEqDiff, reduceCtorEq, Nat.reduceAdd, Nat.reduceLeDiff, Nat.reduceSub, Nat.reduceMul, Int.reduceEq, Nat.reduceBEq]) <;> rfl) (by (try simp only [go_sem, ↓reduceIte, Nat.reduceEqDiff, reduceCtorEq, Nat.reduceAdd, Nat.reduceLeDiff, Nat.reduceSub, Nat.reduceMul, Int.reduceEq, Nat.reduceBEq]) <;> rfl) (spec_l07Asked n s hn false (hs.sub hL4.sub) hbn _ ?_)
    rw [hasked]
    have e1 : decide (scanCode2 n a b = 0) = false := by simp [hne]
    (try simp only [go_sem, ↓reduceIte, Nat.reduceEqDiff, reduceCtorEq, Nat.reduceAdd, Nat.reduceLeDiff, Nat.reduceSub, Nat.reduceMul, Int.reduceEq, Nat.reduceBEq, e1])
    exact retQ_r2 (by (try simp only [go_sem, ↓reduceIte, Nat.reduceEqDiff, reduceCtorEq, Nat.reduceAdd, Nat.reduceLeDiff, Nat.reduceSub, Nat.reduceMul, Int.reduceEq, Nat.reduceBEq]) <;> rfl) (by (try simp only [go_sem, ↓reduceIte, Nat.reduceEqDiff, reduceCtorEq, Nat.reduceAdd, Nat.reduceLeDiff, Nat.reduceSub, Nat.reduceMul, Int.reduceEq, Nat.reduceBEq]) <;> rfl) H4 (Hp.sub.refl _) (bad hne (fun _ => v4))
  | true =>
    (try simp only [go_sem, ↓reduceIte, Nat.reduceEqDiff, reduceCtorEq, Nat.reduceAdd, Nat.reduceLeDiff, Nat.reduceSub, Nat.reduceMul, Int.reduceEq, Nat.reduceBEq, hbb])
    refine aw_call (by (try simp only [go_sem, ↓reduceIte, Nat.reduceEqDiff, reduceCtorEq, Nat.reduceAdd, Nat.reduceLeDiff, Nat.reduceSub, Nat.reduceMul, Int.reduceEq, Nat.reduceBEq]) <;> rfl) (by (try simp only [go_sem, ↓reduceIte, Nat.reduceEqDiff, reduceCtorEq, Nat.reduceAdd, Nat.reduceLeDiff, Nat.reduceSub, Nat.reduceMul, Int.reduceEq, Nat.reduceBEq]) <;> rfl) (spec_l07Scan n s b hn hb H4 hbn _ ?_)
    rw [f1, Bool.true_and] at hasked
    (try simp only [go_sem, ↓reduceIte, Nat.reduceEqDiff, reduceCtorEq, Nat.reduceAdd, Nat.reduceLeDiff, Nat.reduceSub, Nat.reduceMul, Int.reduceEq, Nat.reduceBEq])
    refine aw_call (by (try simp only [go_sem, ↓reduceIte, Nat.reduceEqDiff, reduceCtorEq, Nat.reduceAdd, Nat.reduceLeDiff, Nat.reduceSub, Nat.reduceMul, Int.reduceEq, Nat.reduceBEq]) <;> rfl) (by (try simp only [go_sem, ↓reduceIte, Nat.reduceEqDiff, reduceCtorEq, Nat.reduceAdd, Nat.reduceLeDiff, Nat.reduceSub, Nat.reduceMul, Int.reduceEq, Nat.reduceBEq]) <;> rfl) (spec_l07Asked n s hn (scanOk n b) (hs.sub hL4.sub) hbn _ ?_)
    rw [hasked]
    by_cases hc : scanCode2 n a b = 0
    · rw [hc]
      obtain ⟨hv, ⟨a1, a2, a3, a4⟩, ⟨c1, c2, c3, c4⟩, h8⟩ := code2_ok hc
      (try simp only [go_sem, ↓reduceIte, Nat.reduceEqDiff, reduceCtorEq, Nat.reduceAdd, Nat.reduceLeDiff, Nat.reduceSub, Nat.reduceMul, Int.reduceEq, Nat.reduceBEq, hba, hbb])
      refine aw_call (by (try simp only [go_sem, ↓reduceIte, Nat.reduceEqDiff, reduceCtorEq, Nat.reduceAdd, Nat.reduceLeDiff, Nat.reduceSub, Nat.reduceMul, Int.reduceEq, Nat.reduceBEq]) <;> rfl) (by (try simp only [go_sem, ↓reduceIte, Nat.reduceEqDiff, reduceCtorEq, Nat.reduceAdd, Nat.reduceLeDiff, Nat.reduceSub, Nat.reduceMul, Int.reduceEq, Nat.reduceBEq]) <;> rfl) (spec_l07Goes n s hv a b a.1.toNat a.2.toNat b.1.toNat b.2.toNat (by omega) (by omega) (by omega) (by omega) (by omega) (by omega) (by omega) (by omega) (hs.sub hL4.sub) hbn _ fun r hr => ?_)
      cases r with
      | false =>
        have hno : ¬ Reach n (place a) (place b) := fun h => by have := hr.2 h; cases this
        (try simp only [go_sem, ↓reduceIte, Nat.reduceEqDiff, reduceCtorEq, Nat.reduceAdd, Nat.reduceLeDiff, Nat.reduceSub, Nat.reduceMul, Int.reduceEq, Nat.reduceBEq])
        exact retQ_r2 (by (try simp only [go_sem, ↓reduceIte, Nat.reduceEqDiff, reduceCtorEq, Nat.reduceAdd, Nat.reduceLeDiff, Nat.reduceSub, Nat.reduceMul, Int.reduceEq, Nat.reduceBEq]) <;> rfl) (by (try simp only [go_sem, ↓reduceIte, Nat.reduceEqDiff, reduceCtorEq, Nat.reduceAdd, Nat.reduceLeDiff, Nat.reduceSub, Nat.reduceMul, Int.reduceEq, Nat.reduceBEq]) <;> rfl) H4 (Hp.sub.refl _) (hK [] 6 (some b4) 2 v4 _ (.none hc hno) hl4 (hL4.pick (by simp)))
      | true =>
        have hreach : Reach n (place a) (place b) := hr.1 rfl
        obtain ⟨K0, hK0⟩ := leastK_some hv hreach
        (try simp only [go_sem, ↓reduceIte, Nat.reduceEqDiff, reduceCtorEq, Nat.reduceAdd, Nat.reduceLeDiff, Nat.reduceSub, Nat.reduceMul, Int.reduceEq, Nat.reduceBEq, gc_rdall, gc_apart, gc_stall, gc_len, vBld_nil])
        refine awL_box (gcells 2408 fun x => false) hl4 hL4 (by (try simp only [go_sem, ↓reduceIte, Nat.reduceEqDiff, reduceCtorEq, Nat.reduceAdd, Nat.reduceLeDiff, Nat.reduceSub, Nat.reduceMul, Int.reduceEq, Nat.reduceBEq]) <;> rfl) fun b34 H5 hl5 hL5 => ?_
        rw [gc_len] at hL5
        have hbb := hL5.box 2 rfl
        rw [encScan_eq] at hbb
        have p1 := ptr_ix 8 301 b34 0 .i8 b.1 b.1.toNat (by omega) (by omega)
        have p2 := ptr_ix 301 1 b34 (0 + b.1.toNat * 301) .i16 b.2 b.2.toNat (by omega) (by omega)
        simp only [Nat.zero_add] at p1 p2
        (try simp only [go_sem, ↓reduceIte, Nat.reduceEqDiff, reduceCtorEq, Nat.reduceAdd, Nat.reduceLeDiff, Nat.reduceSub, Nat.reduceMul, Int.reduceEq, Nat.reduceBEq, hbb, p1, p2])
        refine awL_st 0 hl5 hL5 rfl (by (try simp only [go_sem, ↓reduceIte, Nat.reduceEqDiff, reduceCtorEq, Nat.reduceAdd, Nat.reduceLeDiff, Nat.reduceSub, Nat.reduceMul, Int.reduceEq, Nat.reduceBEq]) <;> rfl) (by (try simp only [go_sem, ↓reduceIte, Nat.reduceEqDiff, reduceCtorEq, Nat.reduceAdd, Nat.reduceLeDiff, Nat.reduceSub, Nat.reduceMul, Int.reduceEq, Nat.reduceBEq]) <;> rfl) (gc_st1 _ _ _ _ _ _ (by omega)) fun H6 hl6 hL6 => ?_
        rw [up_only b] at hL6
        obtain ⟨z34, hL7⟩ := hL6.freeze 0 rfl
        have hB1 : H.sub (H.set b34 (.row true 80 (gcells 2408 (only (place b))) 2408)) := sub_set z34 (Hp.sub.refl _)
        have g34 : (H.set b34 (.row true 80 (gcells 2408 (only (place b))) 2408)) b34 = _ := set_same _ _ _
        generalize H.set b34 (.row true 80 (gcells 2408 (only (place b))) 2408) = B1 at *
        (try simp only [go_sem, ↓reduceIte, Nat.reduceEqDiff, reduceCtorEq, Nat.reduceAdd, Nat.reduceLeDiff, Nat.reduceSub, Nat.reduceMul, Int.reduceEq, Nat.reduceBEq])
        refine awL_bsl1 [.pointer (some ⟨b34, 0, none⟩)] hl6 hL7 (by (try simp only [go_sem, ↓reduceIte, Nat.reduceEqDiff, reduceCtorEq, Nat.reduceAdd, Nat.reduceLeDiff, Nat.reduceSub, Nat.reduceMul, Int.reduceEq, Nat.reduceBEq]) <;> rfl) rfl rfl fun b44 v44 H8 hl8 hL8 => ?_
        (try simp only [go_sem, ↓reduceIte, Nat.reduceEqDiff, reduceCtorEq, Nat.reduceAdd, Nat.reduceLeDiff, Nat.reduceSub, Nat.reduceMul, Int.reduceEq, Nat.reduceBEq])
        refine aw_loopM hl8 (fun m T' H' => ∃ (B' : Hp) (i : Nat) (rows : List (List Value)) (kb : Option Nat) (v : Value), H.sub B' ∧ i ≤ K0 ∧ m = K0 - i ∧ rows.length = i + 1 ∧ T' 11 = v ∧ Ptrs B' 80 rows (ahead n (place b)) ∧ Loc B' H' [.own kb 77 1 v rows, .own (some b4) 2 1 v4 [], .box bb 37 (encScan b) 2, .box ba 37 (encScan a) 2, .box bn 35 (encNet n s) 3]) K0 H8 (Hp.sub.refl _)
          ⟨B1, 0, [[.pointer (some ⟨b34, 0, none⟩)]], some b44, v44, hB1, by omega, rfl, rfl, (by (try simp only [go_sem, ↓reduceIte, Nat.reduceEqDiff, reduceCtorEq, Nat.reduceAdd, Nat.reduceLeDiff, Nat.reduceSub, Nat.reduceMul, Int.reduceEq, Nat.reduceBEq]) <;> rfl), fun k hk => ⟨b34, by simp at hk; subst hk; rfl, by simp at hk; subst hk; exact g34⟩, hL8⟩ ?_
        rintro m T' H' hl' hoff ⟨B', i, rows, kb, v, hB, hi, rfl, hrl, t11, hptr, hL'⟩
        have t3 : T' 3 = .pointer (some ⟨bn, 0, none⟩) := by rw [hoff.get rfl]; (try simp only [go_sem, ↓reduceIte, Nat.reduceEqDiff, reduceCtorEq, Nat.reduceAdd, Nat.reduceLeDiff, Nat.reduceSub, Nat.reduceMul, Int.reduceEq, Nat.reduceBEq])
        have t4 : T' 4 = .pointer (some ⟨ba, 0, none⟩) := by rw [hoff.get rfl]; (try simp only [go_sem, ↓reduceIte, Nat.reduceEqDiff, reduceCtorEq, Nat.reduceAdd, Nat.reduceLeDiff, Nat.reduceSub, Nat.reduceMul, Int.reduceEq, Nat.reduceBEq])
        have t8 : T' 8 = v4 := by rw [hoff.get rfl]; (try simp only [go_sem, ↓reduceIte, Nat.reduceEqDiff, reduceCtorEq, Nat.reduceAdd, Nat.reduceLeDiff, Nat.reduceSub, Nat.reduceMul, Int.reduceEq, Nat.reduceBEq])
        have hba := hL'.box 3 rfl
        have hbn := hL'.box 4 rfl
        rw [encScan_eq] at hba
        have hK1 := hK0.one
        have hK3 := hK0.few
        have hlen := hL'.len 0 rfl
        have wl : IntKind.i64.wrap ((rows.length : Int) - 1) = i := by rw [wrap_i64 (by omega) (by omega)]; omega
        obtain ⟨bo, oo, hia, hrd, -, -⟩ := hL'.at 0 rfl (k := .i64) (j := (i : Int)) (by omega) (by omega)
        obtain ⟨bk, hrk, hBk⟩ := hptr i (by omega)
        rw [show rows.getD (i : Int).toNat [] = [.pointer (some ⟨bk, 0, none⟩)] by rw [List.getD_eq_getElem?_getD, Int.toNat_natCast, hrk]; rfl] at hrd
        have hk : H' bk = _ := hL'.sub _ _ hBk
        have p1 := ptr_ix 8 301 bk 0 .i8 a.1 a.1.toNat (by omega) (by omega)
        have p2 := ptr_ix 301 1 bk (0 + a.1.toNat * 301) .i16 a.2 a.2.toNat (by omega) (by omega)
        have rd1 := gc_rd1 true 80 2408 2408 (ahead n (place b) i) (0 + a.1.toNat * 301 + a.2.toNat * 1) (by omega)
        simp only [Nat.zero_add, Nat.mul_one] at p1 p2 rd1
        rw [show a.1.toNat * 301 + a.2.toNat = place a from rfl] at rd1 p2
        have go : ∀ T1 : Tm, T1 3 = .pointer (some ⟨bn, 0, none⟩) → True := fun _ _ => trivial
        by_cases hiK : i = K0
        · subst hiK
          rw [hK0.yes] at rd1
          have e0 : decide ((rows.length : Int) = 1) = false := by simp; omega
          (try simp only [go_sem, ↓reduceIte, Nat.reduceEqDiff, reduceCtorEq, Nat.reduceAdd, Nat.reduceLeDiff, Nat.reduceSub, Nat.reduceMul, Int.reduceEq, Nat.reduceBEq, gc_rdall, gc_apart, gc_stall, gc_len, vBld_nil, t3, t4, t11, hba, e0, hlen, wl, hia, hrd, p1, p2, hk, rd1])
          refine awL_box (gcells 2408 fun x => false) hl' hL' (by (try simp only [go_sem, ↓reduceIte, Nat.reduceEqDiff, reduceCtorEq, Nat.reduceAdd, Nat.reduceLeDiff, Nat.reduceSub, Nat.reduceMul, Int.reduceEq, Nat.reduceBEq]) <;> rfl) fun b76 H8 hl8 hL8 => ?_
          rw [gc_len] at hL8
          have hba := hL8.box 4 rfl
          rw [encScan_eq] at hba
          have p1 := ptr_ix 8 301 b76 0 .i8 a.1 a.1.toNat (by omega) (by omega)
          have p2 := ptr_ix 301 1 b76 (0 + a.1.toNat * 301) .i16 a.2 a.2.toNat (by omega) (by omega)
          simp only [Nat.zero_add] at p1 p2
          (try simp only [go_sem, ↓reduceIte, Nat.reduceEqDiff, reduceCtorEq, Nat.reduceAdd, Nat.reduceLeDiff, Nat.reduceSub, Nat.reduceMul, Int.reduceEq, Nat.reduceBEq, t4, hba, p1, p2])
          refine awL_st 0 hl8 hL8 rfl (by (try simp only [go_sem, ↓reduceIte, Nat.reduceEqDiff, reduceCtorEq, Nat.reduceAdd, Nat.reduceLeDiff, Nat.reduceSub, Nat.reduceMul, Int.reduceEq, Nat.reduceBEq]) <;> rfl) (by (try simp only [go_sem, ↓reduceIte, Nat.reduceEqDiff, reduceCtorEq, Nat.reduceAdd, Nat.reduceLeDiff, Nat.reduceSub, Nat.reduceMul, Int.reduceEq, Nat.reduceBEq]) <;> rfl) (gc_st1 _ _ _ _ _ _ (by omega)) fun H9 hl9 hL9 => ?_
          rw [up_only a] at hL9
          obtain ⟨z76, hL10⟩ := hL9.freeze 0 rfl
          have hB2 : B'.sub (B'.set b76 (.row true 80 (gcells 2408 (only (place a))) 2408)) := sub_set z76 (Hp.sub.refl _)
          have g76 : (B'.set b76 (.row true 80 (gcells 2408 (only (place a))) 2408)) b76 = _ := set_same _ _ _
          generalize B'.set b76 (.row true 80 (gcells 2408 (only (place a))) 2408) = B2 at *
          have hptr2 := hptr.sub hB2
          have hBB := hB.trans hB2
          have hba := hL10.box 3 rfl
          rw [encScan_eq] at hba
          have w0 : IntKind.i64.wrap a.1 = a.1 := wrap_i64 (by omega) (by omega)
          (try simp only [go_sem, ↓reduceIte, Nat.reduceEqDiff, reduceCtorEq, Nat.reduceAdd, Nat.reduceLeDiff, Nat.reduceSub, Nat.reduceMul, Int.reduceEq, Nat.reduceBEq, t4, t8, hba, w0])
          refine awL_bsl1 [.int .i64 a.1] hl9 hL10 (by (try simp only [go_sem, ↓reduceIte, Nat.reduceEqDiff, reduceCtorEq, Nat.reduceAdd, Nat.reduceLeDiff, Nat.reduceSub, Nat.reduceMul, Int.reduceEq, Nat.reduceBEq]) <;> rfl) rfl rfl fun b89 v89 H11 hl11 hL11 => ?_
          refine awL_app1 2 0 hl11 hL11 rfl rfl (by (try simp only [go_sem, ↓reduceIte, Nat.reduceEqDiff, reduceCtorEq, Nat.reduceAdd, Nat.reduceLeDiff, Nat.reduceSub, Nat.reduceMul, Int.reduceEq, Nat.reduceBEq]) <;> rfl) (by (try simp only [go_sem, ↓reduceIte, Nat.reduceEqDiff, reduceCtorEq, Nat.reduceAdd, Nat.reduceLeDiff, Nat.reduceSub, Nat.reduceMul, Int.reduceEq, Nat.reduceBEq]) <;> rfl) rfl (by omega) (by simp) fun kb90 v90 H12 hl12 hL12 => ?_
          have hL13 := hL12.drop 1
          have hlen := hL13.len 0 rfl
          have w2 : IntKind.i64.wrap ((rows.length : Int) - 2) = ((i : Int) - 1) := by rw [wrap_i64 (by omega) (by omega)]; omega
          (try simp only [go_sem, ↓reduceIte, Nat.reduceEqDiff, reduceCtorEq, Nat.reduceAdd, Nat.reduceLeDiff, Nat.reduceSub, Nat.reduceMul, Int.reduceEq, Nat.reduceBEq, t11, hlen, w2])
          have hL14 : Loc B2 H12 [.own kb 77 1 v rows, .own kb90 2 1 v90 ([a.1.toNat].map encN), .box bb 37 (encScan b) 2, .box ba 37 (encScan a) 2, .box bn 35 (encNet n s) 3] := by
            rw [show ([a.1.toNat].map encN) = [[.int .i64 a.1]] by simp [encN, encI]; omega]
            exact hL13
          refine aw_loopM hl12 (fun m T' H' => ∃ (B3 : Hp) (bw : Nat) (k : Nat) (now : Nat → Bool) (out : List Nat) (kb1 : Option Nat) (v1 : Value), B2.sub B3 ∧ B3 bw = some (.row true 80 (gcells 2408 now) 2408) ∧ m = k ∧ k ≤ i ∧ T' 8 = v1 ∧ T' 12 = .pointer (some ⟨bw, 0, none⟩) ∧ T' 13 = .int .i64 ((k : Int) - 1) ∧ fwd n (place b) k now out = fewOut n a b i ∧ out.length + k ≤ i + 1 ∧ Loc B3 H' [.own kb 77 1 v rows, .own kb1 2 1 v1 (out.map encN), .box bb 37 (encScan b) 2, .box ba 37 (encScan a) 2, .box bn 35 (encNet n s) 3]) i H12 (Hp.sub.refl _)
            ⟨B2, b76, i, only (place a), [a.1.toNat], kb90, v90, Hp.sub.refl _, g76, rfl, Nat.le_refl _, (by (try simp only [go_sem, ↓reduceIte, Nat.reduceEqDiff, reduceCtorEq, Nat.reduceAdd, Nat.reduceLeDiff, Nat.reduceSub, Nat.reduceMul, Int.reduceEq, Nat.reduceBEq]) <;> rfl), (by (try simp only [go_sem, ↓reduceIte, Nat.reduceEqDiff, reduceCtorEq, Nat.reduceAdd, Nat.reduceLeDiff, Nat.reduceSub, Nat.reduceMul, Int.reduceEq, Nat.reduceBEq]) <;> rfl), (by (try simp only [go_sem, ↓reduceIte, Nat.reduceEqDiff, reduceCtorEq, Nat.reduceAdd, Nat.reduceLeDiff, Nat.reduceSub, Nat.reduceMul, Int.reduceEq, Nat.reduceBEq]) <;> rfl), rfl, by simp; omega, hL14⟩ ?_
          clear hL7 hL8 hL9 hL10 hL11 hL12 hL13 hL14
          rintro m T2 H2 hl2 hoff2 ⟨B3, bw, k, now, out, kb1, v1, hB3, hbw, rfl, hk', u8, u12, u13, hfwd, hlo, hL2⟩
          have u3 : T2 3 = .pointer (some ⟨bn, 0, none⟩) := by rw [hoff2.get rfl]; (try simp only [go_sem, ↓reduceIte, Nat.reduceEqDiff, reduceCtorEq, Nat.reduceAdd, Nat.reduceLeDiff, Nat.reduceSub, Nat.reduceMul, Int.reduceEq, Nat.reduceBEq, t3])
          have u11 : T2 11 = v := by rw [hoff2.get rfl]; (try simp only [go_sem, ↓reduceIte, Nat.reduceEqDiff, reduceCtorEq, Nat.reduceAdd, Nat.reduceLeDiff, Nat.reduceSub, Nat.reduceMul, Int.reduceEq, Nat.reduceBEq, t11])
          cases m with
          | zero =>
            have e1 : decide (((0 : Nat) : Int) - 1 ≥ 0) = false := rfl
            (try simp only [go_sem, ↓reduceIte, Nat.reduceEqDiff, reduceCtorEq, Nat.reduceAdd, Nat.reduceLeDiff, Nat.reduceSub, Nat.reduceMul, Int.reduceEq, Nat.reduceBEq, u13, e1])
            refine retQ_r2 (by (try simp only [go_sem, ↓reduceIte, Nat.reduceEqDiff, reduceCtorEq, Nat.reduceAdd, Nat.reduceLeDiff, Nat.reduceSub, Nat.reduceMul, Int.reduceEq, Nat.reduceBEq, u8]) <;> rfl) (by (try simp only [go_sem, ↓reduceIte, Nat.reduceEqDiff, reduceCtorEq, Nat.reduceAdd, Nat.reduceLeDiff, Nat.reduceSub, Nat.reduceMul, Int.reduceEq, Nat.reduceBEq]) <;> rfl) H2 (Hp.sub.refl _) (hK _ 0 kb1 2 v1 _ (.way hc hreach hK0) hl2 ?_)
            have := ((hL2.drop 1).base (hBB.trans hB3)).pick (L' := [.own kb1 2 1 v1 (out.map encN)]) (by simp)
            rw [fwd] at hfwd
            rw [← hfwd]
            exact this
          | succ k =>
            have e1 : decide (((k + 1 : Nat) : Int) - 1 ≥ 0) = true := by simp
            (try simp only [go_sem, ↓reduceIte, Nat.reduceEqDiff, reduceCtorEq, Nat.reduceAdd, Nat.reduceLeDiff, Nat.reduceSub, Nat.reduceMul, Int.reduceEq, Nat.reduceBEq, u13, e1])
            refine aw_loopM hl2 (fun m T' H' => ∃ (s' : Nat), s' ≤ n.st ∧ m = n.st.toNat - s' ∧ T' 14 = .int .i64 s' ∧ T' 8 = v1 ∧ T' 12 = .pointer (some ⟨bw, 0, none⟩) ∧ (∀ r, r < s' → meetG (stepL n now (n.lanes.filter (toSt r))) (ahead n (place b) k) = false) ∧ Loc B3 H' [.own kb 77 1 v rows, .own kb1 2 1 v1 (out.map encN), .box bb 37 (encScan b) 2, .box ba 37 (encScan a) 2, .box bn 35 (encNet n s) 3]) n.st.toNat H2 (Hp.sub.refl _)
              ⟨0, by omega, rfl, (by (try simp only [go_sem, ↓reduceIte, Nat.reduceEqDiff, reduceCtorEq, Nat.reduceAdd, Nat.reduceLeDiff, Nat.reduceSub, Nat.reduceMul, Int.reduceEq, Nat.reduceBEq]) <;> rfl), (by (try simp only [go_sem, ↓reduceIte, Nat.reduceEqDiff, reduceCtorEq, Nat.reduceAdd, Nat.reduceLeDiff, Nat.reduceSub, Nat.reduceMul, Int.reduceEq, Nat.reduceBEq, u8]) <;> rfl), (by (try simp only [go_sem, ↓reduceIte, Nat.reduceEqDiff, reduceCtorEq, Nat.reduceAdd, Nat.reduceLeDiff, Nat.reduceSub, Nat.reduceMul, Int.reduceEq, Nat.reduceBEq, u12]) <;> rfl), fun r hr => absurd hr (by omega), hL2⟩ ?_
            rintro m3 T3 H3 hl3 hoff3 ⟨s', hs', rfl, x14, x8, x12, hnone, hL3⟩
            have x3 : T3 3 = .pointer (some ⟨bn, 0, none⟩) := by rw [hoff3.get rfl]; (try simp only [go_sem, ↓reduceIte, Nat.reduceEqDiff, reduceCtorEq, Nat.reduceAdd, Nat.reduceLeDiff, Nat.reduceSub, Nat.reduceMul, Int.reduceEq, Nat.reduceBEq, u3])
            have x11 : T3 11 = v := by rw [hoff3.get rfl]; (try simp only [go_sem, ↓reduceIte, Nat.reduceEqDiff, reduceCtorEq, Nat.reduceAdd, Nat.reduceLeDiff, Nat.reduceSub, Nat.reduceMul, Int.reduceEq, Nat.reduceBEq, u11])
            have x13 : T3 13 = .int .i64 (((k + 1 : Nat) : Int) - 1) := by rw [hoff3.get rfl]; (try simp only [go_sem, ↓reduceIte, Nat.reduceEqDiff, reduceCtorEq, Nat.reduceAdd, Nat.reduceLeDiff, Nat.reduceSub, Nat.reduceMul, Int.reduceEq, Nat.reduceBEq, u13])
            have wk : IntKind.i64.wrap (((k + 1 : Nat) : Int) - 1 - 1) = (k : Int) - 1 := by rw [wrap_i64 (by omega) (by omega)]; omega
            have ws : IntKind.i64.wrap n.st = n.st := wrap_i64 (by omega) (by omega)
            have hbn3 := hL3.box 4 rfl
            have hbn3' := hbn3
            rw [netRow] at hbn3'
            by_cases hlt : (s' : Int) < n.st
            · have e2 : decide ((s' : Int) < n.st) = true := by simp [hlt]
              (try simp only [go_sem, ↓reduceIte, Nat.reduceEqDiff, reduceCtorEq, Nat.reduceAdd, Nat.reduceLeDiff, Nat.reduceSub, Nat.reduceMul, Int.reduceEq, Nat.reduceBEq, x14, x3, hbn3', ws, e2, x12])
              have hbw3 := hL3.sub _ _ hbw
              refine aw_call (by (try simp only [go_sem, ↓reduceIte, Nat.reduceEqDiff, reduceCtorEq, Nat.reduceAdd, Nat.reduceLeDiff, Nat.reduceSub, Nat.reduceMul, Int.reduceEq, Nat.reduceBEq]) <;> rfl) (by (try simp only [go_sem, ↓reduceIte, Nat.reduceEqDiff, reduceCtorEq, Nat.reduceAdd, Nat.reduceLeDiff, Nat.reduceSub, Nat.reduceMul, Int.reduceEq, Nat.reduceBEq, x3, x12]) <;> rfl) (spec_l07Step n s hv hn now s' (hs.sub (hBB.trans (hB3.trans hL3.sub))) hbn3 hbw3 _ fun bq hbq => ?_)
              have hl9 := Live.set hl3 bq 80 (gcells 2408 (stepL n now (n.lanes.filter (toSt s')))) 2408 (by rw [gc_len]; exact Nat.le_refl _)
              have hL9 := hL3.grow (o := .row true 80 (gcells 2408 (stepL n now (n.lanes.filter (toSt s')))) 2408) hbq
              have g9 : (B3.set bq (.row true 80 (gcells 2408 (stepL n now (n.lanes.filter (toSt s')))) 2408)) bq = _ := set_same _ _ _
              have s9 : B3.sub (B3.set bq (.row true 80 (gcells 2408 (stepL n now (n.lanes.filter (toSt s')))) 2408)) := sub_set (sub_none hL3.sub hbq) (Hp.sub.refl _)
              have s10 : H3.sub (H3.set bq (.row true 80 (gcells 2408 (stepL n now (n.lanes.filter (toSt s')))) 2408)) := sub_set hbq (Hp.sub.refl _)
              generalize B3.set bq (.row true 80 (gcells 2408 (stepL n now (n.lanes.filter (toSt s')))) 2408) = B9 at *
              generalize H3.set bq (.row true 80 (gcells 2408 (stepL n now (n.lanes.filter (toSt s')))) 2408) = H9 at *
              obtain ⟨bo, oo, hia, hrd, -, -⟩ := hL9.at 0 rfl (k := .i64) (j := ((k + 1 : Nat) : Int) - 1) (by omega) (by omega)
              obtain ⟨bk, hrk, hBk⟩ := hptr2 k (by omega)
              rw [show rows.getD (((k + 1 : Nat) : Int) - 1).toNat [] = [.pointer (some ⟨bk, 0, none⟩)] by rw [List.getD_eq_getElem?_getD, show (((k + 1 : Nat) : Int) - 1).toNat = k by omega, hrk]; rfl] at hrd
              have hk : H9 bk = _ := hL9.sub _ _ (s9 _ _ (hB3 _ _ hBk))
              (try simp only [go_sem, ↓reduceIte, Nat.reduceEqDiff, reduceCtorEq, Nat.reduceAdd, Nat.reduceLeDiff, Nat.reduceSub, Nat.reduceMul, Int.reduceEq, Nat.reduceBEq, x11, x13, hia, hrd])
              refine aw_call (by (try simp only [go_sem, ↓reduceIte, Nat.reduceEqDiff, reduceCtorEq, Nat.reduceAdd, Nat.reduceLeDiff, Nat.reduceSub, Nat.reduceMul, Int.reduceEq, Nat.reduceBEq]) <;> rfl) (by (try simp only [go_sem, ↓reduceIte, Nat.reduceEqDiff, reduceCtorEq, Nat.reduceAdd, Nat.reduceLeDiff, Nat.reduceSub, Nat.reduceMul, Int.reduceEq, Nat.reduceBEq]) <;> rfl) (spec_l07Meet (stepL n now (n.lanes.filter (toSt s'))) (ahead n (place b) k) (hL9.sub _ _ g9) hk _ ?_)
              cases em : meetG (stepL n now (n.lanes.filter (toSt s'))) (ahead n (place b) k) with
              | false =>
                have w8 : IntKind.i64.wrap ((s' : Int) + 1) = ((s' + 1 : Nat) : Int) := by rw [wrap_i64 (by omega) (by omega)]; simp
                (try simp only [go_sem, ↓reduceIte, Nat.reduceEqDiff, reduceCtorEq, Nat.reduceAdd, Nat.reduceLeDiff, Nat.reduceSub, Nat.reduceMul, Int.reduceEq, Nat.reduceBEq, x14, w8])
                refine ⟨_, H3, ?_, s10, s' + 1, by omega, rfl, (by (try simp only [go_sem, ↓reduceIte, Nat.reduceEqDiff, reduceCtorEq, Nat.reduceAdd, Nat.reduceLeDiff, Nat.reduceSub, Nat.reduceMul, Int.reduceEq, Nat.reduceBEq]) <;> rfl), (by (try simp only [go_sem, ↓reduceIte, Nat.reduceEqDiff, reduceCtorEq, Nat.reduceAdd, Nat.reduceLeDiff, Nat.reduceSub, Nat.reduceMul, Int.reduceEq, Nat.reduceBEq, x8]) <;> rfl), (by (try simp only [go_sem, ↓reduceIte, Nat.reduceEqDiff, reduceCtorEq, Nat.reduceAdd, Nat.reduceLeDiff, Nat.reduceSub, Nat.reduceMul, Int.reduceEq, Nat.reduceBEq, x12]) <;> rfl), fun r hr => ?_, hL3⟩
                · omega
                · by_cases e : r = s'
                  · subst e; exact em
                  · exact hnone r (by omega)
              | true =>
                (try simp only [go_sem, ↓reduceIte, Nat.reduceEqDiff, reduceCtorEq, Nat.reduceAdd, Nat.reduceLeDiff, Nat.reduceSub, Nat.reduceMul, Int.reduceEq, Nat.reduceBEq, x8, x14])
                refine awL_bsl1 (encN s') hl9 hL9 (by (try simp only [go_sem, ↓reduceIte, Nat.reduceEqDiff, reduceCtorEq, Nat.reduceAdd, Nat.reduceLeDiff, Nat.reduceSub, Nat.reduceMul, Int.reduceEq, Nat.reduceBEq]) <;> rfl) rfl rfl fun b8 v8 H10 hl10 hL10 => ?_
                refine awL_app1 2 0 hl10 hL10 rfl rfl (by (try simp only [go_sem, ↓reduceIte, Nat.reduceEqDiff, reduceCtorEq, Nat.reduceAdd, Nat.reduceLeDiff, Nat.reduceSub, Nat.reduceMul, Int.reduceEq, Nat.reduceBEq, x8]) <;> rfl) (by (try simp only [go_sem, ↓reduceIte, Nat.reduceEqDiff, reduceCtorEq, Nat.reduceAdd, Nat.reduceLeDiff, Nat.reduceSub, Nat.reduceMul, Int.reduceEq, Nat.reduceBEq]) <;> rfl) rfl (by omega) (by simp; omega) fun kb9 v9 H11 hl11 hL11 => ?_
                (try simp only [go_sem, ↓reduceIte, Nat.reduceEqDiff, reduceCtorEq, Nat.reduceAdd, Nat.reduceLeDiff, Nat.reduceSub, Nat.reduceMul, Int.reduceEq, Nat.reduceBEq, x13, wk])
                refine ⟨k, H11, by omega, Hp.sub.refl _, B9, bq, k, _, out ++ [s'], kb9, v9, hB3.trans s9, g9, rfl, by omega, (by (try simp only [go_sem, ↓reduceIte, Nat.reduceEqDiff, reduceCtorEq, Nat.reduceAdd, Nat.reduceLeDiff, Nat.reduceSub, Nat.reduceMul, Int.reduceEq, Nat.reduceBEq]) <;> rfl), (by (try simp only [go_sem, ↓reduceIte, Nat.reduceEqDiff, reduceCtorEq, Nat.reduceAdd, Nat.reduceLeDiff, Nat.reduceSub, Nat.reduceMul, Int.reduceEq, Nat.reduceBEq]) <;> rfl), (by (try simp only [go_sem, ↓reduceIte, Nat.reduceEqDiff, reduceCtorEq, Nat.reduceAdd, Nat.reduceLeDiff, Nat.reduceSub, Nat.reduceMul, Int.reduceEq, Nat.reduceBEq]) <;> rfl), ?_, by simp; omega, ?_⟩
                · rw [fwd, pick_some (by omega) hnone em] at hfwd
                  exact hfwd
                · have := hL11.drop 1
                  rw [List.map_append]
                  exact this
            · have e2 : decide ((s' : Int) < n.st) = false := by simp; omega
              (try simp only [go_sem, ↓reduceIte, Nat.reduceEqDiff, reduceCtorEq, Nat.reduceAdd, Nat.reduceLeDiff, Nat.reduceSub, Nat.reduceMul, Int.reduceEq, Nat.reduceBEq, x14, x3, hbn3', ws, e2, x13, wk])
              refine ⟨k, H3, by omega, Hp.sub.refl _, B3, bw, k, now, out, kb1, v1, hB3, hbw, rfl, by omega, (by (try simp only [go_sem, ↓reduceIte, Nat.reduceEqDiff, reduceCtorEq, Nat.reduceAdd, Nat.reduceLeDiff, Nat.reduceSub, Nat.reduceMul, Int.reduceEq, Nat.reduceBEq, x8]) <;> rfl), (by (try simp only [go_sem, ↓reduceIte, Nat.reduceEqDiff, reduceCtorEq, Nat.reduceAdd, Nat.reduceLeDiff, Nat.reduceSub, Nat.reduceMul, Int.reduceEq, Nat.reduceBEq, x12]) <;> rfl), (by (try simp only [go_sem, ↓reduceIte, Nat.reduceEqDiff, reduceCtorEq, Nat.reduceAdd, Nat.reduceLeDiff, Nat.reduceSub, Nat.reduceMul, Int.reduceEq, Nat.reduceBEq]) <;> rfl), ?_, by omega, hL3⟩
              rw [fwd, pick_none fun r hr => hnone r (by omega)] at hfwd
              exact hfwd
        · have hgo : (ahead n (place b) i (place a) = false ∧ True) ∨ (ahead n (place b) i (place a) = true ∧ decide ((rows.length : Int) = 1) = true) := by
            cases ex : ahead n (place b) i (place a) with
            | false => exact .inl ⟨rfl, trivial⟩
            | true =>
              by_cases h0 : i = 0
              · exact .inr ⟨rfl, by simp; omega⟩
              · have := hK0.no i (by omega) (by omega); rw [ex] at this; cases this
          rcases hgo with ⟨ex, e0⟩ | ⟨ex, e0⟩
          all_goals
            rw [ex] at rd1
            (try simp only [go_sem, ↓reduceIte, Nat.reduceEqDiff, reduceCtorEq, Nat.reduceAdd, Nat.reduceLeDiff, Nat.reduceSub, Nat.reduceMul, Int.reduceEq, Nat.reduceBEq, t3, t4, t11, hba, e0, hlen, wl, hia, hrd, p1, p2, hk, rd1])
            refine aw_call (by (try simp only [go_sem, ↓reduceIte, Nat.reduceEqDiff, reduceCtorEq, Nat.reduceAdd, Nat.reduceLeDiff, Nat.reduceSub, Nat.reduceMul, Int.reduceEq, Nat.reduceBEq]) <;> rfl) (by (try simp only [go_sem, ↓reduceIte, Nat.reduceEqDiff, reduceCtorEq, Nat.reduceAdd, Nat.reduceLeDiff, Nat.reduceSub, Nat.reduceMul, Int.reduceEq, Nat.reduceBEq, t3]) <;> rfl) (spec_l07Back n s hv (ahead n (place b) i) (hs.sub (hB.trans hL'.sub)) hbn hk _ fun bq hbq => ?_)
            have hl9 := Live.set hl' bq 80 (gcells 2408 (backL n (ahead n (place b) i) n.lanes)) 2408 (by rw [gc_len]; exact Nat.le_refl _)
            have hL9 := hL'.grow (o := .row true 80 (gcells 2408 (backL n (ahead n (place b) i) n.lanes)) 2408) hbq
            have g9 : (B'.set bq (.row true 80 (gcells 2408 (backL n (ahead n (place b) i) n.lanes)) 2408)) bq = _ := set_same _ _ _
            have s9 : B'.sub (B'.set bq (.row true 80 (gcells 2408 (backL n (ahead n (place b) i) n.lanes)) 2408)) := sub_set (sub_none hL'.sub hbq) (Hp.sub.refl _)
            generalize B'.set bq (.row true 80 (gcells 2408 (backL n (ahead n (place b) i) n.lanes)) 2408) = B9 at *
            generalize H'.set bq (.row true 80 (gcells 2408 (backL n (ahead n (place b) i) n.lanes)) 2408) = H9 at *
            (try simp only [go_sem, ↓reduceIte, Nat.reduceEqDiff, reduceCtorEq, Nat.reduceAdd, Nat.reduceLeDiff, Nat.reduceSub, Nat.reduceMul, Int.reduceEq, Nat.reduceBEq])
            refine awL_bsl1 [.pointer (some ⟨bq, 0, none⟩)] hl9 hL9 (by (try simp only [go_sem, ↓reduceIte, Nat.reduceEqDiff, reduceCtorEq, Nat.reduceAdd, Nat.reduceLeDiff, Nat.reduceSub, Nat.reduceMul, Int.reduceEq, Nat.reduceBEq]) <;> rfl) rfl rfl fun b6 v6 H10 hl10 hL10 => ?_
            (try simp only [go_sem, ↓reduceIte, Nat.reduceEqDiff, reduceCtorEq, Nat.reduceAdd, Nat.reduceLeDiff, Nat.reduceSub, Nat.reduceMul, Int.reduceEq, Nat.reduceBEq])
            refine awL_app1 1 0 hl10 hL10 rfl rfl (by (try simp only [go_sem, ↓reduceIte, Nat.reduceEqDiff, reduceCtorEq, Nat.reduceAdd, Nat.reduceLeDiff, Nat.reduceSub, Nat.reduceMul, Int.reduceEq, Nat.reduceBEq]) <;> rfl) (by (try simp only [go_sem, ↓reduceIte, Nat.reduceEqDiff, reduceCtorEq, Nat.reduceAdd, Nat.reduceLeDiff, Nat.reduceSub, Nat.reduceMul, Int.reduceEq, Nat.reduceBEq]) <;> rfl) rfl (by omega) (by omega) fun kb7 v7 H11 hl11 hL11 => ?_
            (try simp only [go_sem, ↓reduceIte, Nat.reduceEqDiff, reduceCtorEq, Nat.reduceAdd, Nat.reduceLeDiff, Nat.reduceSub, Nat.reduceMul, Int.reduceEq, Nat.reduceBEq])
            refine ⟨K0 - (i + 1), H11, by omega, Hp.sub.refl _, B9, i + 1, _, kb7, v7, hB.trans s9, by omega, rfl, ?_, (by (try simp only [go_sem, ↓reduceIte, Nat.reduceEqDiff, reduceCtorEq, Nat.reduceAdd, Nat.reduceLeDiff, Nat.reduceSub, Nat.reduceMul, Int.reduceEq, Nat.reduceBEq]) <;> rfl), ?_, hL11.drop 1⟩
            · simp [hrl]
            · refine (hptr.sub s9).snoc ?_
              rw [g9, hrl]
              rfl
    · have e1 : decide (scanCode2 n a b = 0) = false := by simp [hc]
      (try simp only [go_sem, ↓reduceIte, Nat.reduceEqDiff, reduceCtorEq, Nat.reduceAdd, Nat.reduceLeDiff, Nat.reduceSub, Nat.reduceMul, Int.reduceEq, Nat.reduceBEq, e1])
      exact retQ_r2 (by (try simp only [go_sem, ↓reduceIte, Nat.reduceEqDiff, reduceCtorEq, Nat.reduceAdd, Nat.reduceLeDiff, Nat.reduceSub, Nat.reduceMul, Int.reduceEq, Nat.reduceBEq]) <;> rfl) (by (try simp only [go_sem, ↓reduceIte, Nat.reduceEqDiff, reduceCtorEq, Nat.reduceAdd, Nat.reduceLeDiff, Nat.reduceSub, Nat.reduceMul, Int.reduceEq, Nat.reduceBEq]) <;> rfl) H4 (Hp.sub.refl _) (bad hc (fun _ => v4))
end Go.Proofs.Ytonmmfjagkgifaa
