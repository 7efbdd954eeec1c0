/- Nets: small functions of the program, what each one computes. -/
import Derived.Test.YtonmmfjagkgifaaInts
set_option linter.unusedVariables false
set_option linter.unusedSimpArgs false
namespace Go.Proofs.Ytonmmfjagkgifaa
open Go.RowKit
attribute [local go_sem] aw_mv aw_mkf aw_pick aw_bin aw_eqB aw_eqNil aw_eqAgg aw_un aw_conv aw_fa aw_ia aw_iaArr aw_ixArr aw_ixStr aw_fld aw_ext aw_bld aw_nilc aw_slc aw_slcArr aw_slcStr aw_len aw_cap aw_mnx aw_ld aw_st aw_guard_y aw_guard_n aw_nil aw_exit aw_ret aw_cond_t aw_cond_f aw_blk seqQ_norm seqQ_exit seqQ_ret blkQ_norm blkQ_exit_same blkQ_exit_ne blkQ_ret vPick_b vEqB_t vEqB_f vEqNil_sn vEqNil_ss vEqNil_pn vEqNil_ps vUn_neg vUn_not vUn_xor vConv_i vFa_p vIa_s vFld_a vExt_t vNilc_p vLen_s vLen_t vMnx_t vMnx_f abin_add abin_sub abin_mul abin_eql abin_neq abin_lss abin_leq abin_gtr abin_geq abin_and abin_or abin_xor abin_quo abin_rem abin_shl abin_shr abin_seq abin_sne abin_scat ev_tmp ev_const ev_func put_get puto_some puto_none args0_get List.getD_cons_succ List.getD_cons_zero Option.isSome_some Option.getD_some Option.isNone_none Option.isNone_some Option.map_some Option.map_none Value.bool.injEq Value.int.injEq add_mk aload_ptr rd_mk rdObj_row set_get astore_ptr apart_f apart_t List.length_cons List.length_nil List.drop_succ_cons List.drop_zero List.take_succ_cons List.take_zero List.map_cons List.map_nil Option.bind_some Option.bind_none ares_nil ares_tmp oneOf1 Nat.zero_add Nat.add_zero Bool.not_true Bool.not_false ne_eq not_false_eq_true not_true_eq_false decide_true decide_false Bool.true_and Bool.and_true Bool.false_eq_true and_self and_true true_and List.getElem?_cons_zero List.getElem?_cons_succ vc_agg vc_int vc_bool vc_slice aw_chk1 aw_chk2 st_agg st_int st_slice st_ptr one_int one_bool one_slice one_ptr one_str splice_eq aparts_nil aparts_cons afill_nil afill_cons rz0 rz1 rz2 List.all_cons List.all_nil Bool.and_self List.nil_append List.cons_append List.append_nil set_set

structure LaneD where
  frm : Int
  to : Int
  least : Int
  most : Int
deriving DecidableEq
structure NetD where
  st : Int
  stay : Int
  lanes : List LaneD
def LaneD.ok (l : LaneD) : Prop := (-128 ≤ l.frm ∧ l.frm ≤ 127) ∧ (-128 ≤ l.to ∧ l.to ≤ 127) ∧ (-32768 ≤ l.least ∧ l.least ≤ 32767) ∧ (-32768 ≤ l.most ∧ l.most ≤ 32767)
def NetD.ok (n : NetD) : Prop := (-128 ≤ n.st ∧ n.st ≤ 127) ∧ (-32768 ≤ n.stay ∧ n.stay ≤ 32767) ∧ ∀ l ∈ n.lanes, l.ok
def encLane (l : LaneD) : List Value := [.int .i8 l.frm, .int .i8 l.to, .int .i16 l.least, .int .i16 l.most]
def encNet (n : NetD) (s : Value) : List Value := [.int .i8 n.st, .int .i16 n.stay, s]
def within (n lo hi : Int) : Bool := decide (lo ≤ n) && decide (n ≤ hi)

theorem spec_within (n lo hi : Int) (H : Hp) (K : Value → Hp → Prop) (hK : K (.bool (within n lo hi)) H) : ACalls Go.Proofs.Try.prog n_impl_within #[.int .i64 n, .int .i64 lo, .int .i64 hi] H K := by
  refine acalls_go fn_impl_within rfl fun hl => ?_
  simp only [c_impl_within]
  cases h : decide (lo ≤ n) with
  | true =>
    simp only [go_sem, ↓reduceIte, Nat.reduceEqDiff, reduceCtorEq, Nat.reduceAdd, Nat.reduceLeDiff, Nat.reduceSub, Nat.reduceMul, Int.reduceEq, Nat.reduceBEq, h]
    exact retQ_r1 (by (try simp only [go_sem, ↓reduceIte, Nat.reduceEqDiff, reduceCtorEq, Nat.reduceAdd, Nat.reduceLeDiff, Nat.reduceSub, Nat.reduceMul, Int.reduceEq, Nat.reduceBEq]) <;> rfl) _ (Hp.sub.refl _) (by simpa [within, h] using hK)
  | false =>
    simp only [go_sem, ↓reduceIte, Nat.reduceEqDiff, reduceCtorEq, Nat.reduceAdd, Nat.reduceLeDiff, Nat.reduceSub, Nat.reduceMul, Int.reduceEq, Nat.reduceBEq, h]
    exact retQ_r1 (by (try simp only [go_sem, ↓reduceIte, Nat.reduceEqDiff, reduceCtorEq, Nat.reduceAdd, Nat.reduceLeDiff, Nat.reduceSub, Nat.reduceMul, Int.reduceEq, Nat.reduceBEq]) <;> rfl) _ (Hp.sub.refl _) (by simpa [within, h] using hK)
theorem spec_unless (b : Bool) (n : Int) (H : Hp) (K : Value → Hp → Prop) (hK : K (.int .i64 (if b then 0 else n)) H) : ACalls Go.Proofs.Try.prog n_impl_unless #[.bool b, .int .i64 n] H K := by
  refine acalls_go fn_impl_unless rfl fun hl => ?_
  simp only [c_impl_unless]
  cases b with
  | true =>
    simp only [go_sem, ↓reduceIte, Nat.reduceEqDiff, reduceCtorEq, Nat.reduceAdd, Nat.reduceLeDiff, Nat.reduceSub, Nat.reduceMul, Int.reduceEq, Nat.reduceBEq]
    exact retQ_r1 (by (try simp only [go_sem, ↓reduceIte, Nat.reduceEqDiff, reduceCtorEq, Nat.reduceAdd, Nat.reduceLeDiff, Nat.reduceSub, Nat.reduceMul, Int.reduceEq, Nat.reduceBEq]) <;> rfl) _ (Hp.sub.refl _) (by simpa using hK)
  | false =>
    simp only [go_sem, ↓reduceIte, Nat.reduceEqDiff, reduceCtorEq, Nat.reduceAdd, Nat.reduceLeDiff, Nat.reduceSub, Nat.reduceMul, Int.reduceEq, Nat.reduceBEq]
    exact retQ_r1 (by (try simp only [go_sem, ↓reduceIte, Nat.reduceEqDiff, reduceCtorEq, Nat.reduceAdd, Nat.reduceLeDiff, Nat.reduceSub, Nat.reduceMul, Int.reduceEq, Nat.reduceBEq]) <;> rfl) _ (Hp.sub.refl _) (by simpa using hK)
def isSt (n : NetD) (s : Int) : Bool := within s 0 (n.st - 1)
theorem spec_isStation (n : NetD) (s : Value) (x : Int) (hn : n.ok) (H : Hp) (K : Value → Hp → Prop) (hK : K (.bool (isSt n x)) H) : ACalls Go.Proofs.Try.prog n_impl_Net_isStation #[.agg (encNet n s).toArray, .int .i64 x] H K := by
  refine acalls_go fn_impl_Net_isStation rfl fun hl => ?_
  simp only [c_impl_Net_isStation]
  refine aw_boxv (by (try simp only [go_sem, ↓reduceIte, Nat.reduceEqDiff, reduceCtorEq, Nat.reduceAdd, Nat.reduceLeDiff, Nat.reduceSub, Nat.reduceMul, Int.reduceEq, Nat.reduceBEq]) <;> rfl) fun b hb => ?_
  have w1 : IntKind.i64.wrap n.st = n.st := wrap_i64 (by have := hn.1; omega) (by have := hn.1; omega)
  have w2 : IntKind.i64.wrap (n.st - 1) = n.st - 1 := wrap_i64 (by have := hn.1; omega) (by have := hn.1; omega)
  simp only [encNet]
  simp only [go_sem, ↓reduceIte, Nat.reduceEqDiff, reduceCtorEq, Nat.reduceAdd, Nat.reduceLeDiff, Nat.reduceSub, Nat.reduceMul, Int.reduceEq, Nat.reduceBEq, w1, w2]
  refine aw_call (by (try simp only [go_sem, ↓reduceIte, Nat.reduceEqDiff, reduceCtorEq, Nat.reduceAdd, Nat.reduceLeDiff, Nat.reduceSub, Nat.reduceMul, Int.reduceEq, Nat.reduceBEq]) <;> rfl) (by (try simp only [go_sem, ↓reduceIte, Nat.reduceEqDiff, reduceCtorEq, Nat.reduceAdd, Nat.reduceLeDiff, Nat.reduceSub, Nat.reduceMul, Int.reduceEq, Nat.reduceBEq]) <;> rfl) (spec_within _ _ _ _ _ ?_)
  simp only [go_sem, ↓reduceIte, Nat.reduceEqDiff, reduceCtorEq, Nat.reduceAdd, Nat.reduceLeDiff, Nat.reduceSub, Nat.reduceMul, Int.reduceEq, Nat.reduceBEq]
  exact retQ_r1 (by (try simp only [go_sem, ↓reduceIte, Nat.reduceEqDiff, reduceCtorEq, Nat.reduceAdd, Nat.reduceLeDiff, Nat.reduceSub, Nat.reduceMul, Int.reduceEq, Nat.reduceBEq]) <;> rfl) H (sub_set hb (Hp.sub.refl _)) hK
theorem netRow {n : NetD} {s : Value} : encNet n s = [.int .i8 n.st, .int .i16 n.stay, s] := rfl
theorem spec_netCode_1 (n : NetD) (s : Value) (x : Int) (hn : n.ok) (H : Hp) {b ty tot : Nat} {own : Bool} (hb : H b = some (.row own ty (encNet n s) tot)) (K : Value → Hp → Prop) (hK : K (.bool (!isSt n x)) H) :
    ACalls Go.Proofs.Try.prog n_impl_netCode_1 #[.int .i64 x, .pointer (some ⟨b, 0, none⟩)] H K := by
  refine acalls_go fn_impl_netCode_1 rfl fun hl => ?_
  simp only [c_impl_netCode_1]
  rw [netRow] at hb
  simp only [go_sem, ↓reduceIte, Nat.reduceEqDiff, reduceCtorEq, Nat.reduceAdd, Nat.reduceLeDiff, Nat.reduceSub, Nat.reduceMul, Int.reduceEq, Nat.reduceBEq, hb]
  refine aw_call (by (try simp only [go_sem, ↓reduceIte, Nat.reduceEqDiff, reduceCtorEq, Nat.reduceAdd, Nat.reduceLeDiff, Nat.reduceSub, Nat.reduceMul, Int.reduceEq, Nat.reduceBEq]) <;> rfl) (by (try simp only [go_sem, ↓reduceIte, Nat.reduceEqDiff, reduceCtorEq, Nat.reduceAdd, Nat.reduceLeDiff, Nat.reduceSub, Nat.reduceMul, Int.reduceEq, Nat.reduceBEq]) <;> rfl) (spec_isStation n s x hn _ _ ?_)
  simp only [go_sem, ↓reduceIte, Nat.reduceEqDiff, reduceCtorEq, Nat.reduceAdd, Nat.reduceLeDiff, Nat.reduceSub, Nat.reduceMul, Int.reduceEq, Nat.reduceBEq]
  exact retQ_r1 (by (try simp only [go_sem, ↓reduceIte, Nat.reduceEqDiff, reduceCtorEq, Nat.reduceAdd, Nat.reduceLeDiff, Nat.reduceSub, Nat.reduceMul, Int.reduceEq, Nat.reduceBEq]) <;> rfl) H (Hp.sub.refl _) hK
theorem spec_areWithin_1 (x lo hi : Int) (H : Hp) {b b' ty tot ty' tot' : Nat} {own own' : Bool} (hb : H b = some (.row own ty [.int .i64 lo] tot)) (hb' : H b' = some (.row own' ty' [.int .i64 hi] tot')) (K : Value → Hp → Prop) (hK : K (.bool (!within x lo hi)) H) :
    ACalls Go.Proofs.Try.prog n_impl_areWithin_1 #[.int .i64 x, .pointer (some ⟨b, 0, none⟩), .pointer (some ⟨b', 0, none⟩)] H K := by
  refine acalls_go fn_impl_areWithin_1 rfl fun hl => ?_
  simp only [c_impl_areWithin_1]
  simp only [go_sem, ↓reduceIte, Nat.reduceEqDiff, reduceCtorEq, Nat.reduceAdd, Nat.reduceLeDiff, Nat.reduceSub, Nat.reduceMul, Int.reduceEq, Nat.reduceBEq, hb, hb']
  refine aw_call (by (try simp only [go_sem, ↓reduceIte, Nat.reduceEqDiff, reduceCtorEq, Nat.reduceAdd, Nat.reduceLeDiff, Nat.reduceSub, Nat.reduceMul, Int.reduceEq, Nat.reduceBEq]) <;> rfl) (by (try simp only [go_sem, ↓reduceIte, Nat.reduceEqDiff, reduceCtorEq, Nat.reduceAdd, Nat.reduceLeDiff, Nat.reduceSub, Nat.reduceMul, Int.reduceEq, Nat.reduceBEq]) <;> rfl) (spec_within x lo hi _ _ ?_)
  simp only [go_sem, ↓reduceIte, Nat.reduceEqDiff, reduceCtorEq, Nat.reduceAdd, Nat.reduceLeDiff, Nat.reduceSub, Nat.reduceMul, Int.reduceEq, Nat.reduceBEq]
  exact retQ_r1 (by (try simp only [go_sem, ↓reduceIte, Nat.reduceEqDiff, reduceCtorEq, Nat.reduceAdd, Nat.reduceLeDiff, Nat.reduceSub, Nat.reduceMul, Int.reduceEq, Nat.reduceBEq]) <;> rfl) H (Hp.sub.refl _) hK
theorem spec_areWithin (xs : List Int) (lo hi : Int) {v : Value} {H : Hp} (hs : Sl H 1 v (xs.map encI)) (K : Value → Hp → Prop) (hK : K (.bool (xs.all fun x => within x lo hi)) H) :
    ACalls Go.Proofs.Try.prog n_impl_areWithin #[v, .int .i64 lo, .int .i64 hi] H K := by
  refine acalls_go fn_impl_areWithin rfl fun hl => ?_
  simp only [c_impl_areWithin]
  refine aw_boxv (by (try simp only [go_sem, ↓reduceIte, Nat.reduceEqDiff, reduceCtorEq, Nat.reduceAdd, Nat.reduceLeDiff, Nat.reduceSub, Nat.reduceMul, Int.reduceEq, Nat.reduceBEq]) <;> rfl) fun b hb => ?_
  refine aw_boxv (by (try simp only [go_sem, ↓reduceIte, Nat.reduceEqDiff, reduceCtorEq, Nat.reduceAdd, Nat.reduceLeDiff, Nat.reduceSub, Nat.reduceMul, Int.reduceEq, Nat.reduceBEq]) <;> rfl) fun b' hb' => ?_
  simp only [go_sem, ↓reduceIte, Nat.reduceEqDiff, reduceCtorEq, Nat.reduceAdd, Nat.reduceLeDiff, Nat.reduceSub, Nat.reduceMul, Int.reduceEq, Nat.reduceBEq]
  refine aw_call (by (try simp only [go_sem, ↓reduceIte, Nat.reduceEqDiff, reduceCtorEq, Nat.reduceAdd, Nat.reduceLeDiff, Nat.reduceSub, Nat.reduceMul, Int.reduceEq, Nat.reduceBEq]) <;> rfl) (by (try simp only [go_sem, ↓reduceIte, Nat.reduceEqDiff, reduceCtorEq, Nat.reduceAdd, Nat.reduceLeDiff, Nat.reduceSub, Nat.reduceMul, Int.reduceEq, Nat.reduceBEq]) <;> rfl) (containsFunc_spec (P := Go.Proofs.Try.prog) (agg := false) (sz := 1) (f := n_slices_ContainsFunc_int64) (fi := n_slices_IndexFunc_int64) fn_slices_ContainsFunc_int64 fn_slices_IndexFunc_int64 rfl encI (fun _ => rfl) (fun x => !within x lo hi) xs (g := n_impl_areWithin_1) (cp := [.pointer (some ⟨b, 0, none⟩), .pointer (some ⟨b', 0, none⟩)]) ((hs.set hb).set hb') ?_ ?_)
  · intro x hx K hK
    exact spec_areWithin_1 x lo hi _ (b := b) (b' := b') (by rw [set_ne (ne_set hb'), set_same]; rfl) (by rw [set_same]) K hK
  · simp only [go_sem, ↓reduceIte, Nat.reduceEqDiff, reduceCtorEq, Nat.reduceAdd, Nat.reduceLeDiff, Nat.reduceSub, Nat.reduceMul, Int.reduceEq, Nat.reduceBEq]
    have e : (!xs.any fun x => !within x lo hi) = xs.all fun x => within x lo hi := by simp [List.all_eq_not_any_not]
    rw [← e] at hK
    exact retQ_r1 (by (try simp only [go_sem, ↓reduceIte, Nat.reduceEqDiff, reduceCtorEq, Nat.reduceAdd, Nat.reduceLeDiff, Nat.reduceSub, Nat.reduceMul, Int.reduceEq, Nat.reduceBEq]) <;> rfl) H (sub_set hb' (sub_set hb (Hp.sub.refl _))) hK
def laneBad (n : NetD) (l : LaneD) : Bool := !isSt n l.frm || !isSt n l.to || decide (l.frm = l.to) || !within l.least 1 l.most || decide (l.most > 40)
theorem laneRow {l : LaneD} : encLane l = [.int .i8 l.frm, .int .i8 l.to, .int .i16 l.least, .int .i16 l.most] := rfl
theorem spec_ValidNet_1 (n : NetD) (s : Value) (l : LaneD) (hn : n.ok) (hlo : l.ok) (H : Hp) {b ty tot : Nat} {own : Bool} (hb : H b = some (.row own ty (encNet n s) tot)) (K : Value → Hp → Prop) (hK : K (.bool (laneBad n l)) H) :
    ACalls Go.Proofs.Try.prog n_impl_ValidNet_1 #[.agg (encLane l).toArray, .pointer (some ⟨b, 0, none⟩)] H K := by
  refine acalls_go fn_impl_ValidNet_1 rfl fun hl => ?_
  simp only [c_impl_ValidNet_1]
  rw [netRow] at hb
  rw [laneRow]
  refine aw_boxv (by (try simp only [go_sem, ↓reduceIte, Nat.reduceEqDiff, reduceCtorEq, Nat.reduceAdd, Nat.reduceLeDiff, Nat.reduceSub, Nat.reduceMul, Int.reduceEq, Nat.reduceBEq]) <;> rfl) fun b' hb' => ?_
  have hne := some_ne hb hb'
  have h1 : IntKind.i64.wrap l.frm = l.frm := wrap_i64 (by have := hlo.1; omega) (by have := hlo.1; omega)
  have h2 : IntKind.i64.wrap l.to = l.to := wrap_i64 (by have := hlo.2.1; omega) (by have := hlo.2.1; omega)
  have h3 : IntKind.i64.wrap l.least = l.least := wrap_i64 (by have := hlo.2.2.1; omega) (by have := hlo.2.2.1; omega)
  have h4 : IntKind.i64.wrap l.most = l.most := wrap_i64 (by have := hlo.2.2.2; omega) (by have := hlo.2.2.2; omega)
  simp only [go_sem, ↓reduceIte, Nat.reduceEqDiff, reduceCtorEq, Nat.reduceAdd, Nat.reduceLeDiff, Nat.reduceSub, Nat.reduceMul, Int.reduceEq, Nat.reduceBEq, hb, hne, h1, h2, h3, h4]
  refine aw_call (by (try simp only [go_sem, ↓reduceIte, Nat.reduceEqDiff, reduceCtorEq, Nat.reduceAdd, Nat.reduceLeDiff, Nat.reduceSub, Nat.reduceMul, Int.reduceEq, Nat.reduceBEq]) <;> rfl) (by (try simp only [go_sem, ↓reduceIte, Nat.reduceEqDiff, reduceCtorEq, Nat.reduceAdd, Nat.reduceLeDiff, Nat.reduceSub, Nat.reduceMul, Int.reduceEq, Nat.reduceBEq]) <;> rfl) (spec_isStation n s _ hn _ _ ?_)
  cases e1 : isSt n l.frm with
  | false =>
    simp only [go_sem, ↓reduceIte, Nat.reduceEqDiff, reduceCtorEq, Nat.reduceAdd, Nat.reduceLeDiff, Nat.reduceSub, Nat.reduceMul, Int.reduceEq, Nat.reduceBEq]
    refine retQ_r1 (by (try simp only [go_sem, ↓reduceIte, Nat.reduceEqDiff, reduceCtorEq, Nat.reduceAdd, Nat.reduceLeDiff, Nat.reduceSub, Nat.reduceMul, Int.reduceEq, Nat.reduceBEq]) <;> rfl) H (sub_set hb' (Hp.sub.refl _)) ?_
    simpa [laneBad, e1] using hK
  | true =>
    simp only [go_sem, ↓reduceIte, Nat.reduceEqDiff, reduceCtorEq, Nat.reduceAdd, Nat.reduceLeDiff, Nat.reduceSub, Nat.reduceMul, Int.reduceEq, Nat.reduceBEq, hb, hne, h1, h2, h3, h4]
    refine aw_call (by (try simp only [go_sem, ↓reduceIte, Nat.reduceEqDiff, reduceCtorEq, Nat.reduceAdd, Nat.reduceLeDiff, Nat.reduceSub, Nat.reduceMul, Int.reduceEq, Nat.reduceBEq]) <;> rfl) (by (try simp only [go_sem, ↓reduceIte, Nat.reduceEqDiff, reduceCtorEq, Nat.reduceAdd, Nat.reduceLeDiff, Nat.reduceSub, Nat.reduceMul, Int.reduceEq, Nat.reduceBEq]) <;> rfl) (spec_isStation n s _ hn _ _ ?_)
    cases e2 : isSt n l.to with
    | false =>
      simp only [go_sem, ↓reduceIte, Nat.reduceEqDiff, reduceCtorEq, Nat.reduceAdd, Nat.reduceLeDiff, Nat.reduceSub, Nat.reduceMul, Int.reduceEq, Nat.reduceBEq]
      refine retQ_r1 (by (try simp only [go_sem, ↓reduceIte, Nat.reduceEqDiff, reduceCtorEq, Nat.reduceAdd, Nat.reduceLeDiff, Nat.reduceSub, Nat.reduceMul, Int.reduceEq, Nat.reduceBEq]) <;> rfl) H (sub_set hb' (Hp.sub.refl _)) ?_
      simpa [laneBad, e1, e2] using hK
    | true =>
      cases e3 : decide (l.frm = l.to) with
      | true =>
        simp only [go_sem, ↓reduceIte, Nat.reduceEqDiff, reduceCtorEq, Nat.reduceAdd, Nat.reduceLeDiff, Nat.reduceSub, Nat.reduceMul, Int.reduceEq, Nat.reduceBEq, hb, hne, h1, h2, h3, h4, e3]
        refine retQ_r1 (by (try simp only [go_sem, ↓reduceIte, Nat.reduceEqDiff, reduceCtorEq, Nat.reduceAdd, Nat.reduceLeDiff, Nat.reduceSub, Nat.reduceMul, Int.reduceEq, Nat.reduceBEq]) <;> rfl) H (sub_set hb' (Hp.sub.refl _)) ?_
        simpa [laneBad, e1, e2, e3] using hK
      | false =>
        simp only [go_sem, ↓reduceIte, Nat.reduceEqDiff, reduceCtorEq, Nat.reduceAdd, Nat.reduceLeDiff, Nat.reduceSub, Nat.reduceMul, Int.reduceEq, Nat.reduceBEq, hb, hne, h1, h2, h3, h4, e3]
        refine aw_call (by (try simp only [go_sem, ↓reduceIte, Nat.reduceEqDiff, reduceCtorEq, Nat.reduceAdd, Nat.reduceLeDiff, Nat.reduceSub, Nat.reduceMul, Int.reduceEq, Nat.reduceBEq]) <;> rfl) (by (try simp only [go_sem, ↓reduceIte, Nat.reduceEqDiff, reduceCtorEq, Nat.reduceAdd, Nat.reduceLeDiff, Nat.reduceSub, Nat.reduceMul, Int.reduceEq, Nat.reduceBEq]) <;> rfl) (spec_within _ _ _ _ _ ?_)
        cases e4 : within l.least 1 l.most with
        | false =>
          simp only [go_sem, ↓reduceIte, Nat.reduceEqDiff, reduceCtorEq, Nat.reduceAdd, Nat.reduceLeDiff, Nat.reduceSub, Nat.reduceMul, Int.reduceEq, Nat.reduceBEq]
          refine retQ_r1 (by (try simp only [go_sem, ↓reduceIte, Nat.reduceEqDiff, reduceCtorEq, Nat.reduceAdd, Nat.reduceLeDiff, Nat.reduceSub, Nat.reduceMul, Int.reduceEq, Nat.reduceBEq]) <;> rfl) H (sub_set hb' (Hp.sub.refl _)) ?_
          simpa [laneBad, e1, e2, e3, e4] using hK
        | true =>
          simp only [go_sem, ↓reduceIte, Nat.reduceEqDiff, reduceCtorEq, Nat.reduceAdd, Nat.reduceLeDiff, Nat.reduceSub, Nat.reduceMul, Int.reduceEq, Nat.reduceBEq, hb, hne, h1, h2, h3, h4, e3]
          refine retQ_r1 (by (try simp only [go_sem, ↓reduceIte, Nat.reduceEqDiff, reduceCtorEq, Nat.reduceAdd, Nat.reduceLeDiff, Nat.reduceSub, Nat.reduceMul, Int.reduceEq, Nat.reduceBEq]) <;> rfl) H (sub_set hb' (Hp.sub.refl _)) ?_
          simpa only [laneBad, e1, e2, e3, e4, Bool.not_true, Bool.false_or] using hK
def validNet (n : NetD) : Bool := within n.st 1 8 && within n.stay 0 40 && decide (n.lanes.length ≤ 20) && !n.lanes.any (laneBad n)
theorem spec_ValidNet (n : NetD) (s : Value) (hn : n.ok) {H : Hp} (hs : Sl H 4 s (n.lanes.map encLane)) (K : Value → Hp → Prop) (hK : K (.bool (validNet n)) H) : ACalls Go.Proofs.Try.prog n_impl_ValidNet #[.agg (encNet n s).toArray] H K := by
  refine acalls_go fn_impl_ValidNet rfl fun hl => ?_
  simp only [c_impl_ValidNet]
  rw [netRow]
  refine aw_boxv (by (try simp only [go_sem, ↓reduceIte, Nat.reduceEqDiff, reduceCtorEq, Nat.reduceAdd, Nat.reduceLeDiff, Nat.reduceSub, Nat.reduceMul, Int.reduceEq, Nat.reduceBEq]) <;> rfl) fun b hb => ?_
  have h1 : IntKind.i64.wrap n.st = n.st := wrap_i64 (by have := hn.1; omega) (by have := hn.1; omega)
  have h2 : IntKind.i64.wrap n.stay = n.stay := wrap_i64 (by have := hn.2.1; omega) (by have := hn.2.1; omega)
  have hlen := hs.len
  rw [List.length_map] at hlen
  simp only [go_sem, ↓reduceIte, Nat.reduceEqDiff, reduceCtorEq, Nat.reduceAdd, Nat.reduceLeDiff, Nat.reduceSub, Nat.reduceMul, Int.reduceEq, Nat.reduceBEq, h1, h2]
  refine aw_call (by (try simp only [go_sem, ↓reduceIte, Nat.reduceEqDiff, reduceCtorEq, Nat.reduceAdd, Nat.reduceLeDiff, Nat.reduceSub, Nat.reduceMul, Int.reduceEq, Nat.reduceBEq]) <;> rfl) (by (try simp only [go_sem, ↓reduceIte, Nat.reduceEqDiff, reduceCtorEq, Nat.reduceAdd, Nat.reduceLeDiff, Nat.reduceSub, Nat.reduceMul, Int.reduceEq, Nat.reduceBEq]) <;> rfl) (spec_within _ _ _ _ _ ?_)
  cases e1 : within n.st 1 8 with
  | false =>
    simp only [go_sem, ↓reduceIte, Nat.reduceEqDiff, reduceCtorEq, Nat.reduceAdd, Nat.reduceLeDiff, Nat.reduceSub, Nat.reduceMul, Int.reduceEq, Nat.reduceBEq]
    refine retQ_r1 (by (try simp only [go_sem, ↓reduceIte, Nat.reduceEqDiff, reduceCtorEq, Nat.reduceAdd, Nat.reduceLeDiff, Nat.reduceSub, Nat.reduceMul, Int.reduceEq, Nat.reduceBEq]) <;> rfl) H (sub_set hb (Hp.sub.refl _)) ?_
    simpa [validNet, e1] using hK
  | true =>
    simp only [go_sem, ↓reduceIte, Nat.reduceEqDiff, reduceCtorEq, Nat.reduceAdd, Nat.reduceLeDiff, Nat.reduceSub, Nat.reduceMul, Int.reduceEq, Nat.reduceBEq, h1, h2]
    refine aw_call (by (try simp only [go_sem, ↓reduceIte, Nat.reduceEqDiff, reduceCtorEq, Nat.reduceAdd, Nat.reduceLeDiff, Nat.reduceSub, Nat.reduceMul, Int.reduceEq, Nat.reduceBEq]) <;> rfl) (by (try simp only [go_sem, ↓reduceIte, Nat.reduceEqDiff, reduceCtorEq, Nat.reduceAdd, Nat.reduceLeDiff, Nat.reduceSub, Nat.reduceMul, Int.reduceEq, Nat.reduceBEq]) <;> rfl) (spec_within _ _ _ _ _ ?_)
    cases e2 : within n.stay 0 40 with
    | false =>
      simp only [go_sem, ↓reduceIte, Nat.reduceEqDiff, reduceCtorEq, Nat.reduceAdd, Nat.reduceLeDiff, Nat.reduceSub, Nat.reduceMul, Int.reduceEq, Nat.reduceBEq]
      refine retQ_r1 (by (try simp only [go_sem, ↓reduceIte, Nat.reduceEqDiff, reduceCtorEq, Nat.reduceAdd, Nat.reduceLeDiff, Nat.reduceSub, Nat.reduceMul, Int.reduceEq, Nat.reduceBEq]) <;> rfl) H (sub_set hb (Hp.sub.refl _)) ?_
      simpa [validNet, e1, e2] using hK
    | true =>
      cases e3 : decide (n.lanes.length ≤ 20) with
      | false =>
        have e3' : decide ((n.lanes.length : Int) ≤ 20) = false := by simp at e3 ⊢; omega
        simp only [go_sem, ↓reduceIte, Nat.reduceEqDiff, reduceCtorEq, Nat.reduceAdd, Nat.reduceLeDiff, Nat.reduceSub, Nat.reduceMul, Int.reduceEq, Nat.reduceBEq, h1, h2, hlen, e3']
        refine retQ_r1 (by (try simp only [go_sem, ↓reduceIte, Nat.reduceEqDiff, reduceCtorEq, Nat.reduceAdd, Nat.reduceLeDiff, Nat.reduceSub, Nat.reduceMul, Int.reduceEq, Nat.reduceBEq]) <;> rfl) H (sub_set hb (Hp.sub.refl _)) ?_
        simpa only [validNet, e1, e2, e3, Bool.true_and, Bool.false_and] using hK
      | true =>
        have e3' : decide ((n.lanes.length : Int) ≤ 20) = true := by simp at e3 ⊢; omega
        simp only [go_sem, ↓reduceIte, Nat.reduceEqDiff, reduceCtorEq, Nat.reduceAdd, Nat.reduceLeDiff, Nat.reduceSub, Nat.reduceMul, Int.reduceEq, Nat.reduceBEq, h1, h2, hlen, e3']
        refine aw_call (by (try simp only [go_sem, ↓reduceIte, Nat.reduceEqDiff, reduceCtorEq, Nat.reduceAdd, Nat.reduceLeDiff, Nat.reduceSub, Nat.reduceMul, Int.reduceEq, Nat.reduceBEq]) <;> rfl) (by (try simp only [go_sem, ↓reduceIte, Nat.reduceEqDiff, reduceCtorEq, Nat.reduceAdd, Nat.reduceLeDiff, Nat.reduceSub, Nat.reduceMul, Int.reduceEq, Nat.reduceBEq]) <;> rfl) (containsFunc_spec (P := Go.Proofs.Try.prog) (agg := true) (sz := 4) (f := n_slices_ContainsFunc_impl_Lane) (fi := n_slices_IndexFunc_impl_Lane) fn_slices_ContainsFunc_impl_Lane fn_slices_IndexFunc_impl_Lane rfl encLane (fun _ => rfl) (laneBad n) n.lanes (g := n_impl_ValidNet_1) (cp := [.pointer (some ⟨b, 0, none⟩)]) (hs.set hb) ?_ ?_)
        · intro l hx K hK
          exact spec_ValidNet_1 n s l hn (hn.2.2 l hx) _ (b := b) (by rw [set_same]; rfl) K hK
        · simp only [go_sem, ↓reduceIte, Nat.reduceEqDiff, reduceCtorEq, Nat.reduceAdd, Nat.reduceLeDiff, Nat.reduceSub, Nat.reduceMul, Int.reduceEq, Nat.reduceBEq]
          refine retQ_r1 (by (try simp only [go_sem, ↓reduceIte, Nat.reduceEqDiff, reduceCtorEq, Nat.reduceAdd, Nat.reduceLeDiff, Nat.reduceSub, Nat.reduceMul, Int.reduceEq, Nat.reduceBEq]) <;> rfl) H (sub_set hb (Hp.sub.refl _)) ?_
          simpa only [validNet, e1, e2, e3, Bool.true_and] using hK
end Go.Proofs.Ytonmmfjagkgifaa
