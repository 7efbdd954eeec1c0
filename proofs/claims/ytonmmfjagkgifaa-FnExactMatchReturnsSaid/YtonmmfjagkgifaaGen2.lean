/- The laws' own small functions over slices: copies, comparisons, marks. -/
import Derived.Test.YtonmmfjagkgifaaOwn
set_option linter.unusedVariables false
set_option linter.unusedSimpArgs false
namespace Go.Proofs.Ytonmmfjagkgifaa
open Go.RowKit
attribute [local go_sem] aw_mv aw_mkf aw_pick aw_bin aw_eqB aw_eqNil aw_eqAgg aw_un aw_conv aw_fa aw_ia aw_iaArr aw_ixArr aw_ixStr aw_fld aw_ext aw_bld aw_nilc aw_slc aw_slcArr aw_slcStr aw_len aw_cap aw_mnx aw_ld aw_st aw_guard_y aw_guard_n aw_nil aw_exit aw_ret aw_cond_t aw_cond_f aw_blk seqQ_norm seqQ_exit seqQ_ret blkQ_norm blkQ_exit_same blkQ_exit_ne blkQ_ret vPick_b vEqB_t vEqB_f vEqNil_sn vEqNil_ss vEqNil_pn vEqNil_ps vUn_neg vUn_not vUn_xor vConv_i vFa_p vIa_s vFld_a vExt_t vNilc_p vLen_s vLen_t vMnx_t vMnx_f abin_add abin_sub abin_mul abin_eql abin_neq abin_lss abin_leq abin_gtr abin_geq abin_and abin_or abin_xor abin_quo abin_rem abin_shl abin_shr abin_seq abin_sne abin_scat ev_tmp ev_const ev_func put_get puto_some puto_none args0_get List.getD_cons_succ List.getD_cons_zero Option.isSome_some Option.getD_some Option.isNone_none Option.isNone_some Option.map_some Option.map_none Value.bool.injEq Value.int.injEq add_mk aload_ptr rd_mk rdObj_row set_get astore_ptr apart_f apart_t List.length_cons List.length_nil List.drop_succ_cons List.drop_zero List.take_succ_cons List.take_zero List.map_cons List.map_nil Option.bind_some Option.bind_none ares_nil ares_tmp oneOf1 Nat.zero_add Nat.add_zero Bool.not_true Bool.not_false ne_eq not_false_eq_true not_true_eq_false decide_true decide_false Bool.true_and Bool.and_true Bool.false_eq_true and_self and_true true_and List.getElem?_cons_zero List.getElem?_cons_succ vc_agg vc_int vc_bool vc_slice aw_chk1 aw_chk2 st_agg st_int st_slice st_ptr one_int one_bool one_slice one_ptr one_str splice_eq aparts_nil aparts_cons afill_nil afill_cons rz0 rz1 rz2 List.all_cons List.all_nil Bool.and_self List.nil_append List.cons_append List.append_nil set_set

theorem flatten_map_len {α : Type} {enc : α → List Value} {sz : Nat} (henc : ∀ x, (enc x).length = sz) (xs : List α) : (xs.map enc).flatten.length = xs.length * sz := by
  rw [flat_len (sz := sz) (by intro r hr; obtain ⟨x, _, rfl⟩ := List.mem_map.1 hr; exact henc x), List.length_map]
theorem repZero_lenz {z : List Value} {sz n : Nat} (hz : z.length = sz) : (repZero z n).length = n * sz := by
  unfold repZero
  rw [flat_len (sz := sz) (by intro r hr; rw [List.mem_replicate] at hr; rw [hr.2]; exact hz), List.length_replicate]
theorem repZero_succ (z : List Value) (n : Nat) : repZero z (n + 1) = z ++ repZero z n := by simp [repZero, List.replicate_succ]
theorem splice_mid (A z Z cs : List Value) (h : cs.length = z.length) : splice (A ++ (z ++ Z)) A.length cs = A ++ cs ++ Z := by
  unfold splice
  rw [List.take_left, h, List.drop_append, ← List.append_assoc]
  simp
/-! ### a copy of a slice of structs -/
def toBody (sz : Nat) (fe : FuncId) : AC :=
  .op ⟨some 14, none, .mv (.tmp 3)⟩ (.op ⟨some 15, none, .mv (.tmp 4)⟩ (.op ⟨some 16, none, .mv (.tmp 0)⟩ (.op ⟨some 17, none, .mv (.tmp 4)⟩ (.op ⟨some 18, none, .ia sz (.tmp 16) (.tmp 17)⟩ (.op ⟨some 19, none, .ld true sz (.tmp 18)⟩ (.op ⟨some 20, none, .call (.func fe) [.tmp 19]⟩ (.op ⟨some 21, none, .ia sz (.tmp 14) (.tmp 15)⟩ (.op ⟨none, none, .st sz (.tmp 21) (.tmp 20)⟩ .nil))))))))
def toAF (ty by_ sz : Nat) (zero : List Value) (fe : FuncId) : AF := ⟨1, .op ⟨some 2, none, .mv (.const (.slice none 0 0))⟩ (.op ⟨some 5, none, .mv (.tmp 0)⟩ (.op ⟨some 6, none, .len false (.tmp 5)⟩ (.op ⟨some 7, none, .msl ty by_ zero (.tmp 6) (.tmp 6)⟩ (.op ⟨some 3, none, .mv (.tmp 7)⟩ (.op ⟨some 4, none, .mv (.const (.int .i64 0))⟩
  (.blk 0 (.loop (forB 0 1 4 0 8 9 10 11 12 13 (toBody sz fe))) (.op ⟨some 22, none, .mv (.tmp 3)⟩ (.op ⟨some 2, none, .mv (.tmp 22)⟩ .ret)))))))), [.tmp 2]⟩
theorem to_spec {P : Program} {f fe : FuncId} {ty by_ sz : Nat} {zero : List Value} (hf : prepFn P f = some (toAF ty by_ sz zero fe)) (hz : zero.length = sz) (hsz : 0 < sz) {α : Type} (enc enc' : α → List Value) (henc : ∀ x, (enc x).length = sz) (henc' : ∀ x, (enc' x).length = sz) (hone : ∀ x, (enc' x).all Value.oneCell' = true)
    (xs : List α) (hby : by_ * xs.length ≤ 281474976710656) {v : Value} {H : Hp} (hs : Sl H sz v (xs.map enc))
    (he : ∀ x ∈ xs, ∀ (H : Hp) (K : Value → Hp → Prop), K (.agg (enc' x).toArray) H → ACalls P fe #[.agg (enc x).toArray] H K) {K : Value → Hp → Prop}
    (hK : ∀ b, H b = none → K (.slice (some ⟨b, 0, none⟩) xs.length xs.length) (H.set b (.row true ty (xs.map enc').flatten (xs.length * sz)))) : ACalls P f #[v] H K := by
  refine acalls_go hf rfl fun hl => ?_
  have hlen := hs.len
  have hle := hs.le
  rw [List.length_map] at hlen hle
  simp only [toAF]
  (try simp only [go_sem, ↓reduceIte, Nat.reduceEqDiff, reduceCtorEq, Nat.reduceAdd, Nat.reduceLeDiff, Nat.reduceSub, Nat.reduceMul, Int.reduceEq, Nat.reduceBEq, hlen])
  refine aw_msl (kl := .i64) (kc := .i64) (lv := xs.length) (cv := xs.length) (by (try simp only [go_sem, ↓reduceIte, Nat.reduceEqDiff, reduceCtorEq, Nat.reduceAdd, Nat.reduceLeDiff, Nat.reduceSub, Nat.reduceMul, Int.reduceEq, Nat.reduceBEq]) <;> rfl) (by (try simp only [go_sem, ↓reduceIte, Nat.reduceEqDiff, reduceCtorEq, Nat.reduceAdd, Nat.reduceLeDiff, Nat.reduceSub, Nat.reduceMul, Int.reduceEq, Nat.reduceBEq]) <;> rfl) (by omega) (by omega) (by rw [← Int.natCast_mul]; exact Int.ofNat_le.2 hby) (by omega) fun b hb => ?_
  simp only [Int.toNat_natCast]
  (try simp only [go_sem, ↓reduceIte, Nat.reduceEqDiff, reduceCtorEq, Nat.reduceAdd, Nat.reduceLeDiff, Nat.reduceSub, Nat.reduceMul, Int.reduceEq, Nat.reduceBEq, hlen])
  refine aw_forS (hl.set b ty _ _ (by rw [repZero_lenz hz, hz]; exact Nat.le_refl _)) xs.length v hlen (by omega) 0 (by omega)
    (fun i T' H' => H.sub H' ∧ H' b = some (.row true ty (((xs.take i).map enc').flatten ++ repZero zero (xs.length - i)) (xs.length * sz))) _ (Hp.sub.refl _) (by (try simp only [go_sem, ↓reduceIte, Nat.reduceEqDiff, reduceCtorEq, Nat.reduceAdd, Nat.reduceLeDiff, Nat.reduceSub, Nat.reduceMul, Int.reduceEq, Nat.reduceBEq]) <;> rfl) (by (try simp only [go_sem, ↓reduceIte, Nat.reduceEqDiff, reduceCtorEq, Nat.reduceAdd, Nat.reduceLeDiff, Nat.reduceSub, Nat.reduceMul, Int.reduceEq, Nat.reduceBEq]) <;> rfl) ⟨sub_set hb (Hp.sub.refl _), ?_⟩ rfl rfl (by decide) (by decide) (by decide) (by decide) ?_ ?_
  · rw [set_same, hz]; simp
  · rintro i T' H' hi hl' hoff hTi ⟨hsub, hbr⟩
    have h3 : T' 3 = .slice (some ⟨b, 0, none⟩) xs.length xs.length := by rw [hoff.get rfl]; (try simp only [go_sem, ↓reduceIte, Nat.reduceEqDiff, reduceCtorEq, Nat.reduceAdd, Nat.reduceLeDiff, Nat.reduceSub, Nat.reduceMul, Int.reduceEq, Nat.reduceBEq])
    have h0 : T' 0 = v := by rw [hoff.get rfl]; (try simp only [go_sem, ↓reduceIte, Nat.reduceEqDiff, reduceCtorEq, Nat.reduceAdd, Nat.reduceLeDiff, Nat.reduceSub, Nat.reduceMul, Int.reduceEq, Nat.reduceBEq])
    obtain ⟨bb, off, hia, hrd⟩ := (hs.sub hsub).at (k := .i64) (i := (i : Int)) (by omega) (by simp; omega)
    have hrow : (xs.map enc).getD (i : Int).toNat [] = enc xs[i] := by simp [List.getD_eq_getElem?_getD, hi]
    rw [hrow] at hrd
    have hap := apart_t sz _ (henc xs[i])
    simp only [toBody]
    (try simp only [go_sem, ↓reduceIte, Nat.reduceEqDiff, reduceCtorEq, Nat.reduceAdd, Nat.reduceLeDiff, Nat.reduceSub, Nat.reduceMul, Int.reduceEq, Nat.reduceBEq, h0, h3, hTi, hia, hrd, hap])
    refine aw_call (by (try simp only [go_sem, ↓reduceIte, Nat.reduceEqDiff, reduceCtorEq, Nat.reduceAdd, Nat.reduceLeDiff, Nat.reduceSub, Nat.reduceMul, Int.reduceEq, Nat.reduceBEq]) <;> rfl) (by (try simp only [go_sem, ↓reduceIte, Nat.reduceEqDiff, reduceCtorEq, Nat.reduceAdd, Nat.reduceLeDiff, Nat.reduceSub, Nat.reduceMul, Int.reduceEq, Nat.reduceBEq]) <;> rfl) (he xs[i] (by simp) _ _ ?_)
    have hA : (((xs.take i).map enc').flatten).length = i * sz := by rw [flatten_map_len henc', List.length_take, Nat.min_eq_left (by omega)]
    have hia2 : vIa sz (.slice (some ⟨b, 0, none⟩) xs.length xs.length) (.int .i64 (i : Int)) = some (.pointer (some ⟨b, i * sz, none⟩)) := by
      rw [vIa_s, if_pos (by omega)]
      simp [add_mk]
    have hst : stObj (H' b) (i * sz) sz (.agg (enc' xs[i]).toArray) = some (.row true ty (((xs.take (i + 1)).map enc').flatten ++ repZero zero (xs.length - (i + 1))) (xs.length * sz)) := by
      have hroom : i * sz + sz ≤ (((xs.take i).map enc').flatten ++ repZero zero (xs.length - i)).length := by
        rw [List.length_append, hA, repZero_lenz hz, show xs.length - i = (xs.length - (i + 1)) + 1 by omega, Nat.succ_mul]
        omega
      rw [hbr, st_agg, if_pos ⟨henc' _, hone _, hroom⟩, show xs.length - i = (xs.length - (i + 1)) + 1 by omega, repZero_succ, ← hA, splice_mid _ _ _ _ (by rw [henc', hz]), List.take_succ_eq_append_getElem hi, List.map_append, List.flatten_append]
      simp
    (try simp only [go_sem, ↓reduceIte, Nat.reduceEqDiff, reduceCtorEq, Nat.reduceAdd, Nat.reduceLeDiff, Nat.reduceSub, Nat.reduceMul, Int.reduceEq, Nat.reduceBEq, h3, hTi, hia2, hst])
    exact ⟨H'.set b _, Hp.sub.refl _, sub_off hsub hb (fun c hc => set_ne hc), set_same _ _ _⟩
  · rintro T' H' hl' hoff hTi ⟨hsub, hbr⟩
    have h3 : T' 3 = .slice (some ⟨b, 0, none⟩) xs.length xs.length := by rw [hoff.get rfl]; (try simp only [go_sem, ↓reduceIte, Nat.reduceEqDiff, reduceCtorEq, Nat.reduceAdd, Nat.reduceLeDiff, Nat.reduceSub, Nat.reduceMul, Int.reduceEq, Nat.reduceBEq])
    (try simp only [go_sem, ↓reduceIte, Nat.reduceEqDiff, reduceCtorEq, Nat.reduceAdd, Nat.reduceLeDiff, Nat.reduceSub, Nat.reduceMul, Int.reduceEq, Nat.reduceBEq, h3])
    refine retQ_r1 (by (try simp only [go_sem, ↓reduceIte, Nat.reduceEqDiff, reduceCtorEq, Nat.reduceAdd, Nat.reduceLeDiff, Nat.reduceSub, Nat.reduceMul, Int.reduceEq, Nat.reduceBEq]) <;> rfl) _ (sub_set_at hsub ?_) (hK b hb)
    rw [hbr]
    simp [repZero]
/-! ### two slices of structs, compared -/
def eqBody (sz : Nat) (fe : FuncId) : AC :=
  .op ⟨some 17, none, .mv (.tmp 0)⟩ (.op ⟨some 18, none, .mv (.tmp 5)⟩ (.op ⟨some 19, none, .ia sz (.tmp 17) (.tmp 18)⟩ (.op ⟨some 20, none, .ld true sz (.tmp 19)⟩ (.op ⟨some 21, none, .mv (.tmp 1)⟩ (.op ⟨some 22, none, .mv (.tmp 5)⟩ (.op ⟨some 23, none, .ia sz (.tmp 21) (.tmp 22)⟩ (.op ⟨some 24, none, .ld true sz (.tmp 23)⟩ (.op ⟨some 25, none, .call (.func fe) [.tmp 20, .tmp 24]⟩ (.op ⟨some 26, none, .un .not (.tmp 25)⟩ (.cond (.tmp 26) (.op ⟨some 4, none, .mv (.const (.bool false))⟩ .ret) .nil .nil))))))))))
def eqAF (body : AC) : AF := ⟨2, .op ⟨some 4, none, .mv (.const (.bool false))⟩ (.op ⟨some 6, none, .mv (.tmp 0)⟩ (.op ⟨some 7, none, .len false (.tmp 6)⟩ (.op ⟨some 8, none, .mv (.tmp 1)⟩ (.op ⟨some 9, none, .len false (.tmp 8)⟩ (.op ⟨some 10, none, .bin .neq (.tmp 7) (.tmp 9)⟩ (.cond (.tmp 10) (.op ⟨some 4, none, .mv (.const (.bool false))⟩ .ret) .nil (.op ⟨some 5, none, .mv (.const (.int .i64 0))⟩
  (.blk 0 (.loop (forB 0 1 5 0 11 12 13 14 15 16 body)) (.op ⟨some 4, none, .mv (.const (.bool true))⟩ .ret))))))))), [.tmp 4]⟩
theorem eq_spec {P : Program} {f fe : FuncId} {sz : Nat} (hf : prepFn P f = some (eqAF (eqBody sz fe))) {α : Type} [DecidableEq α] (enc : α → List Value) (henc : ∀ x, (enc x).length = sz)
    (xs ys : List α) {v u : Value} {H : Hp} (hs : Sl H sz v (xs.map enc)) (hu : Sl H sz u (ys.map enc))
    (he : ∀ x y, ∀ (H : Hp) (K : Value → Hp → Prop), K (.bool (decide (x = y))) H → ACalls P fe #[.agg (enc x).toArray, .agg (enc y).toArray] H K) {K : Value → Hp → Prop}
    (hK : K (.bool (decide (xs = ys))) H) : ACalls P f #[v, u] H K := by
  refine acalls_go hf rfl fun hl => ?_
  have hlen := hs.len
  have hle := hs.le
  have hlen' := hu.len
  rw [List.length_map] at hlen hle hlen'
  simp only [eqAF]
  by_cases hne : xs.length = ys.length
  · have hd : decide ((xs.length : Int) = (ys.length : Int)) = true := by simp [hne]
    (try simp only [go_sem, ↓reduceIte, Nat.reduceEqDiff, reduceCtorEq, Nat.reduceAdd, Nat.reduceLeDiff, Nat.reduceSub, Nat.reduceMul, Int.reduceEq, Nat.reduceBEq, hlen, hlen', hd])
    refine aw_forS hl xs.length v hlen (by omega) 0 (by omega) (fun i T' H' => H' = H ∧ xs.take i = ys.take i) H (Hp.sub.refl H) (by (try simp only [go_sem, ↓reduceIte, Nat.reduceEqDiff, reduceCtorEq, Nat.reduceAdd, Nat.reduceLeDiff, Nat.reduceSub, Nat.reduceMul, Int.reduceEq, Nat.reduceBEq]) <;> rfl) (by (try simp only [go_sem, ↓reduceIte, Nat.reduceEqDiff, reduceCtorEq, Nat.reduceAdd, Nat.reduceLeDiff, Nat.reduceSub, Nat.reduceMul, Int.reduceEq, Nat.reduceBEq]) <;> rfl) ⟨rfl, by simp⟩ rfl rfl (by decide) (by decide) (by decide) (by decide) ?_ ?_
    · rintro i T' H' hi hl' hoff hTi ⟨rfl, heq⟩
      have h1 : T' 1 = u := by rw [hoff.get rfl]; (try simp only [go_sem, ↓reduceIte, Nat.reduceEqDiff, reduceCtorEq, Nat.reduceAdd, Nat.reduceLeDiff, Nat.reduceSub, Nat.reduceMul, Int.reduceEq, Nat.reduceBEq])
      have h0 : T' 0 = v := by rw [hoff.get rfl]; (try simp only [go_sem, ↓reduceIte, Nat.reduceEqDiff, reduceCtorEq, Nat.reduceAdd, Nat.reduceLeDiff, Nat.reduceSub, Nat.reduceMul, Int.reduceEq, Nat.reduceBEq])
      obtain ⟨b1, o1, hia1, hrd1⟩ := hs.at (k := .i64) (i := (i : Int)) (by omega) (by simp; omega)
      obtain ⟨b2, o2, hia2, hrd2⟩ := hu.at (k := .i64) (i := (i : Int)) (by omega) (by simp; omega)
      have hi' : i < ys.length := by omega
      have hrow1 : (xs.map enc).getD (i : Int).toNat [] = enc xs[i] := by simp [List.getD_eq_getElem?_getD, hi]
      have hrow2 : (ys.map enc).getD (i : Int).toNat [] = enc ys[i] := by simp [List.getD_eq_getElem?_getD, hi']
      rw [hrow1] at hrd1
      rw [hrow2] at hrd2
      have hap1 := apart_t sz _ (henc xs[i])
      have hap2 := apart_t sz _ (henc ys[i])
      simp only [eqBody]
      (try simp only [go_sem, ↓reduceIte, Nat.reduceEqDiff, reduceCtorEq, Nat.reduceAdd, Nat.reduceLeDiff, Nat.reduceSub, Nat.reduceMul, Int.reduceEq, Nat.reduceBEq, h0, h1, hTi, hia1, hrd1, hap1, hia2, hrd2, hap2])
      refine aw_call (by (try simp only [go_sem, ↓reduceIte, Nat.reduceEqDiff, reduceCtorEq, Nat.reduceAdd, Nat.reduceLeDiff, Nat.reduceSub, Nat.reduceMul, Int.reduceEq, Nat.reduceBEq]) <;> rfl) (by (try simp only [go_sem, ↓reduceIte, Nat.reduceEqDiff, reduceCtorEq, Nat.reduceAdd, Nat.reduceLeDiff, Nat.reduceSub, Nat.reduceMul, Int.reduceEq, Nat.reduceBEq]) <;> rfl) (he xs[i] ys[i] _ _ ?_)
      by_cases e : xs[i] = ys[i]
      · have ed : decide (xs[i] = ys[i]) = true := by simp [e]
        rw [ed]
        (try simp only [go_sem, ↓reduceIte, Nat.reduceEqDiff, reduceCtorEq, Nat.reduceAdd, Nat.reduceLeDiff, Nat.reduceSub, Nat.reduceMul, Int.reduceEq, Nat.reduceBEq])
        exact ⟨H', Hp.sub.refl _, rfl, by rw [List.take_succ_eq_append_getElem hi, List.take_succ_eq_append_getElem hi', heq, e]⟩
      · have ed : decide (xs[i] = ys[i]) = false := by simp [e]
        rw [ed]
        (try simp only [go_sem, ↓reduceIte, Nat.reduceEqDiff, reduceCtorEq, Nat.reduceAdd, Nat.reduceLeDiff, Nat.reduceSub, Nat.reduceMul, Int.reduceEq, Nat.reduceBEq])
        have : decide (xs = ys) = false := by
          rw [decide_eq_false_iff_not]; intro h; subst h; exact e rfl
        rw [this] at hK
        exact retQ_r1 (by (try simp only [go_sem, ↓reduceIte, Nat.reduceEqDiff, reduceCtorEq, Nat.reduceAdd, Nat.reduceLeDiff, Nat.reduceSub, Nat.reduceMul, Int.reduceEq, Nat.reduceBEq]) <;> rfl) _ (Hp.sub.refl _) hK
    · rintro T' H' hl' hoff hTi ⟨rfl, heq⟩
      (try simp only [go_sem, ↓reduceIte, Nat.reduceEqDiff, reduceCtorEq, Nat.reduceAdd, Nat.reduceLeDiff, Nat.reduceSub, Nat.reduceMul, Int.reduceEq, Nat.reduceBEq])
      have : decide (xs = ys) = true := by
        rw [List.take_of_length_le (Nat.le_refl _), hne, List.take_of_length_le (Nat.le_refl _)] at heq
        simp [heq]
      rw [this] at hK
      exact retQ_r1 (by (try simp only [go_sem, ↓reduceIte, Nat.reduceEqDiff, reduceCtorEq, Nat.reduceAdd, Nat.reduceLeDiff, Nat.reduceSub, Nat.reduceMul, Int.reduceEq, Nat.reduceBEq]) <;> rfl) _ (Hp.sub.refl _) hK
  · have hd : decide ((xs.length : Int) = (ys.length : Int)) = false := by simp; omega
    (try simp only [go_sem, ↓reduceIte, Nat.reduceEqDiff, reduceCtorEq, Nat.reduceAdd, Nat.reduceLeDiff, Nat.reduceSub, Nat.reduceMul, Int.reduceEq, Nat.reduceBEq, hlen, hlen', hd])
    have : decide (xs = ys) = false := by
      rw [decide_eq_false_iff_not]; intro h; exact hne (by rw [h])
    rw [this] at hK
    exact retQ_r1 (by (try simp only [go_sem, ↓reduceIte, Nat.reduceEqDiff, reduceCtorEq, Nat.reduceAdd, Nat.reduceLeDiff, Nat.reduceSub, Nat.reduceMul, Int.reduceEq, Nat.reduceBEq]) <;> rfl) _ (Hp.sub.refl _) hK
end Go.Proofs.Ytonmmfjagkgifaa
