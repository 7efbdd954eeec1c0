/- The abstract calculus, sixteenth text: slices that are read, and the library's small functions over them. -/
import Derived.Test.YtonmmfjagkgifaaLoop
set_option linter.unusedVariables false
set_option linter.unusedSimpArgs false
namespace Go.Proofs.Ytonmmfjagkgifaa
open Go.RowKit
attribute [local go_sem] aw_mv aw_mkf aw_pick aw_bin aw_eqB aw_eqNil aw_eqAgg aw_un aw_conv aw_fa aw_ia aw_iaArr aw_ixArr aw_ixStr aw_fld aw_ext aw_bld aw_nilc aw_slc aw_slcArr aw_slcStr aw_len aw_cap aw_mnx aw_ld aw_st aw_guard_y aw_guard_n aw_nil aw_exit aw_ret aw_cond_t aw_cond_f aw_blk seqQ_norm seqQ_exit seqQ_ret blkQ_norm blkQ_exit_same blkQ_exit_ne blkQ_ret vPick_b vEqB_t vEqB_f vEqNil_sn vEqNil_ss vEqNil_pn vEqNil_ps vUn_neg vUn_not vUn_xor vConv_i vFa_p vIa_s vFld_a vExt_t vNilc_p vLen_s vLen_t vMnx_t vMnx_f abin_add abin_sub abin_mul abin_eql abin_neq abin_lss abin_leq abin_gtr abin_geq abin_and abin_or abin_xor abin_quo abin_rem abin_shl abin_shr abin_seq abin_sne abin_scat ev_tmp ev_const ev_func put_get puto_some puto_none args0_get List.getD_cons_succ List.getD_cons_zero Option.isSome_some Option.getD_some Option.isNone_none Option.isNone_some Option.map_some Option.map_none Value.bool.injEq Value.int.injEq add_mk aload_ptr rd_mk rdObj_row set_get astore_ptr apart_f apart_t List.length_cons List.length_nil List.drop_succ_cons List.drop_zero List.take_succ_cons List.take_zero List.map_cons List.map_nil Option.bind_some Option.bind_none ares_nil ares_tmp oneOf1 Nat.zero_add Nat.add_zero Bool.not_true Bool.not_false ne_eq not_false_eq_true not_true_eq_false decide_true decide_false Bool.true_and Bool.and_true Bool.false_eq_true and_self and_true true_and List.getElem?_cons_zero List.getElem?_cons_succ vc_agg vc_int vc_bool vc_slice aw_chk1 aw_chk2 st_agg st_int st_slice st_ptr one_int one_bool one_slice one_ptr one_str splice_eq aparts_nil aparts_cons afill_nil afill_cons rz0 rz1 rz2 List.all_cons List.all_nil Bool.and_self List.nil_append List.cons_append List.append_nil set_set

/-- A slice that reads as rows of cells. -/
def Sl (H : Hp) (sz : Nat) (v : Value) (rows : List (List Value)) : Prop :=
  ∃ a c, v = .slice a rows.length c ∧ (rows.length ≤ 1152921504606846976 ∧ rows.length ≤ c) ∧ ∀ i, i < rows.length → ∃ b off, a = some ⟨b, off, none⟩ ∧ rdObj (H b) (off + i * sz) sz = some (rows.getD i [])
theorem Sl.len {H : Hp} {sz : Nat} {v : Value} {rows : List (List Value)} (h : Sl H sz v rows) : vLen false v = some (.int .i64 rows.length) := by
  obtain ⟨a, c, rfl, _, _⟩ := h; rfl
theorem Sl.le {H : Hp} {sz : Nat} {v : Value} {rows : List (List Value)} (h : Sl H sz v rows) : rows.length ≤ 1152921504606846976 := by
  obtain ⟨a, c, _, h, _⟩ := h; exact h.1
theorem Sl.at {H : Hp} {sz : Nat} {v : Value} {rows : List (List Value)} (h : Sl H sz v rows) {k : IntKind} {i : Int} (h0 : 0 ≤ i) (h1 : i < rows.length) :
    ∃ b off, vIa sz v (.int k i) = some (.pointer (some ⟨b, off, none⟩)) ∧ rdObj (H b) off sz = some (rows.getD i.toNat []) := by
  obtain ⟨a, c, rfl, hle, hr⟩ := h
  obtain ⟨b, off, rfl, hrd⟩ := hr i.toNat (by omega)
  exact ⟨b, off + i.toNat * sz, by simp [vIa, h0, h1, add_mk], hrd⟩
theorem Sl.set {H : Hp} {sz : Nat} {v : Value} {rows : List (List Value)} (h : Sl H sz v rows) {b : Nat} {o : AObj} (hb : H b = none) : Sl (H.set b o) sz v rows := by
  obtain ⟨a, c, rfl, hle, hr⟩ := h
  refine ⟨a, c, rfl, hle, fun i hi => ?_⟩
  obtain ⟨b', off, rfl, hrd⟩ := hr i hi
  refine ⟨b', off, rfl, ?_⟩
  rw [set_get, if_neg (by intro e; rw [e, hb] at hrd; cases hrd)]
  exact hrd
theorem Sl.sub {H H' : Hp} {sz : Nat} {v : Value} {rows : List (List Value)} (h : Sl H sz v rows) (hs : H.sub H') : Sl H' sz v rows := by
  obtain ⟨a, c, rfl, hle, hr⟩ := h
  refine ⟨a, c, rfl, hle, fun i hi => ?_⟩
  obtain ⟨b', off, rfl, hrd⟩ := hr i hi
  refine ⟨b', off, rfl, ?_⟩
  cases e : H b' with
  | none => rw [e] at hrd; cases hrd
  | some o => rw [hs b' o e, ← e]; exact hrd
/-- A slice that was just made. -/
theorem Sl.made (H : Hp) (sz : Nat) (hsz : 0 < sz) (b c : Nat) (own : Bool) (ty : TypeId) (rows : List (List Value)) (tot : Nat) (hr : ∀ r ∈ rows, r.length = sz) (hle : rows.length ≤ 1152921504606846976) (hcap : rows.length ≤ c) (hb : H b = some (.row own ty rows.flatten tot)) :
    Sl H sz (.slice (some ⟨b, 0, none⟩) rows.length c) rows := by
  refine ⟨_, c, rfl, ⟨hle, hcap⟩, fun i hi => ⟨b, 0, rfl, ?_⟩⟩
  rw [hb]
  have key : ∀ (rows : List (List Value)) (i : Nat), (∀ r ∈ rows, r.length = sz) → i < rows.length → i * sz + sz ≤ rows.flatten.length ∧ (rows.flatten.drop (i * sz)).take sz = rows.getD i [] := by
    intro rows
    induction rows with
    | nil => intro i _ h; simp at h
    | cons r rows ih =>
      intro i hr hi
      have hr0 := hr r (by simp)
      cases i with
      | zero =>
        refine ⟨by simp [hr0], ?_⟩
        simp only [Nat.zero_mul, List.drop_zero, List.flatten_cons, List.getD_cons_zero]
        rw [← hr0]; exact List.take_left
      | succ i =>
        obtain ⟨h1, h2⟩ := ih i (fun r hr' => hr r (by simp [hr'])) (by simpa using hi)
        refine ⟨by simp only [List.flatten_cons, List.length_append, hr0, Nat.succ_mul]; omega, ?_⟩
        simp only [List.flatten_cons, List.getD_cons_succ, Nat.succ_mul]
        rw [← h2, Nat.add_comm (i * sz) sz, ← List.drop_drop]
        congr 2
        rw [← hr0]; exact List.drop_left
  obtain ⟨h1, h2⟩ := key rows i hr hi
  simp only [Nat.zero_add, rdObj_row]
  rw [if_pos h1, h2]

/-- A value out of its cells. -/
def valOf (agg : Bool) (cs : List Value) : Value := if agg then .agg cs.toArray else cs.headD undef
theorem apart_valOf {g : Bool} {s : Nat} {cs : List Value} (hl : cs.length = s) (h1 : (g || s == 1) = true) : apart g s cs = some (valOf g cs) := by
  unfold apart valOf
  rw [if_pos hl]
  cases g with
  | true => simp
  | false =>
    simp at h1
    subst h1
    cases cs with
    | nil => simp at hl
    | cons x xs => simp

/-! ### slices.IndexFunc -/
def idxBody (agg : Bool) (sz : Nat) : AC :=
  .op ⟨some 10, none, .mv (.tmp 8)⟩ (.op ⟨some 5, none, .mv (.tmp 10)⟩ (.op ⟨some 11, none, .mv (.tmp 1)⟩ (.op ⟨some 12, none, .mv (.tmp 0)⟩ (.op ⟨some 13, none, .mv (.tmp 5)⟩ (.op ⟨some 14, none, .ia sz (.tmp 12) (.tmp 13)⟩ (.op ⟨some 15, none, .ld agg sz (.tmp 14)⟩ (.op ⟨some 16, none, .call (.tmp 11) [.tmp 15]⟩ (.cond (.tmp 16) (.op ⟨some 17, none, .mv (.tmp 5)⟩ (.op ⟨some 4, none, .mv (.tmp 17)⟩ .ret)) .nil .nil))))))))
def idxAF (agg : Bool) (sz : Nat) : AF := ⟨2, .op ⟨some 4, none, .mv (.const (.int .i64 0))⟩ (.op ⟨some 6, none, .mv (.tmp 0)⟩ (.op ⟨some 7, none, .len false (.tmp 6)⟩ (.op ⟨some 8, none, .mv (.const (.int .i64 0))⟩ (.blk 0 (.loop (rngB 0 1 9 18 8 7 (idxBody agg sz))) (.op ⟨some 4, none, .mv (.const (.int .i64 (-1)))⟩ .ret))))), [.tmp 4]⟩
/-- The index of the first one, -1 for none. -/
def idxOf {α : Type} (p : α → Bool) (xs : List α) : Int := match xs.findIdx? p with
  | some i => i
  | none => -1

theorem indexFunc_spec {P : Program} {f : FuncId} {agg : Bool} {sz : Nat} (hf : prepFn P f = some (idxAF agg sz)) (hg : (agg || sz == 1) = true) {α : Type} (enc : α → List Value) (henc : ∀ x, (enc x).length = sz)
    (p : α → Bool) (xs : List α) {v : Value} {H : Hp} {g : FuncId} {cp : List Value} (hs : Sl H sz v (xs.map enc))
    (hc : ∀ x ∈ xs, ∀ K : Value → Hp → Prop, K (.bool (p x)) H → ACalls P g ([valOf agg (enc x)] ++ cp).toArray H K) {K : Value → Hp → Prop} (hK : K (.int .i64 (idxOf p xs)) H) :
    ACalls P f #[v, .func (.func g) #[] cp.toArray] H K := by
  refine acalls_go hf rfl fun hl => ?_
  have hlen := hs.len
  have hle := hs.le
  rw [List.length_map] at hlen hle
  simp only [idxAF]
  (try simp only [go_sem, ↓reduceIte, Nat.reduceEqDiff, reduceCtorEq, Nat.reduceAdd, Nat.reduceLeDiff, Nat.reduceSub, Nat.reduceMul, Int.reduceEq, Nat.reduceBEq, hlen])
  refine aw_range hl xs.length (by omega) (fun i T' H' => H' = H ∧ ∀ j, j < i → ∀ x, xs[j]? = some x → p x = false) H (Hp.sub.refl H) (by (try simp only [go_sem, ↓reduceIte, Nat.reduceEqDiff, reduceCtorEq, Nat.reduceAdd, Nat.reduceLeDiff, Nat.reduceSub, Nat.reduceMul, Int.reduceEq, Nat.reduceBEq]) <;> rfl) (by (try simp only [go_sem, ↓reduceIte, Nat.reduceEqDiff, reduceCtorEq, Nat.reduceAdd, Nat.reduceLeDiff, Nat.reduceSub, Nat.reduceMul, Int.reduceEq, Nat.reduceBEq, hlen]) <;> rfl) ⟨rfl, fun j hj => absurd hj (by omega)⟩ rfl rfl (by decide) (by decide) ?_ ?_
  · rintro i T' H' hi hl' hoff hTi ⟨rfl, hno⟩
    have h0 : T' 0 = v := by rw [hoff.get rfl]; (try simp only [go_sem, ↓reduceIte, Nat.reduceEqDiff, reduceCtorEq, Nat.reduceAdd, Nat.reduceLeDiff, Nat.reduceSub, Nat.reduceMul, Int.reduceEq, Nat.reduceBEq])
    have h1 : T' 1 = .func (.func g) #[] cp.toArray := by rw [hoff.get rfl]; (try simp only [go_sem, ↓reduceIte, Nat.reduceEqDiff, reduceCtorEq, Nat.reduceAdd, Nat.reduceLeDiff, Nat.reduceSub, Nat.reduceMul, Int.reduceEq, Nat.reduceBEq])
    obtain ⟨b, off, hia, hrd⟩ := hs.at (k := .i64) (i := (i : Int)) (by omega) (by simp; omega)
    have hx : xs[i]? = some xs[i] := by simp [hi]
    have hrow : (xs.map enc).getD (i : Int).toNat [] = enc xs[i] := by simp [List.getD_eq_getElem?_getD, hi]
    rw [hrow] at hrd
    have hap := apart_valOf (g := agg) (henc xs[i]) hg
    simp only [idxBody]
    (try simp only [go_sem, ↓reduceIte, Nat.reduceEqDiff, reduceCtorEq, Nat.reduceAdd, Nat.reduceLeDiff, Nat.reduceSub, Nat.reduceMul, Int.reduceEq, Nat.reduceBEq, h0, h1, hTi, hia, hrd, hap])
    refine aw_callc (first := []) (cap := cp) (by (try simp only [go_sem, ↓reduceIte, Nat.reduceEqDiff, reduceCtorEq, Nat.reduceAdd, Nat.reduceLeDiff, Nat.reduceSub, Nat.reduceMul, Int.reduceEq, Nat.reduceBEq, h1]) <;> rfl) (by (try simp only [go_sem, ↓reduceIte, Nat.reduceEqDiff, reduceCtorEq, Nat.reduceAdd, Nat.reduceLeDiff, Nat.reduceSub, Nat.reduceMul, Int.reduceEq, Nat.reduceBEq]) <;> rfl) (hc xs[i] (by simp) _ ?_)
    cases hp : p xs[i] with
    | true =>
      (try simp only [go_sem, ↓reduceIte, Nat.reduceEqDiff, reduceCtorEq, Nat.reduceAdd, Nat.reduceLeDiff, Nat.reduceSub, Nat.reduceMul, Int.reduceEq, Nat.reduceBEq, hTi])
      have : idxOf p xs = i := by
        have : xs.findIdx? p = some i := by
          rw [List.findIdx?_eq_some_iff_getElem]
          refine ⟨hi, hp, fun j hj => ?_⟩
          have := hno j hj xs[j] (by simp)
          simp [this]
        simp [idxOf, this]
      rw [this] at hK
      exact retQ_r1 (by (try simp only [go_sem, ↓reduceIte, Nat.reduceEqDiff, reduceCtorEq, Nat.reduceAdd, Nat.reduceLeDiff, Nat.reduceSub, Nat.reduceMul, Int.reduceEq, Nat.reduceBEq]) <;> rfl) _ (Hp.sub.refl _) hK
    | false =>
      (try simp only [go_sem, ↓reduceIte, Nat.reduceEqDiff, reduceCtorEq, Nat.reduceAdd, Nat.reduceLeDiff, Nat.reduceSub, Nat.reduceMul, Int.reduceEq, Nat.reduceBEq])
      refine ⟨H', Hp.sub.refl _, rfl, fun j hj x hx' => ?_⟩
      by_cases e : j = i
      · subst e; rw [hx] at hx'; cases hx'; exact hp
      · exact hno j (by omega) x hx'
  · rintro T' H' hl' hoff hTi ⟨rfl, hno⟩
    (try simp only [go_sem, ↓reduceIte, Nat.reduceEqDiff, reduceCtorEq, Nat.reduceAdd, Nat.reduceLeDiff, Nat.reduceSub, Nat.reduceMul, Int.reduceEq, Nat.reduceBEq])
    have : idxOf p xs = -1 := by
      have : xs.findIdx? p = none := by
        rw [List.findIdx?_eq_none_iff]
        intro x hx
        obtain ⟨j, hj, rfl⟩ := List.getElem_of_mem hx
        exact hno j hj _ (by simp)
      simp [idxOf, this]
    rw [this] at hK
    exact retQ_r1 (by (try simp only [go_sem, ↓reduceIte, Nat.reduceEqDiff, reduceCtorEq, Nat.reduceAdd, Nat.reduceLeDiff, Nat.reduceSub, Nat.reduceMul, Int.reduceEq, Nat.reduceBEq]) <;> rfl) _ (Hp.sub.refl _) hK
/-! ### slices.ContainsFunc -/
def cntAF (fi : FuncId) : AF := ⟨2, .op ⟨some 4, none, .mv (.const (.bool false))⟩ (.op ⟨some 5, none, .mv (.tmp 0)⟩ (.op ⟨some 6, none, .mv (.tmp 1)⟩ (.op ⟨some 7, none, .call (.func fi) [.tmp 5, .tmp 6]⟩ (.op ⟨some 8, none, .bin .geq (.tmp 7) (.const (.int .i64 0))⟩ (.op ⟨some 4, none, .mv (.tmp 8)⟩ .ret))))), [.tmp 4]⟩
theorem idxOf_ge {α : Type} (p : α → Bool) (xs : List α) : decide (idxOf p xs ≥ 0) = xs.any p := by
  unfold idxOf
  cases h : xs.findIdx? p with
  | none =>
    rw [List.findIdx?_eq_none_iff] at h
    have : xs.any p = false := by
      rw [List.any_eq_false]; intro x hx; simp [h x hx]
    rw [this]; decide
  | some i =>
    rw [List.findIdx?_eq_some_iff_getElem] at h
    obtain ⟨hi, hp, _⟩ := h
    have : xs.any p = true := List.any_eq_true.2 ⟨xs[i], by simp, hp⟩
    rw [this]; simp
theorem containsFunc_spec {P : Program} {f fi : FuncId} {agg : Bool} {sz : Nat} (hf : prepFn P f = some (cntAF fi)) (hfi : prepFn P fi = some (idxAF agg sz)) (hg : (agg || sz == 1) = true) {α : Type} (enc : α → List Value) (henc : ∀ x, (enc x).length = sz)
    (p : α → Bool) (xs : List α) {v : Value} {H : Hp} {g : FuncId} {cp : List Value} (hs : Sl H sz v (xs.map enc))
    (hc : ∀ x ∈ xs, ∀ K : Value → Hp → Prop, K (.bool (p x)) H → ACalls P g ([valOf agg (enc x)] ++ cp).toArray H K) {K : Value → Hp → Prop} (hK : K (.bool (xs.any p)) H) :
    ACalls P f #[v, .func (.func g) #[] cp.toArray] H K := by
  refine acalls_go hf rfl fun hl => ?_
  simp only [cntAF]
  (try simp only [go_sem, ↓reduceIte, Nat.reduceEqDiff, reduceCtorEq, Nat.reduceAdd, Nat.reduceLeDiff, Nat.reduceSub, Nat.reduceMul, Int.reduceEq, Nat.reduceBEq])
  refine aw_call (by (try simp only [go_sem, ↓reduceIte, Nat.reduceEqDiff, reduceCtorEq, Nat.reduceAdd, Nat.reduceLeDiff, Nat.reduceSub, Nat.reduceMul, Int.reduceEq, Nat.reduceBEq]) <;> rfl) (by (try simp only [go_sem, ↓reduceIte, Nat.reduceEqDiff, reduceCtorEq, Nat.reduceAdd, Nat.reduceLeDiff, Nat.reduceSub, Nat.reduceMul, Int.reduceEq, Nat.reduceBEq]) <;> rfl) (indexFunc_spec hfi hg enc henc p xs hs hc ?_)
  rw [← idxOf_ge] at hK
  (try simp only [go_sem, ↓reduceIte, Nat.reduceEqDiff, reduceCtorEq, Nat.reduceAdd, Nat.reduceLeDiff, Nat.reduceSub, Nat.reduceMul, Int.reduceEq, Nat.reduceBEq])
  exact retQ_r1 (by (try simp only [go_sem, ↓reduceIte, Nat.reduceEqDiff, reduceCtorEq, Nat.reduceAdd, Nat.reduceLeDiff, Nat.reduceSub, Nat.reduceMul, Int.reduceEq, Nat.reduceBEq]) <;> rfl) H (Hp.sub.refl _) hK
end Go.Proofs.Ytonmmfjagkgifaa
