/- Slices of whole numbers: compared, marked, held. -/
import Derived.Test.YtonmmfjagkgifaaCodeF
import Derived.Test.YtonmmfjagkgifaaGen2
set_option linter.unusedVariables false
set_option linter.unusedSimpArgs false
namespace Go.Proofs.Ytonmmfjagkgifaa
open Go.RowKit
attribute [local go_sem] aw_mv aw_mkf aw_pick aw_bin aw_eqB aw_eqNil aw_eqAgg aw_un aw_conv aw_fa aw_ia aw_iaArr aw_ixArr aw_ixStr aw_fld aw_ext aw_bld aw_nilc aw_slc aw_slcArr aw_slcStr aw_len aw_cap aw_mnx aw_ld aw_st aw_guard_y aw_guard_n aw_nil aw_exit aw_ret aw_cond_t aw_cond_f aw_blk seqQ_norm seqQ_exit seqQ_ret blkQ_norm blkQ_exit_same blkQ_exit_ne blkQ_ret vPick_b vEqB_t vEqB_f vEqNil_sn vEqNil_ss vEqNil_pn vEqNil_ps vUn_neg vUn_not vUn_xor vConv_i vFa_p vIa_s vFld_a vExt_t vNilc_p vLen_s vLen_t vMnx_t vMnx_f abin_add abin_sub abin_mul abin_eql abin_neq abin_lss abin_leq abin_gtr abin_geq abin_and abin_or abin_xor abin_quo abin_rem abin_shl abin_shr abin_seq abin_sne abin_scat ev_tmp ev_const ev_func put_get puto_some puto_none args0_get List.getD_cons_succ List.getD_cons_zero Option.isSome_some Option.getD_some Option.isNone_none Option.isNone_some Option.map_some Option.map_none Value.bool.injEq Value.int.injEq add_mk aload_ptr rd_mk rdObj_row set_get astore_ptr apart_f apart_t List.length_cons List.length_nil List.drop_succ_cons List.drop_zero List.take_succ_cons List.take_zero List.map_cons List.map_nil Option.bind_some Option.bind_none ares_nil ares_tmp oneOf1 Nat.zero_add Nat.add_zero Bool.not_true Bool.not_false ne_eq not_false_eq_true not_true_eq_false decide_true decide_false Bool.true_and Bool.and_true Bool.false_eq_true and_self and_true true_and List.getElem?_cons_zero List.getElem?_cons_succ vc_agg vc_int vc_bool vc_slice aw_chk1 aw_chk2 st_agg st_int st_slice st_ptr one_int one_bool one_slice one_ptr one_str splice_eq aparts_nil aparts_cons afill_nil afill_cons rz0 rz1 rz2 List.all_cons List.all_nil Bool.and_self List.nil_append List.cons_append List.append_nil set_set

def within (n lo hi : Int) : Bool := decide (lo ≤ n) && decide (n ≤ hi)
def encI (x : Int) : List Value := [.int .i64 x]
theorem encI_len (x : Int) : (encI x).length = 1 := rfl
/-- Nil, or a slice that was made here. -/
def OwnN (H : Hp) (b : Nat) (ty : TypeId) (sz : Nat) (v : Value) (rows : List (List Value)) : Prop := (v = .slice none 0 0 ∧ rows = []) ∨ Own H b ty sz v rows
theorem OwnN.sl {H : Hp} {b ty sz : Nat} {v : Value} {rows : List (List Value)} (h : OwnN H b ty sz v rows) (hsz : 0 < sz) (hle : rows.length ≤ 1152921504606846976) : Sl H sz v rows := by
  rcases h with ⟨rfl, rfl⟩ | h
  · exact ⟨none, 0, rfl, by simp, fun i hi => absurd hi (by simp)⟩
  · exact h.sl hsz hle
theorem OwnN.off {H H' : Hp} {b ty sz : Nat} {v : Value} {rows : List (List Value)} (h : OwnN H b ty sz v rows) (hb : H' b = H b) : OwnN H' b ty sz v rows := by
  rcases h with h | h
  · exact .inl h
  · exact .inr (h.off hb)
theorem OwnN.len {H : Hp} {b ty sz : Nat} {v : Value} {rows : List (List Value)} (h : OwnN H b ty sz v rows) : vLen false v = some (.int .i64 rows.length) := by
  rcases h with ⟨rfl, rfl⟩ | h
  · rfl
  · exact h.len
/-- A row of a slice, written over. -/
theorem Own.wr {H : Hp} {b ty sz : Nat} {v : Value} {rows : List (List Value)} (h : Own H b ty sz v rows) {k : IntKind} {i : Nat} (hi : i < rows.length) (sub : Nat) (hsub : sub < sz) (u : Value) (hu : valCells u = [u]) (h1 : u.oneCell' = true) :
    ∃ a cs' tot, vIa sz v (.int k (i : Int)) = some (.pointer (some ⟨b, i * sz, none⟩)) ∧ H b = some a ∧ stObj (H b) (i * sz + sub) 1 u = some (.row true ty cs' tot) ∧ Own (H.set b (.row true ty cs' tot)) b ty sz v (rows.set i ((rows.getD i []).set sub u)) := by
  obtain ⟨c, tot, rfl, hb, hc, hr⟩ := h
  have hf := flat_len hr
  have hle : i * sz + sub + 1 ≤ rows.length * sz := by
    have : (i + 1) * sz ≤ rows.length * sz := Nat.mul_le_mul_right sz hi
    rw [Nat.succ_mul] at this; omega
  have hcu : u.cells.size = 1 := by
    have := congrArg List.length hu
    simpa [valCells] using this
  have hlu : u.cells.toList = [u] := hu
  refine ⟨_, splice rows.flatten (i * sz + sub) [u], tot, ?_, hb, ?_, c, tot, by simp, ?_, ⟨hc.1, by simpa using hc.2⟩, ?_⟩
  · rw [vIa_s, if_pos (by omega)]; simp [add_mk]
  · rw [hb, stObj_row, hlu, if_pos ⟨hcu, by simp [h1], by omega⟩]
  · rw [set_same]
    congr 2
    have key : ∀ (rows : List (List Value)) (i : Nat), (∀ r ∈ rows, r.length = sz) → i < rows.length → splice rows.flatten (i * sz + sub) [u] = (rows.set i ((rows.getD i []).set sub u)).flatten := by
      intro rows
      induction rows with
      | nil => intro i _ h; simp at h
      | cons r rows ih =>
        intro i hr hi
        have hr0 := hr r (by simp)
        cases i with
        | zero =>
          simp only [Nat.zero_mul, Nat.zero_add, List.set_cons_zero, List.getD_cons_zero, List.flatten_cons]
          unfold splice
          rw [List.take_append_of_le_length (by omega), List.drop_append_of_le_length (by simp; omega), List.set_eq_take_append_cons_drop, if_pos (by omega)]
          simp
        | succ i =>
          have := ih i (fun r hr' => hr r (by simp [hr'])) (by simpa using hi)
          simp only [List.set_cons_succ, List.getD_cons_succ, List.flatten_cons]
          rw [← this]
          unfold splice
          rw [show (i + 1) * sz + sub = r.length + (i * sz + sub) by rw [hr0, Nat.succ_mul]; omega, List.take_append, show r.length + (i * sz + sub) + [u].length = r.length + (i * sz + sub + [u].length) by omega, List.drop_append]
          simp [List.take_of_length_le]
    exact key rows i hr hi
  · intro r hr'
    rcases List.mem_or_eq_of_mem_set hr' with hr' | rfl
    · exact hr r hr'
    · rw [List.length_set]
      rw [List.getD_eq_getElem?_getD, List.getElem?_eq_getElem hi]
      exact hr _ (by simp)
theorem spec_eqInt64S (xs ys : List Int) {v u : Value} {H : Hp} (hs : Sl H 1 v (xs.map encI)) (hu : Sl H 1 u (ys.map encI)) {K : Value → Hp → Prop}
    (hK : K (.bool (decide (xs = ys))) H) : ACalls Go.Proofs.Try.prog n_laws_eqInt64S #[v, u] H K := by
  refine acalls_go fn_laws_eqInt64S rfl fun hl => ?_
  have hlen := hs.len
  have hle := hs.le
  have hlen' := hu.len
  rw [List.length_map] at hlen hle hlen'
  simp only [c_laws_eqInt64S]
  by_cases hne : xs.length = ys.length
  · have hd : decide ((xs.length : Int) = (ys.length : Int)) = true := by simp [hne]
    (try simp only [go_sem, ↓reduceIte, Nat.reduceEqDiff, reduceCtorEq, Nat.reduceAdd, Nat.reduceLeDiff, Nat.reduceSub, Nat.reduceMul, Int.reduceEq, Nat.reduceBEq, hlen, hlen', hd])
    refine aw_forS hl xs.length v hlen (by omega) 0 (by omega) (fun i T' H' => H' = H ∧ xs.take i = ys.take i) H (Hp.sub.refl H) (by (try simp only [go_sem, ↓reduceIte, Nat.reduceEqDiff, reduceCtorEq, Nat.reduceAdd, Nat.reduceLeDiff, Nat.reduceSub, Nat.reduceMul, Int.reduceEq, Nat.reduceBEq]) <;> rfl) (by (try simp only [go_sem, ↓reduceIte, Nat.reduceEqDiff, reduceCtorEq, Nat.reduceAdd, Nat.reduceLeDiff, Nat.reduceSub, Nat.reduceMul, Int.reduceEq, Nat.reduceBEq]) <;> rfl) ⟨rfl, by simp⟩ rfl rfl (by decide) (by decide) (by decide) (by decide) ?_ ?_
    · rintro i T' H' hi hl' hoff hTi ⟨rfl, heq⟩
      have h1 : T' 1 = u := by rw [hoff.get rfl]; (try simp only [go_sem, ↓reduceIte, Nat.reduceEqDiff, reduceCtorEq, Nat.reduceAdd, Nat.reduceLeDiff, Nat.reduceSub, Nat.reduceMul, Int.reduceEq, Nat.reduceBEq])
      have h0 : T' 0 = v := by rw [hoff.get rfl]; (try simp only [go_sem, ↓reduceIte, Nat.reduceEqDiff, reduceCtorEq, Nat.reduceAdd, Nat.reduceLeDiff, Nat.reduceSub, Nat.reduceMul, Int.reduceEq, Nat.reduceBEq])
      obtain ⟨b1, o1, hia1, hrd1⟩ := hs.at (k := .i64) (i := (i : Int)) (by omega) (by simp; omega)
      obtain ⟨b2, o2, hia2, hrd2⟩ := hu.at (k := .i64) (i := (i : Int)) (by omega) (by simp; omega)
      have hi' : i < ys.length := by omega
      have hrow1 : (xs.map encI).getD (i : Int).toNat [] = [.int .i64 xs[i]] := by simp [List.getD_eq_getElem?_getD, hi, encI]
      have hrow2 : (ys.map encI).getD (i : Int).toNat [] = [.int .i64 ys[i]] := by simp [List.getD_eq_getElem?_getD, hi', encI]
      rw [hrow1] at hrd1
      rw [hrow2] at hrd2
      by_cases e : xs[i] = ys[i]
      · have ed : decide (xs[i] = ys[i]) = true := by simp [e]
        (try simp only [go_sem, ↓reduceIte, Nat.reduceEqDiff, reduceCtorEq, Nat.reduceAdd, Nat.reduceLeDiff, Nat.reduceSub, Nat.reduceMul, Int.reduceEq, Nat.reduceBEq, h0, h1, hTi, hia1, hrd1, hia2, hrd2, ed])
        exact ⟨H', Hp.sub.refl _, rfl, by rw [List.take_succ_eq_append_getElem hi, List.take_succ_eq_append_getElem hi', heq, e]⟩
      · have ed : decide (xs[i] = ys[i]) = false := by simp [e]
        (try simp only [go_sem, ↓reduceIte, Nat.reduceEqDiff, reduceCtorEq, Nat.reduceAdd, Nat.reduceLeDiff, Nat.reduceSub, Nat.reduceMul, Int.reduceEq, Nat.reduceBEq, h0, h1, hTi, hia1, hrd1, hia2, hrd2, ed])
        have : decide (xs = ys) = false := by
          rw [decide_eq_false_iff_not]; intro h; subst h; exact e rfl
        rw [this] at hK
        exact retQ_r1 (by (try simp only [go_sem, ↓reduceIte, Nat.reduceEqDiff, reduceCtorEq, Nat.reduceAdd, Nat.reduceLeDiff, Nat.reduceSub, Nat.reduceMul, Int.reduceEq, Nat.reduceBEq]) <;> rfl) _ (Hp.sub.refl _) hK
    · rintro T' H' hl' hoff hTi ⟨rfl, heq⟩
      (try simp only [go_sem, ↓reduceIte, Nat.reduceEqDiff, reduceCtorEq, Nat.reduceAdd, Nat.reduceLeDiff, Nat.reduceSub, Nat.reduceMul, Int.reduceEq, Nat.reduceBEq])
      have : decide (xs = ys) = true := by
        rw [List.take_of_length_le (Nat.le_refl _), hne, List.take_of_length_le (Nat.le_refl _)] at heq
        simp [heq]
      rw [this] at hK
      exact retQ_r1 (by (try simp only [go_sem, ↓reduceIte, Nat.reduceEqDiff, reduceCtorEq, Nat.reduceAdd, Nat.reduceLeDiff, Nat.reduceSub, Nat.reduceMul, Int.reduceEq, Nat.reduceBEq]) <;> rfl) _ (Hp.sub.refl _) hK
  · have hd : decide ((xs.length : Int) = (ys.length : Int)) = false := by simp; omega
    (try simp only [go_sem, ↓reduceIte, Nat.reduceEqDiff, reduceCtorEq, Nat.reduceAdd, Nat.reduceLeDiff, Nat.reduceSub, Nat.reduceMul, Int.reduceEq, Nat.reduceBEq, hlen, hlen', hd])
    have : decide (xs = ys) = false := by
      rw [decide_eq_false_iff_not]; intro h; exact hne (by rw [h])
    rw [this] at hK
    exact retQ_r1 (by (try simp only [go_sem, ↓reduceIte, Nat.reduceEqDiff, reduceCtorEq, Nat.reduceAdd, Nat.reduceLeDiff, Nat.reduceSub, Nat.reduceMul, Int.reduceEq, Nat.reduceBEq]) <;> rfl) _ (Hp.sub.refl _) hK
/-- k, k + 1, .. -/
def upFrom (k : Int) (n : Nat) : List Int := (List.range n).map fun (i : Nat) => k + (i : Int)
theorem upFrom_len (k : Int) (n : Nat) : (upFrom k n).length = n := by simp [upFrom]
theorem spec_heldInt64S (k : Int) (n : Nat) (hk : 0 ≤ k) (hkn : k + n ≤ 4611686018427387904) {v : Value} {H : Hp} (hs : Sl H 1 v ((upFrom k n).map encI)) {K : Value → Hp → Prop} (hK : K (.int .i64 (k + n)) H) :
    ACalls Go.Proofs.Try.prog n_laws_heldInt64S #[v, .int .i64 k] H K := by
  refine acalls_go fn_laws_heldInt64S rfl fun hl => ?_
  have hlen := hs.len
  rw [List.length_map, upFrom_len] at hlen
  simp only [c_laws_heldInt64S]
  (try simp only [go_sem, ↓reduceIte, Nat.reduceEqDiff, reduceCtorEq, Nat.reduceAdd, Nat.reduceLeDiff, Nat.reduceSub, Nat.reduceMul, Int.reduceEq, Nat.reduceBEq, hlen])
  refine aw_forS hl n v hlen (by omega) 0 (by omega) (fun i T' H' => H' = H ∧ T' 1 = .int .i64 (k + i)) H (Hp.sub.refl H) (by (try simp only [go_sem, ↓reduceIte, Nat.reduceEqDiff, reduceCtorEq, Nat.reduceAdd, Nat.reduceLeDiff, Nat.reduceSub, Nat.reduceMul, Int.reduceEq, Nat.reduceBEq]) <;> rfl) (by (try simp only [go_sem, ↓reduceIte, Nat.reduceEqDiff, reduceCtorEq, Nat.reduceAdd, Nat.reduceLeDiff, Nat.reduceSub, Nat.reduceMul, Int.reduceEq, Nat.reduceBEq]) <;> rfl) ⟨rfl, by (try simp only [go_sem, ↓reduceIte, Nat.reduceEqDiff, reduceCtorEq, Nat.reduceAdd, Nat.reduceLeDiff, Nat.reduceSub, Nat.reduceMul, Int.reduceEq, Nat.reduceBEq]); simp⟩ rfl rfl (by decide) (by decide) (by decide) (by decide) ?_ ?_
  · rintro i T' H' hi hl' hoff hTi ⟨rfl, h1⟩
    have h0 : T' 0 = v := by rw [hoff.get rfl]; (try simp only [go_sem, ↓reduceIte, Nat.reduceEqDiff, reduceCtorEq, Nat.reduceAdd, Nat.reduceLeDiff, Nat.reduceSub, Nat.reduceMul, Int.reduceEq, Nat.reduceBEq])
    obtain ⟨b1, o1, hia1, hrd1⟩ := hs.at (k := .i64) (i := (i : Int)) (by omega) (by simp [upFrom_len]; omega)
    have hrow1 : ((upFrom k n).map encI).getD (i : Int).toNat [] = [.int .i64 (k + i)] := by simp [List.getD_eq_getElem?_getD, hi, encI, upFrom]
    rw [hrow1] at hrd1
    have w : IntKind.i64.wrap (k + i + 1) = k + ((i + 1 : Nat) : Int) := by rw [wrap_i64 (by omega) (by omega)]; simp; omega
    (try simp only [go_sem, ↓reduceIte, Nat.reduceEqDiff, reduceCtorEq, Nat.reduceAdd, Nat.reduceLeDiff, Nat.reduceSub, Nat.reduceMul, Int.reduceEq, Nat.reduceBEq, h0, h1, hTi, hia1, hrd1, w])
    exact ⟨H', Hp.sub.refl _, rfl, by (try simp only [go_sem, ↓reduceIte, Nat.reduceEqDiff, reduceCtorEq, Nat.reduceAdd, Nat.reduceLeDiff, Nat.reduceSub, Nat.reduceMul, Int.reduceEq, Nat.reduceBEq])⟩
  · rintro T' H' hl' hoff hTi ⟨rfl, h1⟩
    (try simp only [go_sem, ↓reduceIte, Nat.reduceEqDiff, reduceCtorEq, Nat.reduceAdd, Nat.reduceLeDiff, Nat.reduceSub, Nat.reduceMul, Int.reduceEq, Nat.reduceBEq, h1])
    exact retQ_r1 (by (try simp only [go_sem, ↓reduceIte, Nat.reduceEqDiff, reduceCtorEq, Nat.reduceAdd, Nat.reduceLeDiff, Nat.reduceSub, Nat.reduceMul, Int.reduceEq, Nat.reduceBEq]) <;> rfl) _ (Hp.sub.refl _) hK
theorem spec_markInt64S (k : Int) (xs : List Int) (hk : 0 ≤ k) (hkn : k + xs.length ≤ 4611686018427387904) {v : Value} {H : Hp} {b ty : Nat} (hs : OwnN H b ty 1 v (xs.map encI)) {K : Value → Hp → Prop}
    (hK : ∀ H', (∀ c, c ≠ b → H' c = H c) → OwnN H' b ty 1 v ((upFrom k xs.length).map encI) → K (.int .i64 (k + xs.length)) H') :
    ACalls Go.Proofs.Try.prog n_laws_markInt64S #[v, .int .i64 k] H K := by
  refine acalls_go fn_laws_markInt64S rfl fun hl => ?_
  have hlen := hs.len
  rw [List.length_map] at hlen
  simp only [c_laws_markInt64S]
  (try simp only [go_sem, ↓reduceIte, Nat.reduceEqDiff, reduceCtorEq, Nat.reduceAdd, Nat.reduceLeDiff, Nat.reduceSub, Nat.reduceMul, Int.reduceEq, Nat.reduceBEq, hlen])
  refine aw_forS hl xs.length v hlen (by omega) 0 (by omega) (fun i T' H' => (∀ c, c ≠ b → H' c = H c) ∧ OwnN H' b ty 1 v ((upFrom k i ++ xs.drop i).map encI) ∧ T' 1 = .int .i64 (k + i)) H (Hp.sub.refl H) (by (try simp only [go_sem, ↓reduceIte, Nat.reduceEqDiff, reduceCtorEq, Nat.reduceAdd, Nat.reduceLeDiff, Nat.reduceSub, Nat.reduceMul, Int.reduceEq, Nat.reduceBEq]) <;> rfl) (by (try simp only [go_sem, ↓reduceIte, Nat.reduceEqDiff, reduceCtorEq, Nat.reduceAdd, Nat.reduceLeDiff, Nat.reduceSub, Nat.reduceMul, Int.reduceEq, Nat.reduceBEq]) <;> rfl) ⟨fun _ _ => rfl, by simpa [upFrom] using hs, by (try simp only [go_sem, ↓reduceIte, Nat.reduceEqDiff, reduceCtorEq, Nat.reduceAdd, Nat.reduceLeDiff, Nat.reduceSub, Nat.reduceMul, Int.reduceEq, Nat.reduceBEq]); simp⟩ rfl rfl (by decide) (by decide) (by decide) (by decide) ?_ ?_
  · rintro i T' H' hi hl' hoff hTi ⟨ho, hown, h1⟩
    have h0 : T' 0 = v := by rw [hoff.get rfl]; (try simp only [go_sem, ↓reduceIte, Nat.reduceEqDiff, reduceCtorEq, Nat.reduceAdd, Nat.reduceLeDiff, Nat.reduceSub, Nat.reduceMul, Int.reduceEq, Nat.reduceBEq])
    have hown' : Own H' b ty 1 v ((upFrom k i ++ xs.drop i).map encI) := by
      rcases hown with ⟨_, he⟩ | h
      · have := congrArg List.length he
        simp [upFrom_len] at this; omega
      · exact h
    obtain ⟨a, cs', tot, hia, hb, hst, hown2⟩ := hown'.wr (k := .i64) (i := i) (by simp [upFrom_len]; omega) 0 (by omega) (.int .i64 (k + i)) rfl rfl
    rw [Nat.mul_one, Nat.add_zero] at hst
    rw [Nat.mul_one] at hia
    have w : IntKind.i64.wrap (k + i + 1) = k + ((i + 1 : Nat) : Int) := by rw [wrap_i64 (by omega) (by omega)]; simp; omega
    (try simp only [go_sem, ↓reduceIte, Nat.reduceEqDiff, reduceCtorEq, Nat.reduceAdd, Nat.reduceLeDiff, Nat.reduceSub, Nat.reduceMul, Int.reduceEq, Nat.reduceBEq, h0, h1, hTi, hia, hst, w])
    refine ⟨_, Hp.sub.refl _, fun c hc => by rw [set_ne hc]; exact ho c hc, .inr ?_, by (try simp only [go_sem, ↓reduceIte, Nat.reduceEqDiff, reduceCtorEq, Nat.reduceAdd, Nat.reduceLeDiff, Nat.reduceSub, Nat.reduceMul, Int.reduceEq, Nat.reduceBEq])⟩
    have e : ((upFrom k i ++ xs.drop i).map encI).set i ((((upFrom k i ++ xs.drop i).map encI).getD i []).set 0 (.int .i64 (k + i))) = (upFrom k (i + 1) ++ xs.drop (i + 1)).map encI := by
      have h2 : ((upFrom k i ++ xs.drop i).map encI).getD i [] = encI xs[i] := by
        rw [List.getD_eq_getElem?_getD, List.getElem?_map, List.getElem?_append_right (by rw [upFrom_len]; omega), upFrom_len]
        simp [hi]
      rw [h2]
      apply List.ext_getElem?
      intro j
      rw [List.getElem?_set]
      by_cases hj : i = j
      · subst hj
        rw [if_pos rfl, if_pos (by simp [upFrom_len]; omega), List.getElem?_map, List.getElem?_append_left (by rw [upFrom_len]; omega)]
        simp [upFrom, encI]
      · rw [if_neg hj, List.getElem?_map, List.getElem?_map]
        by_cases hj2 : j < i
        · rw [List.getElem?_append_left (by rw [upFrom_len]; omega), List.getElem?_append_left (by rw [upFrom_len]; omega)]
          simp [upFrom, List.getElem?_range, hj2, show j < i + 1 by omega]
        · rw [List.getElem?_append_right (by rw [upFrom_len]; omega), List.getElem?_append_right (by rw [upFrom_len]; omega), upFrom_len, upFrom_len, List.getElem?_drop, List.getElem?_drop, show i + (j - i) = i + 1 + (j - (i + 1)) by omega]
    rw [e] at hown2
    exact hown2
  · rintro T' H' hl' hoff hTi ⟨ho, hown, h1⟩
    (try simp only [go_sem, ↓reduceIte, Nat.reduceEqDiff, reduceCtorEq, Nat.reduceAdd, Nat.reduceLeDiff, Nat.reduceSub, Nat.reduceMul, Int.reduceEq, Nat.reduceBEq, h1])
    rw [List.drop_of_length_le (Nat.le_refl _), List.append_nil] at hown
    exact retQ_r1 (by (try simp only [go_sem, ↓reduceIte, Nat.reduceEqDiff, reduceCtorEq, Nat.reduceAdd, Nat.reduceLeDiff, Nat.reduceSub, Nat.reduceMul, Int.reduceEq, Nat.reduceBEq]) <;> rfl) _ (Hp.sub.refl _) (hK H' ho hown)
end Go.Proofs.Ytonmmfjagkgifaa
