/- The abstract calculus, eighteenth text: loops that count. -/
import Derived.Test.YtonmmfjagkgifaaGen
set_option linter.unusedVariables false
set_option linter.unusedSimpArgs false
namespace Go.Proofs.Ytonmmfjagkgifaa
open Go.RowKit

/-- for i := ..; i < len(s); i++ -/
def forB (b b1 i s t1 t2 t3 t4 t5 t6 : Nat) (body : AC) : AC :=
  .op ⟨some t1, none, .mv (.tmp i)⟩ (.op ⟨some t2, none, .mv (.tmp s)⟩ (.op ⟨some t3, none, .len false (.tmp t2)⟩ (.op ⟨some t4, none, .bin .lss (.tmp t1) (.tmp t3)⟩ (.cond (.tmp t4) .nil (.exit b) (.blk b1 body (.op ⟨some t5, none, .mv (.tmp i)⟩ (.op ⟨some t6, none, .bin .add (.tmp t5) (.const (.int .i64 1))⟩ (.op ⟨some i, none, .mv (.tmp t6)⟩ .nil))))))))
/-- for i := ..; i < n; i++ (or i <= n) -/
def forC (b b1 i t1 t4 : Nat) (o : BinOp) (bound : Operand) (t5 t6 : Nat) (body : AC) : AC :=
  .op ⟨some t1, none, .mv (.tmp i)⟩ (.op ⟨some t4, none, .bin o (.tmp t1) bound⟩ (.cond (.tmp t4) .nil (.exit b) (.blk b1 body (.op ⟨some t5, none, .mv (.tmp i)⟩ (.op ⟨some t6, none, .bin .add (.tmp t5) (.const (.int .i64 1))⟩ (.op ⟨some i, none, .mv (.tmp t6)⟩ .nil))))))
section
variable {P : Program}
def forQ (P : Program) (b b1 t5 t6 i : Nat) (n : Nat) (I : Nat → Tm → Hp → Prop) (k : AC) (Q : Ex → Tm → Hp → Prop) : Ex → Tm → Hp → Prop
  | .norm, T, H => ∃ H2, H2.sub H ∧ I (n + 1) (((T.put t5 (.int .i64 n)).put t6 (.int .i64 (n + 1 : Nat))).put i (.int .i64 (n + 1 : Nat))) H2
  | .exit id, T, H => if id = b1 then ∃ H2, H2.sub H ∧ I (n + 1) (((T.put t5 (.int .i64 n)).put t6 (.int .i64 (n + 1 : Nat))).put i (.int .i64 (n + 1 : Nat))) H2 else if id = b then aw P k T H Q else Q (.exit id) T H
  | .ret, T, H => Q .ret T H
theorem aw_forTail {b b1 t5 t6 i n N : Nat} {I : Nat → Tm → Hp → Prop} {body k : AC} {T : Tm} {H : Hp} {Q : Ex → Tm → Hp → Prop} (hl : Live H) (hn : n < N) (hN : N ≤ 9223372036854775807) (hTi : T i = .int .i64 n) (hmi : (mods body).contains i = false) (h5 : i ≠ t5) (hb : b1 ≠ b)
    (hs : aw P body T H (forQ P b b1 t5 t6 i n I k Q)) :
    aw P (.blk b1 body (.op ⟨some t5, none, .mv (.tmp i)⟩ (.op ⟨some t6, none, .bin .add (.tmp t5) (.const (.int .i64 1))⟩ (.op ⟨some i, none, .mv (.tmp t6)⟩ .nil)))) T H
      (lpQ (fun m T' H' => ∃ j, j ≤ N ∧ m = N - j ∧ T' i = .int .i64 j ∧ I j T' H') (N - n) (blkQ P b k Q)) := by
  rw [aw_blk]
  refine aw_mono body hl (fun e T2 H2 hl2 hq => ?_) (aw_mods body hl hs)
  obtain ⟨_, hoff2, hq⟩ := hq
  have hT2 : T2 i = .int .i64 n := by rw [hoff2.get hmi]; exact hTi
  have next : (∃ H3, H3.sub H2 ∧ I (n + 1) (((T2.put t5 (.int .i64 n)).put t6 (.int .i64 (n + 1 : Nat))).put i (.int .i64 (n + 1 : Nat))) H3) →
      aw P (.op ⟨some t5, none, .mv (.tmp i)⟩ (.op ⟨some t6, none, .bin .add (.tmp t5) (.const (.int .i64 1))⟩ (.op ⟨some i, none, .mv (.tmp t6)⟩ .nil))) T2 H2 (lpQ (fun m T' H' => ∃ j, j ≤ N ∧ m = N - j ∧ T' i = .int .i64 j ∧ I j T' H') (N - n) (blkQ P b k Q)) := by
    rintro ⟨H3, h3, hI3⟩
    have hadd : abin .add (ev (T2.put t5 (.int .i64 n)) (.tmp t5)) (ev (T2.put t5 (.int .i64 n)) (.const (.int .i64 1))) = some (.int .i64 ((n + 1 : Nat) : Int)) := by
      simp only [ev_tmp, ev_const, put_get, abin, if_true]
      rw [wrap_i64 (by omega) (by omega)]
      simp
    rw [aw_mv, ev_tmp, hT2, aw_bin _ _ _ _ (by rw [hadd]; rfl), hadd, aw_mv, aw_nil]
    simp only [Option.getD_some, ev_tmp, put_get, if_true]
    exact ⟨N - (n + 1), H3, by omega, h3, n + 1, by omega, rfl, by simp [put_get], hI3⟩
  cases e with
  | norm => exact next hq
  | ret => exact hq
  | exit id =>
    simp only [forQ] at hq
    by_cases h1 : id = b1
    · rw [if_pos h1] at hq
      subst h1
      rw [blkQ_exit_same]
      exact next hq
    · rw [if_neg h1] at hq
      rw [blkQ_exit_ne _ _ (by simpa using h1)]
      show lpQ _ _ _ (.exit id) T2 H2
      simp only [lpQ, blkQ]
      exact hq
theorem aw_forS {b b1 i s t1 t2 t3 t4 t5 t6 : Nat} {body k : AC} {T : Tm} {H : Hp} {Q : Ex → Tm → Hp → Prop} (hl : Live H) (N : Nat) (sv : Value) (hlen : vLen false sv = some (.int .i64 N)) (hN : N ≤ 9223372036854775807) (n0 : Nat) (hn0 : n0 ≤ N) (I : Nat → Tm → Hp → Prop) (H1 : Hp) (hsub : H1.sub H)
    (hti : T i = .int .i64 n0) (hts : T s = sv) (h0 : I n0 T H1)
    (hms : (mods (forB b b1 i s t1 t2 t3 t4 t5 t6 body)).contains s = false) (hmi : (mods body).contains i = false) (h1 : i ≠ t1 ∧ i ≠ t2 ∧ i ≠ t3 ∧ i ≠ t4 ∧ i ≠ t5) (h2 : t1 ≠ t2 ∧ t1 ≠ t3) (hb : b1 ≠ b) (hst : s ≠ t1)
    (hstep : ∀ n T' H', n < N → Live H' → Off (mods (forB b b1 i s t1 t2 t3 t4 t5 t6 body)) T' T → T' i = .int .i64 n → I n T' H' → aw P body ((((T'.put t1 (.int .i64 n)).put t2 sv).put t3 (.int .i64 N)).put t4 (.bool true)) H' (forQ P b b1 t5 t6 i n I k Q))
    (hend : ∀ T' H', Live H' → Off (mods (forB b b1 i s t1 t2 t3 t4 t5 t6 body)) T' T → T' i = .int .i64 N → I N T' H' → aw P k ((((T'.put t1 (.int .i64 N)).put t2 sv).put t3 (.int .i64 N)).put t4 (.bool false)) H' Q) :
    aw P (.loop (forB b b1 i s t1 t2 t3 t4 t5 t6 body)) T H (blkQ P b k Q) := by
  refine aw_loopM hl (fun m T' H' => ∃ j, j ≤ N ∧ m = N - j ∧ T' i = .int .i64 j ∧ I j T' H') (N - n0) H1 hsub ⟨n0, hn0, rfl, hti, h0⟩ ?_
  rintro m T' H' hl' hoff ⟨n, hn, rfl, hTi, hI⟩
  have hTs : T' s = sv := by rw [hoff.get hms]; exact hts
  unfold forB
  rw [aw_mv, ev_tmp, hTi, aw_mv, ev_tmp, put_get, if_neg hst, hTs]
  have hL : vLen false (ev ((T'.put t1 (.int .i64 n)).put t2 sv) (.tmp t2)) = some (.int .i64 N) := by simp [ev_tmp, put_get, hlen]
  rw [aw_len _ _ _ (by rw [hL]; rfl), hL, Option.getD_some]
  have hlss : abin .lss (ev (((T'.put t1 (.int .i64 n)).put t2 sv).put t3 (.int .i64 N)) (.tmp t1)) (ev (((T'.put t1 (.int .i64 n)).put t2 sv).put t3 (.int .i64 N)) (.tmp t3)) = some (.bool (decide ((n : Int) < (N : Int)))) := by
    simp [ev_tmp, put_get, h2.1, h2.2, abin]
  rw [aw_bin _ _ _ _ (by rw [hlss]; rfl), hlss, Option.getD_some]
  by_cases hlt : n < N
  · have hd : decide ((n : Int) < (N : Int)) = true := by simp; omega
    rw [hd, aw_cond_t _ _ _ (by simp [ev_tmp, put_get]), aw_nil, seqQ_norm]
    exact aw_forTail hl' hlt hN (by simp only [put_get]; rw [if_neg h1.2.2.2.1, if_neg h1.2.2.1, if_neg h1.2.1, if_neg h1.1]; exact hTi) hmi h1.2.2.2.2 hb (hstep n T' H' hlt hl' hoff hTi hI)
  · have hiN : n = N := by omega
    subst hiN
    have hd : decide ((n : Int) < (n : Int)) = false := by simp
    rw [hd, aw_cond_f _ _ _ (by simp [ev_tmp, put_get]), aw_exit, seqQ_exit]
    show lpQ _ _ _ (.exit b) _ _
    simp only [lpQ]
    rw [blkQ_exit_same]
    exact hend T' H' hl' hoff hTi hI
theorem aw_forN {b b1 i t1 t4 t5 t6 : Nat} {o : BinOp} {bound : Operand} {body k : AC} {T : Tm} {H : Hp} {Q : Ex → Tm → Hp → Prop} (hl : Live H) (N : Nat) (hN : N ≤ 9223372036854775807) (n0 : Nat) (hn0 : n0 ≤ N) (I : Nat → Tm → Hp → Prop) (H1 : Hp) (hsub : H1.sub H)
    (hti : T i = .int .i64 n0) (h0 : I n0 T H1)
    (hcmp : ∀ n T', n ≤ N → Off (mods (forC b b1 i t1 t4 o bound t5 t6 body)) T' T → abin o (.int .i64 (n : Nat)) (ev (T'.put t1 (.int .i64 (n : Nat))) bound) = some (.bool (decide (n < N))))
    (hmi : (mods body).contains i = false) (h1 : i ≠ t1 ∧ i ≠ t4 ∧ i ≠ t5) (hb : b1 ≠ b)
    (hstep : ∀ n T' H', n < N → Live H' → Off (mods (forC b b1 i t1 t4 o bound t5 t6 body)) T' T → T' i = .int .i64 n → I n T' H' → aw P body ((T'.put t1 (.int .i64 n)).put t4 (.bool true)) H' (forQ P b b1 t5 t6 i n I k Q))
    (hend : ∀ T' H', Live H' → Off (mods (forC b b1 i t1 t4 o bound t5 t6 body)) T' T → T' i = .int .i64 N → I N T' H' → aw P k ((T'.put t1 (.int .i64 N)).put t4 (.bool false)) H' Q) :
    aw P (.loop (forC b b1 i t1 t4 o bound t5 t6 body)) T H (blkQ P b k Q) := by
  refine aw_loopM hl (fun m T' H' => ∃ j, j ≤ N ∧ m = N - j ∧ T' i = .int .i64 j ∧ I j T' H') (N - n0) H1 hsub ⟨n0, hn0, rfl, hti, h0⟩ ?_
  rintro m T' H' hl' hoff ⟨n, hn, rfl, hTi, hI⟩
  unfold forC
  rw [aw_mv, ev_tmp, hTi]
  have hlss : abin o (ev (T'.put t1 (.int .i64 n)) (.tmp t1)) (ev (T'.put t1 (.int .i64 n)) bound) = some (.bool (decide (n < N))) := by
    rw [← hcmp n T' hn hoff]; simp [ev_tmp, put_get]
  rw [aw_bin _ _ _ _ (by rw [hlss]; rfl), hlss, Option.getD_some]
  by_cases hlt : n < N
  · have hd : decide (n < N) = true := by simp [hlt]
    rw [hd, aw_cond_t _ _ _ (by simp [ev_tmp, put_get]), aw_nil, seqQ_norm]
    exact aw_forTail hl' hlt hN (by simp only [put_get]; rw [if_neg h1.2.1, if_neg h1.1]; exact hTi) hmi h1.2.2 hb (hstep n T' H' hlt hl' hoff hTi hI)
  · have hiN : n = N := by omega
    subst hiN
    have hd : decide (n < n) = false := by simp
    rw [hd, aw_cond_f _ _ _ (by simp [ev_tmp, put_get]), aw_exit, seqQ_exit]
    show lpQ _ _ _ (.exit b) _ _
    simp only [lpQ]
    rw [blkQ_exit_same]
    exact hend T' H' hl' hoff hTi hI
/-- for i := range n, range array: the bound is any operand. -/
def rngO (b b1 t1 t2 ti : Nat) (bd : Operand) (inner : AC) : AC :=
  .op ⟨some t1, none, .bin .lss (.tmp ti) bd⟩ (.cond (.tmp t1) .nil (.exit b) (.blk b1 inner (.op ⟨some t2, none, .bin .add (.tmp ti) (.const (.int .i64 1))⟩ (.op ⟨some ti, none, .mv (.tmp t2)⟩ .nil))))
theorem aw_rangeO {b b1 t1 t2 ti : Nat} {bd : Operand} {inner k : AC} {T : Tm} {H : Hp} {Q : Ex → Tm → Hp → Prop} (hl : Live H) (N : Nat) (hN : N ≤ 9223372036854775806) (I : Nat → Tm → Hp → Prop) (H1 : Hp) (hsub : H1.sub H)
    (hti : T ti = .int .i64 (0 : Nat)) (h0 : I 0 T H1)
    (hbd : ∀ T', Off (mods (rngO b b1 t1 t2 ti bd inner)) T' T → ev T' bd = .int .i64 N) (hmi : (mods inner).contains ti = false) (hne : ti ≠ t1) (hb : b1 ≠ b)
    (hstep : ∀ i T' H', i < N → Live H' → Off (mods (rngO b b1 t1 t2 ti bd inner)) T' T → T' ti = .int .i64 i → I i T' H' → aw P inner (T'.put t1 (.bool true)) H' (rngQ P b b1 t2 ti i I k Q))
    (hend : ∀ T' H', Live H' → Off (mods (rngO b b1 t1 t2 ti bd inner)) T' T → T' ti = .int .i64 N → I N T' H' → aw P k (T'.put t1 (.bool false)) H' Q) :
    aw P (.loop (rngO b b1 t1 t2 ti bd inner)) T H (blkQ P b k Q) := by
  refine aw_loopM hl (fun n T' H' => ∃ i, i ≤ N ∧ n = N - i ∧ T' ti = .int .i64 i ∧ I i T' H') N H1 hsub ⟨0, Nat.zero_le _, rfl, hti, h0⟩ ?_
  rintro n T' H' hl' hoff ⟨i, hi, rfl, hTi, hI⟩
  have hTn := hbd T' hoff
  have hlss : (abin .lss (ev T' (.tmp ti)) (ev T' bd)) = some (.bool (decide ((i : Int) < (N : Int)))) := by
    simp [ev_tmp, hTi, hTn, abin]
  unfold rngO
  rw [aw_bin _ _ _ _ (by rw [hlss]; rfl), hlss]
  simp only [Option.getD_some]
  by_cases hlt : i < N
  · have hd : decide ((i : Int) < (N : Int)) = true := by simp; omega
    rw [hd, aw_cond_t _ _ _ (by simp [ev_tmp, put_get]), aw_nil, seqQ_norm, aw_blk]
    have hs := aw_mods inner hl' (hstep i T' H' hlt hl' hoff hTi hI)
    refine aw_mono inner hl' (fun e T2 H2 hl2 hq => ?_) hs
    obtain ⟨_, hoff2, hq⟩ := hq
    have hT2 : T2 ti = .int .i64 i := by rw [hoff2.get hmi, put_get, if_neg hne]; exact hTi
    have hadd : abin .add (ev T2 (.tmp ti)) (ev T2 (.const (.int .i64 1))) = some (.int .i64 ((i + 1 : Nat) : Int)) := by
      simp only [ev_tmp, ev_const, hT2, abin, if_true]
      rw [wrap_i64 (by omega) (by omega)]
      simp
    have next : (∃ H3, H3.sub H2 ∧ I (i + 1) ((T2.put t2 (.int .i64 (i + 1 : Nat))).put ti (.int .i64 (i + 1 : Nat))) H3) →
        aw P (.op ⟨some t2, none, .bin .add (.tmp ti) (.const (.int .i64 1))⟩ (.op ⟨some ti, none, .mv (.tmp t2)⟩ .nil)) T2 H2 (lpQ (fun n T' H' => ∃ i, i ≤ N ∧ n = N - i ∧ T' ti = .int .i64 i ∧ I i T' H') (N - i) (blkQ P b k Q)) := by
      rintro ⟨H3, h3, hI3⟩
      rw [aw_bin _ _ _ _ (by rw [hadd]; rfl), hadd, aw_mv, aw_nil]
      simp only [Option.getD_some, ev_tmp, put_get, if_true]
      exact ⟨N - (i + 1), H3, by omega, h3, i + 1, by omega, rfl, by simp [put_get], hI3⟩
    cases e with
    | norm => exact next hq
    | ret => exact hq
    | exit id =>
      simp only [rngQ] at hq
      by_cases h1 : id = b1
      · rw [if_pos h1] at hq
        subst h1
        rw [blkQ_exit_same]
        exact next hq
      · rw [if_neg h1] at hq
        rw [blkQ_exit_ne _ _ (by simpa using h1)]
        show lpQ _ _ _ (.exit id) T2 H2
        simp only [lpQ, blkQ]
        exact hq
  · have hiN : i = N := by omega
    subst hiN
    have hd : decide ((i : Int) < (i : Int)) = false := by simp
    rw [hd, aw_cond_f _ _ _ (by simp [ev_tmp, put_get]), aw_exit, seqQ_exit]
    show lpQ _ _ _ (.exit b) _ _
    simp only [lpQ]
    rw [blkQ_exit_same]
    exact hend T' H' hl' hoff hTi hI
end
end Go.Proofs.Ytonmmfjagkgifaa
