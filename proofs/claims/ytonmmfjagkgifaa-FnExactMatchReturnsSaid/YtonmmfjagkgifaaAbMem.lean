/- The abstract calculus, fifth text: operations that look at memory, make it or write it. -/
import Derived.Test.YtonmmfjagkgifaaAbVal2
set_option linter.unusedVariables false
set_option linter.unusedSimpArgs false
namespace Go.Proofs.Ytonmmfjagkgifaa
open Go.RowKit

/-! ### worlds and facts -/
theorem Hp.set_same (H : Hp) (b : Nat) (o : AObj) : (H.set b o) b = some o := by simp [Hp.set]
theorem Hp.set_other (H : Hp) {b b' : Nat} (o : AObj) (h : b' ≠ b) : (H.set b o) b' = H b' := by simp [Hp.set, h]

theorem cell_add (w : World) (a : Addr) (j : Nat) {c : Array Value} {t : TypeId} {fr : Nat × Nat} (hs : a.spot = none) (h : w.heap[a.block]? = some (.cells c t fr)) : w.cell? (a.add j) = c[a.off + j]? := by
  obtain ⟨b, off, spot⟩ := a
  simp only at hs h
  subst hs
  unfold Addr.add
  split
  · rename_i h0; subst h0; simp [World.cell?, h]
  · simp [World.cell?, h]

/-- What is read of known cells lies in the world. -/
theorem Sat.rd {H : Hp} {w : World} (h : Sat H w) {a : Addr} {k : Nat} {cs : List Value} (hr : H.rd a k = some cs) :
    cs.length = k ∧ ∀ j v, cs[j]? = some v → w.cell? (a.add j) = some v := by
  unfold Hp.rd at hr
  split at hr
  · rename_i own ty xs tot hb
    split at hr
    · rename_i hc
      simp only [Option.some.injEq] at hr
      subst hr
      obtain ⟨c, fr, sp, h1, h2, h3, h4⟩ := h _ _ hb
      refine ⟨by simp; omega, fun j v hj => ?_⟩
      rw [cell_add w a j hc.1 h1, ← Array.getElem?_toList, h2]
      rw [List.getElem?_take] at hj
      split at hj
      · rw [List.getElem?_drop] at hj
        rw [List.getElem?_append_left (by omega)]
        exact hj
      · cases hj
    · cases hr
  · cases hr

/-- A new block. -/
theorem Sat.alloc {H : Hp} {w : World} (h : Sat H w) (c : Array Value) (ty : TypeId) (xs sp : List Value) (hc : c.toList = xs ++ sp) : Sat (H.set w.heap.size (.row true ty xs c.size)) (w.alloc (.cells c ty)) := by
  intro b o hb
  unfold Hp.set at hb
  split at hb
  · rename_i e
    subst e
    simp only [Option.some.injEq] at hb
    subst hb
    exact ⟨c, (0, 0), sp, heap_alloc_new w _, hc, rfl, fun _ => rfl⟩
  · rename_i hne
    have hlt : b < w.heap.size := h.lt (by rw [hb]; simp)
    have := h b o hb
    cases o with
    | row own ty xs tot =>
      obtain ⟨c', fr, sp', h1, h2⟩ := this
      exact ⟨c', fr, sp', by rw [heap_alloc_old w _ b hlt]; exact h1, h2⟩
    | raw o => show _ = _; rw [heap_alloc_old w _ b hlt]; exact this
theorem Sat.fresh {H : Hp} {w : World} (h : Sat H w) : H w.heap.size = none := by
  cases e : H w.heap.size with
  | none => rfl
  | some o => exact absurd (h.lt (b := w.heap.size) (by rw [e]; simp)) (by omega)
theorem Keeps.alloc {H0 H : Hp} {w0 w : World} (h : Keeps H0 w0 H w) (ob : Obj) (o : AObj) : Keeps H0 w0 (H.set w.heap.size o) (w.alloc ob) where
  os := h.os
  tape := h.tape
  output := h.output
  size := by have := h.size; simp; omega
  block b hb hw := by rw [heap_alloc_old w _ b (Nat.lt_of_lt_of_le hb h.size)]; exact h.block b hb hw
  dom b hb := by
    by_cases e : b = w.heap.size
    · exact .inr (by rw [e]; exact h.size)
    · rw [Hp.set_other H o e] at hb; exact h.dom b hb
  wr b hb := by
    by_cases e : b = w.heap.size
    · exact .inr (by rw [e]; exact h.size)
    · unfold wrAt at hb; rw [Hp.set_other H o e] at hb; exact h.wr b hb
theorem Sat.drew {H : Hp} {w : World} (h : Sat H w) : Sat H w.drew := fun b o hb => by
  have := h b o hb
  cases o <;> exact this
theorem Keeps.drew {H0 H : Hp} {w0 w : World} (h : Keeps H0 w0 H w) : Keeps H0 w0 H w.drew := ⟨h.os, h.tape, h.output, h.size, h.block, h.dom, h.wr⟩

/-- A block of the call's own is written. -/
theorem Sat.setRow {H : Hp} {w : World} (h : Sat H w) {b : Nat} {ty : TypeId} {xs : List Value} {tot : Nat} (hb : H b = some (.row true ty xs tot)) (c' : Array Value) (xs' sp : List Value)
    (hc : c'.toList = xs' ++ sp) (hs : c'.size = tot) : Sat (H.set b (.row true ty xs' tot)) (w.setRow b c') := by
  obtain ⟨c, fr, sp0, h1, h2, h3, h4⟩ := h b _ hb
  intro b2 o hb2
  unfold Hp.set at hb2
  split at hb2
  · rename_i e
    subst e
    simp only [Option.some.injEq] at hb2
    subst hb2
    exact ⟨c', fr, sp, setRow_heap w b2 c c' ty fr h1, hc, hs, h4⟩
  · rename_i hne
    have := h b2 o hb2
    cases o with
    | row own ty xs tot =>
      obtain ⟨c2, fr2, sp2, h1, h2⟩ := this
      exact ⟨c2, fr2, sp2, by rw [setRow_other w b b2 c' hne]; exact h1, h2⟩
    | raw o => show _ = _; rw [setRow_other w b b2 c' hne]; exact this
theorem Keeps.setRow {H0 H : Hp} {w0 w : World} (h : Keeps H0 w0 H w) {b : Nat} {ty : TypeId} {xs xs' : List Value} {tot tot' : Nat} (hb : H b = some (.row true ty xs tot)) (c' : Array Value) :
    Keeps H0 w0 (H.set b (.row true ty xs' tot')) (w.setRow b c') where
  os := h.os
  tape := h.tape
  output := h.output
  size := by simp; exact h.size
  block b2 hb2 hw := by
    by_cases e : b2 = b
    · subst e
      rcases h.wr b2 (by simp [wrAt, hb, AObj.wr]) with h1 | h1
      · rw [hw] at h1; cases h1
      · omega
    · rw [setRow_other w b b2 c' e]; exact h.block b2 hb2 hw
  dom b2 hb2 := by
    by_cases e : b2 = b
    · subst e; exact h.dom b2 (by rw [hb]; simp)
    · rw [Hp.set_other H _ e] at hb2; exact h.dom b2 hb2
  wr b2 hb2 := by
    by_cases e : b2 = b
    · subst e; exact h.wr b2 (by simp [wrAt, hb, AObj.wr])
    · unfold wrAt at hb2; rw [Hp.set_other H _ e] at hb2; exact h.wr b2 hb2

section
variable {P : Program} {T : Tm}

theorem load_sound {t : TypeId} {g : Bool} {s : Nat} {H : Hp} {w : World} {v p : Value} (hg : aggT P t = some g) (hs : sizeT P t = some s) (h1 : (g || s == 1) = true) (h : Sat H w)
    (hv : aload H g s p = some v) : (Instr.loadAt t p).run P w = .ok v w := by
  unfold aload at hv
  split at hv
  · rename_i a
    simp only [Option.bind_eq_some_iff] at hv
    obtain ⟨cs, hr, ha⟩ := hv
    obtain ⟨hl, hc⟩ := h.rd hr
    unfold apart at ha
    by_cases hl2 : cs.length = s
    · rw [if_pos hl2] at ha
      cases g with
      | true =>
        simp only [if_true, Option.some.injEq] at ha
        subst ha
        have hlc := run_loadCells_list (P := P) w a cs hc
        rw [hl] at hlc
        simp only [Instr.loadAt, Instr.sureAddr, Sem.run_bind, Sem.run_pure, Result.andThen_ok, loadVar, run_aggT hg, if_true, run_sizeT hs, hlc]
      | false =>
        simp at h1
        subst h1
        simp only [Bool.false_eq_true, if_false] at ha
        have h0 : cs[0]? = some v := by rw [← ha]; cases cs <;> rfl
        have hc0 := hc 0 v h0
        rw [add_zero_addr] at hc0
        simp [Instr.loadAt, Instr.sureAddr, loadVar, run_aggT hg, hc0]
    · rw [if_neg hl2] at ha; cases ha
  · cases hv

/-- What an operation that makes or writes memory comes to. -/
def Does (P : Program) (s : Sem Value) (H0 H : Hp) (w0 w : World) (K : Value → Hp → Prop) : Prop :=
  ∃ v w' H', s.run P w = .ok v w' ∧ Sat H' w' ∧ Keeps H0 w0 H' w' ∧ K v H'

theorem store_sound {t : TypeId} {s : Nat} {H0 H H' : Hp} {w0 w : World} {p v : Value} (hs : sizeT P t = some s) (h : Sat H w) (hk : Keeps H0 w0 H w)
    (hv : astore H s p v = some H') : ∃ w', (Instr.storeAt t p v).run P w = .ok () w' ∧ Sat H' w' ∧ Keeps H0 w0 H' w' := by
  unfold astore at hv
  split at hv
  · rename_i b off
    split at hv
    · rename_i ty xs tot hb
      split at hv
      · rename_i hc
        obtain ⟨h1, h2, h3⟩ := hc
        simp only [Option.some.injEq] at hv
        subst hv
        obtain ⟨c, fr, sp, g1, g2, g3, g4⟩ := h b _ hb
        have hfr := g4 rfl
        subst hfr
        have hlen : c.size = xs.length + sp.length := by rw [← Array.length_toList, g2]; simp
        have hst := run_storeCells_at P b off ty v.cells.toList 0 c w g1 (by simp only [Array.length_toList]; omega) (fun u hu => List.all_eq_true.1 h2 u hu)
        simp only [Nat.add_zero] at hst
        refine ⟨w.setRow b (c.toList.take off ++ v.cells.toList ++ c.toList.drop (off + v.cells.toList.length)).toArray, ?_, ?_, Keeps.setRow hk hb _⟩
        · simp only [Instr.storeAt, Instr.sureAddr, Sem.run_bind, Sem.run_pure, Result.andThen_ok, storeVar, run_sizeT hs, h1, ne_eq, not_true_eq_false, if_false, hst]
        · refine Sat.setRow h hb _ _ (sp) ?_ ?_
          · simp only [splice, g2, Array.length_toList]
            rw [List.take_append_of_le_length (by omega), List.drop_append_of_le_length (by omega)]
            simp
          · simp only [List.size_toArray, List.length_append, List.length_take, List.length_drop, Array.length_toList]
            omega
      · cases hv
    · cases hv
  · cases hv

theorem alloc_sound {e : TypeId} {z : List Value} {H0 H : Hp} {w0 w : World} {K : Value → Hp → Prop} (hz : zeroT P e = some z) (h : Sat H w) (hk : Keeps H0 w0 H w)
    (hK : ∀ b, H b = none → K (.pointer (some ⟨b, 0, none⟩)) (H.set b (.row true e z z.length))) : Does P (Instr.alloc e true (.tuple #[])) H0 H w0 w K := by
  obtain ⟨zv, hr, hc⟩ := run_zeroT hz w
  have hs := Sat.alloc h zv.cells e z [] (by simp [hc])
  have hsz : zv.cells.size = z.length := by rw [← hc]; simp
  rw [hsz] at hs
  refine ⟨_, w.alloc (.cells zv.cells e), _, ?_, hs, hk.alloc _ _, hK _ h.fresh⟩
  simp [Instr.alloc, hr, newVar, newRow]
theorem box_sound {e : TypeId} {v : Value} {H0 H : Hp} {w0 w : World} {K : Value → Hp → Prop} (h : Sat H w) (hk : Keeps H0 w0 H w)
    (hK : ∀ b, H b = none → K (.pointer (some ⟨b, 0, none⟩)) (H.set b (.row true e (valCells v) (valCells v).length))) : Does P (Instr.box e v) H0 H w0 w K := by
  have hs := Sat.alloc h v.cells e (valCells v) [] (by simp [valCells])
  have hsz : v.cells.size = (valCells v).length := by simp [valCells]
  rw [hsz] at hs
  refine ⟨_, w.alloc (.cells v.cells e), _, ?_, hs, hk.alloc _ _, hK _ h.fresh⟩
  simp [Instr.box, newVar, newRow]

theorem range_rep (z : Array Value) (n : Nat) : ((Array.range (n * z.size)).map (fun i => z[i % z.size]!)).toList = repZero z.toList n := by
  induction n with
  | zero => simp [repZero]
  | succ n ih =>
    have : repZero z.toList (n + 1) = repZero z.toList n ++ z.toList := by simp [repZero, List.replicate_succ']
    rw [this, ← ih]
    simp only [Array.toList_map, Array.toList_range, Nat.succ_mul]
    rw [List.range_add, List.map_append]
    congr 1
    apply List.ext_getElem
    · simp
    · intro i h1 h2
      simp only [List.length_map, List.length_range] at h1
      simp [Nat.add_mod, Nat.mod_eq_of_lt h1, h1]

theorem buildSlice_sound {t e : TypeId} {ln : Nat} {parts : Array (Nat × Operand)} {ps : List (Nat × Nat × Operand)} {vs : List (Nat × List Value)} {cs : List Value} {i : TypeInfo} {z : Value} {H0 H : Hp} {w0 w : World} {K : Value → Hp → Prop}
    (hu : P.underlying t = some (.slice e)) (hi : P.info? e = some i) (hz : i.zero = some z) (hzs : z.cells.size = i.size) (hpos : 0 < i.size) (hmax : ln * i.size ≤ 16777216)
    (hp : prepParts (fun j => some (j * i.size, i.size)) parts.toList = some ps) (hv : aparts T ps = some vs) (hf : afill (repZero z.cells.toList ln) vs = some cs) (h : Sat H w) (hk : Keeps H0 w0 H w)
    (hK : ∀ b, H b = none → K (.slice (some ⟨b, 0, none⟩) ln ln) (H.set b (.row true e cs cs.length))) :
    Does P (Instr.buildSlice t ln (parts.map fun p => (p.1, ev T p.2))) H0 H w0 w K := by
  have hfill := run_fill (T := T) (fun j => some (j * i.size, i.size)) parts.toList ps vs ((Array.range (ln * i.size)).map (fun j => z.cells[j % z.cells.size]!)) cs hp hv (by rw [← hzs, range_rep]; exact hf)
  have hs := Sat.alloc h cs.toArray e cs [] (by simp)
  refine ⟨_, w.alloc (.cells cs.toArray e), _, ?_, hs, hk.alloc _ _, hK _ h.fresh⟩
  have hm : ¬ (16777216 < ln * i.size) := by omega
  by_cases h0 : ln * i.size = 0
  · have hln : ln = 0 := by
      rcases Nat.mul_eq_zero.1 h0 with h1 | h1
      · exact h1
      · omega
    subst hln
    have hrg : Array.range 0 = #[] := rfl
    have hr0 : ((Array.range (0 * i.size)).map (fun j => z.cells[j % z.cells.size]!)) = #[] := by simp [hrg]
    rw [hr0] at hfill
    simp only [Instr.buildSlice, Sem.run_bind, run_underlying hu, Result.andThen_ok, sizeOf, typeInfo, run_program, hi, Sem.run_pure, Array.toList_map]
    simp only [Nat.zero_mul] at hfill ⊢
    simp [hfill, newRow, hrg]
  · simp only [Instr.buildSlice, Sem.run_bind, run_underlying hu, Result.andThen_ok, sizeOf, typeInfo, run_program, hi, Sem.run_pure, Array.toList_map]
    simp [hm, h0, zeroValue, typeInfo, hi, hz, hfill, newRow]

theorem makeSlice_sound {t e : TypeId} {i : TypeInfo} {z : Value} {kl kc : IntKind} {l c : Int} {H0 H : Hp} {w0 w : World} {K : Value → Hp → Prop}
    (hu : P.underlying t = some (.slice e)) (hi : P.info? e = some i) (hz : i.zero = some z) (hzs : z.cells.size = i.size)
    (h0 : 0 ≤ l) (hlc : l ≤ c) (hb : (i.bytes : Int) * c ≤ 281474976710656) (h63 : c ≤ 9223372036854775807) (h : Sat H w) (hk : Keeps H0 w0 H w)
    (hK : ∀ b, H b = none → K (.slice (some ⟨b, 0, none⟩) l.toNat c.toNat) (H.set b (.row true e (repZero z.cells.toList c.toNat) (c.toNat * z.cells.toList.length)))) :
    Does P (Instr.makeSlice t (.int kl l) (.int kc c)) H0 H w0 w K := by
  have hr := run_make (P := P) w t e i z hu hi hz kl kc l c h0 hlc hb h63
  have hs := Sat.alloc h (madeCells z.cells (c.toNat * i.size)) e (repZero z.cells.toList c.toNat) [] (by
    simp only [List.append_nil]; rw [← hzs]; exact range_rep z.cells c.toNat)
  have hsz : (madeCells z.cells (c.toNat * i.size)).size = c.toNat * z.cells.toList.length := by rw [size_madeCells]; simp [hzs]
  rw [hsz] at hs
  exact ⟨_, _, _, hr, hs, hk.alloc _ _, hK _ h.fresh⟩

theorem anew_sound {sz : Nat} {H : Hp} {w : World} {x : Value} {n : Nat} {new : List Value} (h : Sat H w) (hx : anew H sz x = some (n, new)) :
    new.length = n * sz ∧ ∀ w', w'.heap = w.heap → ((Builtin.lenOf x).run P w' = .ok n w' ∧ (Builtin.firstCells sz n x).run P w' = .ok new.toArray w') := by
  unfold anew at hx
  split at hx
  · rename_i a m cp
    split at hx
    · rename_i h0
      simp only [Option.some.injEq, Prod.mk.injEq] at hx
      obtain ⟨rfl, rfl⟩ := hx
      exact ⟨by simp [h0], fun w' _ => ⟨by simp [Builtin.lenOf], by simp [Builtin.firstCells, h0, loadCells, loadCellsFrom]⟩⟩
    · simp only [Option.map_eq_some_iff, Prod.mk.injEq] at hx
      obtain ⟨cs, hr, rfl, rfl⟩ := hx
      obtain ⟨hl, hc⟩ := h.rd hr
      refine ⟨hl, fun w' he => ⟨by simp [Builtin.lenOf], run_firstCells_some w' sz m a m cp cs hl fun j v hj => ?_⟩⟩
      have := hc j v hj
      simpa [World.cell?, he] using this
  · rename_i cp
    simp only [Option.some.injEq, Prod.mk.injEq] at hx
    obtain ⟨rfl, rfl⟩ := hx
    exact ⟨by simp, fun w' _ => ⟨by simp [Builtin.lenOf], by simp [Builtin.firstCells]⟩⟩
  · cases hx

theorem append_sound {t ty e : TypeId} {i : TypeInfo} {z : Value} {s x : Value} {H0 H : Hp} {w0 w : World} {K : Value → Hp → Prop}
    (hu : P.underlying t = some (.slice e)) (hi : P.info? e = some i) (hz : i.zero = some z) (hzs : z.cells.size = i.size) (hpos : 0 < i.size) (h : Sat H w) (hk : Keeps H0 w0 H w)
    (ha : aappend e i.size i.bytes H s x K) : Does P (Builtin.append_ #[t, t] ty #[s, x]) H0 H w0 w K := by
  obtain ⟨n, new, hx, h1, ha⟩ := ha
  obtain ⟨hl, hrun⟩ := anew_sound (P := P) h hx
  have h1' : ∀ u ∈ new, u.oneCell' = true := fun u hu => List.all_eq_true.1 h1 u hu
  split at ha
  · obtain ⟨ha0, ha1⟩ := ha
    by_cases hn : n = 0
    · subst hn
      refine ⟨.slice none 0 0, w, H, ?_, h, hk, ha0 rfl⟩
      obtain ⟨r1, r2⟩ := hrun w rfl
      simp [Builtin.append_, run_underlying hu, sizeOf, typeInfo, hi, r1, r2]
    · obtain ⟨hb, h63, hK⟩ := ha1 (by omega)
      obtain ⟨r1, _⟩ := hrun w rfl
      obtain ⟨_, r2⟩ := hrun w.drew rfl
      have h63' : ¬ (9223372036854775807 < (n : Int)) := by omega
      have h48' : ¬ (281474976710656 < Builtin.nextslicecap n 0 * i.bytes) := by rw [nextslicecap_zero (by omega)]; omega
      have hr : (Builtin.append_ #[t, t] ty #[.slice none 0 0, x]).run P w = .ok (.slice (some ⟨w.heap.size, 0, none⟩) n (grownCap w n 0 e)) (w.drew.alloc (.cells (new.toArray ++ Builtin.zeroCells z.cells (grownCap w n 0 e - n)) e)) := by
        simp [Builtin.append_, run_underlying hu, sizeOf, typeInfo, zeroValue, hi, hz, r1, hn, h63', h48', Question.forced, run_firstCells_none, r2, newRow, grownCap]
      have hs := Sat.alloc h.drew (new.toArray ++ Builtin.zeroCells z.cells (grownCap w n 0 e - n)) e new (Builtin.zeroCells z.cells (grownCap w n 0 e - n)).toList (by simp)
      have hge := grownCap_ge w n 0 e
      have hsz : (new.toArray ++ Builtin.zeroCells z.cells (grownCap w n 0 e - n)).size = grownCap w n 0 e * i.size := by
        simp only [Array.size_append, List.size_toArray, size_zeroCells, hzs, hl, ← Nat.add_mul]
        congr 1; omega
      rw [hsz] at hs
      exact ⟨_, _, _, hr, hs, hk.drew.alloc _ _, hK _ _ h.fresh hge⟩
  · rename_i b ln cp
    obtain ⟨xs, tot, hb, hle, hby, h63, hin, hgr⟩ := ha
    obtain ⟨c, fr, sp, g1, g2, g3, g4⟩ := h b _ hb
    have hfr := g4 rfl
    subst hfr
    have hclen : c.size = xs.length + sp.length := by rw [← Array.length_toList, g2]; simp
    by_cases hroom : ln + n ≤ cp
    · obtain ⟨hct, hK⟩ := hin hroom
      obtain ⟨r1, r2⟩ := hrun w rfl
      have hfit : ln * i.size + new.length ≤ c.size := by
        rw [hl, g3, ← Nat.add_mul]; exact Nat.le_trans (Nat.mul_le_mul_right _ hroom) hct
      have hst := run_storeCells_at P b (ln * i.size) e new 0 c w g1 (by omega) h1'
      simp only [Nat.add_zero] at hst
      refine ⟨_, w.setRow b (c.toList.take (ln * i.size) ++ new ++ c.toList.drop (ln * i.size + new.length)).toArray, _, ?_, ?_, Keeps.setRow hk hb _, hK⟩
      · simp [Builtin.append_, run_underlying hu, sizeOf, typeInfo, hi, r1, hroom, r2, Addr.add_lit, hst]
      · refine Sat.setRow h hb _ _ (sp.drop (ln * i.size + new.length - xs.length)) ?_ ?_
        · simp only [splice, g2]
          rw [List.take_append_of_le_length hle]
          rw [List.drop_append]
          simp
        · simp only [List.size_toArray, List.length_append, List.length_take, List.length_drop, Array.length_toList]
          omega
    · have hlt : cp < ln + n := by omega
      have hK := hgr hlt
      obtain ⟨r1, _⟩ := hrun w rfl
      obtain ⟨_, r2⟩ := hrun w.drew rfl
      have hn : ¬ (ln + n ≤ cp) := by omega
      have h63' : ¬ (9223372036854775807 < ((ln : Int) + (n : Int))) := by omega
      have hfit := growslice_fits hlt hby
      have h48' : ¬ (281474976710656 < Builtin.nextslicecap (ln + n) cp * i.bytes) := by omega
      have holds : ∀ j v, (xs.take (ln * i.size))[j]? = some v → w.drew.cell? ((⟨b, 0, none⟩ : Addr).add j) = some v := by
        intro j v hj
        rw [World.cell?_drew, cell_add w ⟨b, 0, none⟩ j rfl g1, ← Array.getElem?_toList, g2]
        rw [List.getElem?_take] at hj
        split at hj
        · simp only [Nat.zero_add]
          rw [List.getElem?_append_left (by omega)]
          exact hj
        · cases hj
      have hfo := run_firstCells_some (P := P) w.drew i.size ln ⟨b, 0, none⟩ ln cp (xs.take (ln * i.size)) (by simp; omega) holds
      have hr : (Builtin.append_ #[t, t] ty #[.slice (some ⟨b, 0, none⟩) ln cp, x]).run P w = .ok (.slice (some ⟨w.heap.size, 0, none⟩) (ln + n) (grownCap w (ln + n) cp e))
          (w.drew.alloc (.cells ((xs.take (ln * i.size)).toArray ++ new.toArray ++ Builtin.zeroCells z.cells (grownCap w (ln + n) cp e - (ln + n))) e)) := by
        simp [Builtin.append_, run_underlying hu, sizeOf, typeInfo, zeroValue, hi, hz, r1, hn, h63', h48', Question.forced, r2, hfo, newRow, grownCap]
        congr 2
        apply Array.ext'
        simp [List.append_assoc]
      have hs := Sat.alloc h.drew ((xs.take (ln * i.size)).toArray ++ new.toArray ++ Builtin.zeroCells z.cells (grownCap w (ln + n) cp e - (ln + n))) e (xs.take (ln * i.size) ++ new) (Builtin.zeroCells z.cells (grownCap w (ln + n) cp e - (ln + n))).toList (by simp)
      have hge := grownCap_ge w (ln + n) cp e
      have hsz : ((xs.take (ln * i.size)).toArray ++ new.toArray ++ Builtin.zeroCells z.cells (grownCap w (ln + n) cp e - (ln + n))).size = grownCap w (ln + n) cp e * i.size := by
        have hmin : min (ln * i.size) xs.length = ln * i.size := by omega
        simp only [Array.size_append, List.size_toArray, size_zeroCells, hzs, hl, List.length_take, hmin, ← Nat.add_mul]
        congr 1; omega
      rw [hsz] at hs
      exact ⟨_, _, _, hr, hs, hk.drew.alloc _ _, hK _ _ h.fresh hge⟩
  · exact ha.elim
end
end Go.Proofs.Ytonmmfjagkgifaa
