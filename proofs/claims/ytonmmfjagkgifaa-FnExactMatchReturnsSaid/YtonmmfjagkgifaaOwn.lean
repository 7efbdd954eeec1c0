/- The abstract calculus, nineteenth text: slices that grow, and grids of Booleans. -/
import Derived.Test.YtonmmfjagkgifaaFor
set_option linter.unusedVariables false
set_option linter.unusedSimpArgs false
namespace Go.Proofs.Ytonmmfjagkgifaa
open Go.RowKit

theorem sub_none {H H' : Hp} (h : H.sub H') {b : Nat} (hb : H' b = none) : H b = none := by
  cases e : H b with
  | none => rfl
  | some o => rw [h b o e] at hb; cases hb
theorem sub_off {H0 H H' : Hp} {b : Nat} (h : H0.sub H) (hb : H0 b = none) (ho : ∀ c, c ≠ b → H' c = H c) : H0.sub H' := fun c o hc => by
  rw [ho c (by intro e; subst e; rw [hb] at hc; cases hc)]
  exact h c o hc
theorem sub_set_at {H H' : Hp} {b : Nat} {o : AObj} (h : H.sub H') (hb : H' b = some o) : (H.set b o).sub H' := fun c o' hc => by
  rw [set_get] at hc
  split at hc
  · rename_i e; subst e; cases hc; exact hb
  · exact h c o' hc

theorem sub_set0 {H0 H : Hp} {b : Nat} {o : AObj} (hb : H0 b = none) (h : H0.sub H) : H0.sub (H.set b o) := sub_off h hb fun c hc => set_ne hc
theorem retQ_c1 {t b off s : Nat} {g : Bool} {K : Value → Hp → Prop} {T : Tm} {H : Hp} {v : Value} (h1 : T t = .pointer (some ⟨b, off, none⟩)) (hr : (rdObj (H b) off s).bind (apart g s) = some v) (H2 : Hp) (h2 : H2.sub H) (h3 : K v H2) : retQ [.cell g s t] K .ret T H := by
  refine ⟨.inr rfl, [v], H2, ?_, h2, h3⟩
  rw [ares, h1, aload_ptr, rd_mk, hr]
  rfl
/-! ### slices that this code made itself -/
def Own (H : Hp) (b : Nat) (ty : TypeId) (sz : Nat) (v : Value) (rows : List (List Value)) : Prop :=
  ∃ c tot, v = .slice (some ⟨b, 0, none⟩) rows.length c ∧ H b = some (.row true ty rows.flatten tot) ∧ (c * sz ≤ tot ∧ rows.length ≤ c) ∧ ∀ r ∈ rows, r.length = sz
theorem flat_len {sz : Nat} : ∀ {rows : List (List Value)}, (∀ r ∈ rows, r.length = sz) → rows.flatten.length = rows.length * sz
  | [], _ => by simp
  | r :: rows, h => by
    rw [List.flatten_cons, List.length_append, h r (by simp), flat_len (fun r hr => h r (by simp [hr])), List.length_cons, Nat.succ_mul, Nat.add_comm]
theorem Own.len {H : Hp} {b ty sz : Nat} {v : Value} {rows : List (List Value)} (h : Own H b ty sz v rows) : vLen false v = some (.int .i64 rows.length) := by
  obtain ⟨c, tot, rfl, _⟩ := h; rfl
theorem Own.sl {H : Hp} {b ty sz : Nat} {v : Value} {rows : List (List Value)} (h : Own H b ty sz v rows) (hsz : 0 < sz) (hle : rows.length ≤ 1152921504606846976) : Sl H sz v rows := by
  obtain ⟨c, tot, rfl, hb, hc, hr⟩ := h
  exact Sl.made H sz hsz b c true ty rows tot hr hle hc.2 hb
theorem Own.off {H H' : Hp} {b ty sz : Nat} {v : Value} {rows : List (List Value)} (h : Own H b ty sz v rows) (hb : H' b = H b) : Own H' b ty sz v rows := by
  obtain ⟨c, tot, hv, h1, h2⟩ := h
  exact ⟨c, tot, hv, by rw [hb]; exact h1, h2⟩
theorem Own.blk {H : Hp} {b ty sz : Nat} {v : Value} {rows : List (List Value)} (h : Own H b ty sz v rows) : ∃ o, H b = some o := by
  obtain ⟨c, tot, hv, h1, h2⟩ := h
  exact ⟨_, h1⟩
theorem Own.made {H : Hp} {b ty sz n : Nat} {cs : List Value} (rows : List (List Value)) (hn : n = rows.length) (hr : ∀ r ∈ rows, r.length = sz) (hb : H b = some (.row true ty cs cs.length)) (hc : cs = rows.flatten) : Own H b ty sz (.slice (some ⟨b, 0, none⟩) n n) rows := by
  subst hn hc
  exact ⟨_, _, rfl, hb, ⟨by rw [flat_len hr]; exact Nat.le_refl _, Nat.le_refl _⟩, hr⟩
/-- One row more. -/
theorem aw_app_own {P : Program} {T : Tm} {H : Hp} {Q : Ex → Tm → Hp → Prop} {k : AC} {d ty sz by_ b : Nat} {x y : Operand} {xv yv : Value} {rows : List (List Value)} {r : List Value} (hx : ev T x = xv) (hy : ev T y = yv) (ho : Own H b ty sz xv rows)
    (hn : anew H sz yv = some (1, r)) (hone : r.all Value.oneCell' = true) (hl : r.length = sz) (hbig : (rows.length + 1) * by_ ≤ 140737488355328) (hbig2 : rows.length < 9223372036854775807)
    (h : ∀ b' v' H', (b' = b ∨ H b' = none) → (∀ c, c ≠ b' → H' c = H c) → Own H' b' ty sz v' (rows ++ [r]) → aw P k (T.put d v') H' Q) : aw P (.op ⟨some d, none, .app ty sz by_ x y⟩ k) T H Q := by
  refine aw_app hx hy ⟨1, r, hn, hone, ?_⟩
  obtain ⟨c, tot, rfl, hb, hc, hr⟩ := ho
  have hf := flat_len hr
  have hr' : ∀ r' ∈ rows ++ [r], r'.length = sz := by
    intro r' h'
    rcases List.mem_append.1 h' with h' | h'
    · exact hr r' h'
    · simp at h'; rw [h']; exact hl
  simp only
  refine ⟨rows.flatten, tot, hb, by rw [hf]; exact Nat.le_refl _, hbig, by omega, fun hle => ⟨hc.1, ?_⟩, fun hlt b' c' hb' hc' => ?_⟩
  · refine h b _ _ (.inl rfl) (fun c' hc' => set_ne hc') ⟨c, tot, ?_, ?_, ⟨hc.1, by simpa using hle⟩, hr'⟩
    · simp
    · rw [set_same]
      unfold splice
      rw [← hf, List.take_length, List.drop_eq_nil_of_le (by omega)]
      simp
  · refine h b' _ _ (.inr hb') (fun c' hc' => set_ne hc') ⟨c', c' * sz, ?_, ?_, ⟨Nat.le_refl _, by simpa using hc'⟩, hr'⟩
    · simp
    · rw [set_same, ← hf, List.take_length]
      simp

/-! ### rows of Booleans -/
def gcells (n : Nat) (g : Nat → Bool) : List Value := (List.range n).map fun i => .bool (g i)
theorem gc_len (n : Nat) (g : Nat → Bool) : (gcells n g).length = n := by simp [gcells]
theorem gc_get (n : Nat) (g : Nat → Bool) (i : Nat) : (gcells n g)[i]? = if i < n then some (.bool (g i)) else none := by
  unfold gcells
  rw [List.getElem?_map]
  split
  · rename_i h; rw [List.getElem?_range h]; rfl
  · rename_i h; rw [List.getElem?_eq_none (by simp; omega)]; rfl
theorem gc_zero (n : Nat) : List.replicate n (.bool false) = gcells n (fun _ => false) := by
  apply List.ext_getElem?
  intro i
  rw [gc_get, List.getElem?_replicate]
theorem gc_ext {n : Nat} {g g' : Nat → Bool} (h : ∀ i, i < n → g i = g' i) : gcells n g = gcells n g' := by
  apply List.ext_getElem?
  intro i
  rw [gc_get, gc_get]
  split
  · rename_i hi; rw [h i hi]
  · rfl
theorem gc_part (n : Nat) (g : Nat → Bool) (off k : Nat) (h : off + k ≤ n) : ((gcells n g).drop off).take k = gcells k (fun i => g (off + i)) := by
  apply List.ext_getElem?
  intro i
  rw [gc_get, List.getElem?_take]
  split
  · rw [List.getElem?_drop, gc_get, if_pos (by omega)]
  · rfl
theorem gc_rd (own : Bool) (ty : TypeId) (n tot : Nat) (g : Nat → Bool) (off k : Nat) (h : off + k ≤ n) : rdObj (some (.row own ty (gcells n g) tot)) off k = some (gcells k (fun i => g (off + i))) := by
  rw [rdObj_row, if_pos (by rw [gc_len]; exact h), gc_part _ _ _ _ h]
theorem gc_rd1 (own : Bool) (ty : TypeId) (n tot : Nat) (g : Nat → Bool) (off : Nat) (h : off < n) : rdObj (some (.row own ty (gcells n g) tot)) off 1 = some [.bool (g off)] := by
  rw [gc_rd _ _ _ _ _ _ _ (by omega)]; rfl
def gup (g : Nat → Bool) (off : Nat) (b : Bool) : Nat → Bool := fun i => if i = off then b else g i
theorem gc_st1 (ty : TypeId) (n tot : Nat) (g : Nat → Bool) (off : Nat) (b : Bool) (h : off < n) : stObj (some (.row true ty (gcells n g) tot)) off 1 (.bool b) = some (.row true ty (gcells n (gup g off b)) tot) := by
  rw [stObj_row, if_pos (by rw [gc_len]; exact ⟨rfl, rfl, by omega⟩)]
  congr 2
  apply List.ext_getElem?
  intro i
  show (splice (gcells n g) off [.bool b])[i]? = _
  unfold splice
  rw [gc_get]
  simp only [List.append_assoc, List.cons_append, List.nil_append, List.length_cons, List.length_nil]
  by_cases h1 : i < off
  · rw [List.getElem?_append_left (by simp [gc_len]; omega), List.getElem?_take_of_lt h1, gc_get]
    simp [gup, show i ≠ off by omega]
  · rw [List.getElem?_append_right (by simp [gc_len]; omega)]
    simp only [List.length_take, gc_len]
    rw [Nat.min_eq_left (by omega)]
    by_cases h2 : i = off
    · subst h2; simp [gup, h]
    · obtain ⟨m, rfl⟩ : ∃ m, i = off + (m + 1) := ⟨i - off - 1, by omega⟩
      rw [show off + (m + 1) - off = m + 1 by omega, List.getElem?_cons_succ, List.getElem?_drop, gc_get, show off + (0 + 1) + m = off + (m + 1) by omega]
      simp [gup]
theorem gc_one (n : Nat) (g : Nat → Bool) : (gcells n g).all Value.oneCell' = true := by
  rw [List.all_eq_true]
  intro v hv
  obtain ⟨i, _, rfl⟩ := List.mem_map.1 hv
  rfl
theorem gc_stall (ty : TypeId) (n tot : Nat) (xs : List Value) (g : Nat → Bool) (h : xs.length = n) : stObj (some (.row true ty xs tot)) 0 n (.agg (gcells n g).toArray) = some (.row true ty (gcells n g) tot) := by
  rw [stObj_row, if_pos ⟨by simp [Value.cells, gc_len], by simpa [Value.cells] using gc_one n g, by omega⟩]
  congr 2
  unfold splice
  simp [Value.cells, gc_len, h]
theorem gc_apart (n : Nat) (g : Nat → Bool) : apart true n (gcells n g) = some (.agg (gcells n g).toArray) := apart_t _ _ (gc_len n g)
theorem gc_apart1 (g : Nat → Bool) : apart false 1 (gcells 1 g) = some (.bool (g 0)) := rfl
theorem vBld_nil (T : Tm) (z : List Value) : vBld T z [] = some (.agg z.toArray) := by rw [vBld, aparts_nil, Option.bind_some, afill_nil, Option.map_some]
theorem gc_vc (n : Nat) (g : Nat → Bool) : valCells (.agg (gcells n g).toArray) = gcells n g := rfl
theorem gc_ix1 (n : Nat) (g : Nat → Bool) (k : IntKind) (j : Int) (h : 0 ≤ j ∧ j < n) : vIxArr false n 1 (.agg (gcells n g).toArray) (.int k j) = some (.bool (g j.toNat)) := by
  show (if 0 ≤ j ∧ j < n then _ else none) = _
  rw [if_pos h]
  show apart false 1 (((gcells n g).drop (j.toNat * 1)).take 1) = _
  rw [gc_part _ _ _ _ (by omega), gc_apart1]
  simp
theorem gc_ixr (m n s : Nat) (g : Nat → Bool) (k : IntKind) (j : Int) (hs : s = m * n) (h : 0 ≤ j ∧ j < m) : vIxArr true m n (.agg (gcells s g).toArray) (.int k j) = some (.agg (gcells n (fun i => g (j.toNat * n + i))).toArray) := by
  show (if 0 ≤ j ∧ j < m then _ else none) = _
  rw [if_pos h]
  show apart true n (((gcells s g).drop (j.toNat * n)).take n) = _
  have : (j.toNat + 1) * n ≤ m * n := Nat.mul_le_mul_right n (by omega)
  rw [gc_part _ _ _ _ (by rw [hs, ← Nat.succ_mul]; exact this), gc_apart]
end Go.Proofs.Ytonmmfjagkgifaa
