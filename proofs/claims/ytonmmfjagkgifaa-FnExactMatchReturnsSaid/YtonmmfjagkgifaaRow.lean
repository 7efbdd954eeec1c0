/- The abstract calculus, seventeenth text: a law's row out of its function's abstract call. -/
import Derived.Test.YtonmmfjagkgifaaGen
import Derived.ProofKit
import Derived.OpenShut
import Derived.JoinedCond
set_option linter.unusedVariables false
set_option linter.unusedSimpArgs false
namespace Go.Proofs.Ytonmmfjagkgifaa
open Go.ChangeShapes Go.WideShapes Go.ChangeAt Go.RowKit

/-- What there is when a law is called: rows that may not be written. -/
def H00 (W : World) : Hp := fun b => match W.heap[b]? with
  | some (.cells c t _) => some (.row false t c.toList c.size)
  | _ => none
theorem sat00 (W : World) : Sat (H00 W) W := by
  intro b o h
  unfold H00 at h
  split at h
  · rename_i c t fr hc
    cases h
    exact ⟨c, fr, [], hc, by simp, rfl, fun e => by cases e⟩
  · cases h
theorem wr00 (W : World) (b : Nat) : wrAt (H00 W) b = false := by
  unfold wrAt H00
  cases W.heap[b]? with
  | none => rfl
  | some o => cases o <;> rfl
theorem acalls_below {P : Program} {f : FuncId} {args : Array Value} {W : World} {Q : Value → Prop} (h : ACalls P f args (H00 W) (fun v _ => Q v)) :
    Calls P f args W fun e W' => ∃ r, e = .returned r ∧ Q r ∧ Below W.heap.size W W' := by
  refine (h.2 W (sat00 W)).mono fun e W' hr => ?_
  obtain ⟨r, H', rfl, hq, _, hk⟩ := hr
  exact ⟨r, rfl, hq, hk.os, hk.tape, hk.output, hk.size, fun b hb => hk.block b hb (wr00 W b)⟩

section
variable {H : Type} {enc : TypeId × Value → H} {P : Program}
theorem below_all (hl : laidOutB P = true) {W W' : World} (hb : Below W.heap.size W W') : ∀ {ts : List TypeId} {vs : List Value} {ds : List (DataW H)} {ps : List MemPlace}, (∀ t ∈ ts, P.readableRec t = true ∧ t < P.types.size) →
    DataW.TrodAll enc P W 0 (fun _ => true) true ts vs ds ps → (∀ x ∈ ps, x.block < W.heap.size) → DataW.TrodAll enc P W' 0 (fun b => decide (b < W.heap.size)) true ts vs ds ps
  | [], [], [], _, _, h, _ => h
  | [], _ :: _, _, _, _, h, _ => h.elim
  | [], [], _ :: _, _, _, h, _ => h.elim
  | _ :: _, [], _, _, _, h, _ => h.elim
  | _ :: _, _ :: _, [], _, _, h, _ => h.elim
  | t :: ts, v :: vs, d :: ds, ps, hr, h, hlt => by
    obtain ⟨p, q, h1, h2, rfl⟩ := h
    exact ⟨p, q, Below.trod hl (hr t (by simp)).1 (hr t (by simp)).2 h1 hb (fun x hx => hlt x (by simp [hx])), below_all hl hb (fun t ht => hr t (by simp [ht])) h2 (fun x hx => hlt x (by simp [hx])), rfl⟩

theorem trodAll_len {W : World} {b : Nat} {sp : Nat → Bool} {hd : Bool} : ∀ {ts : List TypeId} {vs : List Value} {ds : List (DataW H)} {ps : List MemPlace}, DataW.TrodAll enc P W b sp hd ts vs ds ps → ds.length = ts.length
  | [], [], [], _, h => rfl
  | [], _ :: _, _, _, h => h.elim
  | [], [], _ :: _, _, h => h.elim
  | _ :: _, [], _, _, h => h.elim
  | _ :: _, _ :: _, [], _, h => h.elim
  | t :: ts, v :: vs, d :: ds, ps, h => by
    obtain ⟨p, q, h1, h2, rfl⟩ := h
    simp [trodAll_len h2]
/-- 'True; the input reads as it did.' -/
theorem post_true {f : Func} {s : ChangeSpec} {W W' : World} {args : Array Value} {ds gs : List (DataW H)} {before : List MemPlace} {tb : TypeId} (hl : laidOutB P = true)
    (hW : DataW.Whole enc P f.params.toList s.vars false W args.toList ds gs before) (hb : Below W.heap.size W W') (hrt : f.resultTypes = #[tb]) (htb : P.underlying tb = some .bool)
    (hs : ∀ ds, ds.length = f.params.size → (s.fn H ds).results = [.lit (.bool true)] ∧ (s.fn H ds).args = ds ∧ (s.fn H ds).vars = []) (hv : s.vars = [])
    (hr : ∀ t ∈ f.params.toList, P.readableRec t = true ∧ t < P.types.size) : s.post enc P f false true false false W args (.bool true) W' := by
  have hW' := hW
  obtain ⟨p, q, hA, hV, rfl, _, _⟩ := hW
  rw [hv] at hV
  obtain ⟨rfl, rfl⟩ := trodVars_none hV
  have hlen := trodAll_len hA
  obtain ⟨h1, h2, h3⟩ := hs ds (by rw [hlen]; simp)
  simp only [List.append_nil] at hW'
  have hlt : ∀ x ∈ p, x.block < W.heap.size := fun x hx => by simpa using hW'.lt x hx
  refine ⟨ds, [], p, [], p, [], hW', ?_, ?_, ?_, ?_, fun h => by cases h⟩
  · rw [List.append_nil, h1, hrt]
    exact trodAll_mk1 (shut_bool htb true)
  · rw [List.append_nil, h2]
    exact below_all hl hb hr hA hlt
  · rw [List.append_nil, h3, hv]
    rfl
  · exact hb.frame _

/-! ### what an argument is -/
theorem rd00 {W : World} {a : Addr} {n : Nat} {cs : List Value} (h : W.cells? 0 a n = some cs) (hn : 0 < n) : ∃ b off, a = ⟨b, off, none⟩ ∧ rdObj (H00 W b) off n = some cs := by
  unfold World.cells? at h
  rw [if_pos (Nat.zero_le _)] at h
  have hg : ∀ i, i < n → W.cell? (a.add i) = cs[i]? := fun i hi => mapM_some_get h i i (by simp [hi])
  have hlen : cs.length = n := by simpa using mapM_some_length h
  have h0 := hg 0 hn
  have hcell0 : W.cell? a = cs[0]? := by simpa [Addr.add] using h0
  have : ∃ v, W.cell? a = some v := ⟨cs[0], by rw [hcell0]; simp⟩
  obtain ⟨v, hv⟩ := this
  obtain ⟨b, off, sp⟩ := a
  unfold World.cell? at hv
  simp only at hv
  split at hv
  · rename_i c t fr hc
    split at hv
    · cases hv
    · rename_i hsp
      have : sp = none := by cases sp <;> simp_all
      subst this
      refine ⟨b, off, rfl, ?_⟩
      unfold H00 rdObj
      rw [hc]
      simp only
      have hall : ∀ i, i < n → c[off + i]? = cs[i]? := by
        intro i hi
        have := hg i hi
        rw [add_mk] at this
        unfold World.cell? at this
        simpa [hc] using this
      have hle : off + n ≤ c.size := by
        have := hall (n - 1) (by omega)
        have e : cs[n - 1]? = some cs[n - 1] := by simp [hlen, hn]
        rw [e] at this
        have := Array.getElem?_eq_some_iff.1 this
        obtain ⟨h', _⟩ := this
        omega
      rw [if_pos (by simpa using hle)]
      congr 1
      apply List.ext_getElem?
      intro i
      by_cases hi : i < n
      · rw [List.getElem?_take_of_lt hi, List.getElem?_drop, ← hall i hi]
        simp
      · rw [List.getElem?_eq_none (by simp; omega), List.getElem?_eq_none (by omega)]
  · cases hv
theorem sl00 {W : World} {sp : Nat → Bool} {held : Bool} {t e : TypeId} {fuel : Nat} {cs : List Value} {x : DataW H × List MemPlace} (ht : P.underlying t = some (.slice e)) (hc : 0 < P.cellsOf e) (h : DataW.trod enc P W 0 sp held fuel t cs = some x) :
    ∃ a ln c rows, cs = [.slice a ln c] ∧ ln = rows.length ∧ ln ≤ 9223372036854775807 ∧ (ln ≤ 1152921504606846976 → Sl (H00 W) (P.cellsOf e) (.slice a ln c) rows) ∧ ∀ r ∈ rows, ∃ n y, DataW.trod enc P W 0 sp held n e r = some y := by
  rcases DataW.trod_slice ht h with ⟨rfl, _⟩ | ⟨a, len, cap, elems, rest, n, _, rfl, _, _, hl, hm, hlen, hel, _, _⟩
  · exact ⟨none, 0, 0, [], rfl, rfl, by omega, fun _ => ⟨none, 0, rfl, by simp, fun i hi => absurd hi (by simp)⟩, fun r hr => absurd hr (by simp)⟩
  · have hall : ∀ i, i < len → ∃ r b off, W.cells? 0 (a.add (i * P.cellsOf e)) (P.cellsOf e) = some r ∧ a.add (i * P.cellsOf e) = ⟨b, off, none⟩ ∧ rdObj (H00 W b) off (P.cellsOf e) = some r ∧ ∃ y, DataW.trod enc P W 0 sp held n e r = some y := by
      intro i hi
      have h1 := hel i hi
      have h2 : elems[i]? = some elems[i] := by simp [hlen, hi]
      rw [h2] at h1
      obtain ⟨r, hr, hy⟩ := Option.bind_eq_some_iff.1 h1
      obtain ⟨b, off, ha, hrd⟩ := rd00 hr hc
      exact ⟨r, b, off, hr, ha, hrd, _, hy⟩
    refine ⟨some a, len, cap, (List.range len).map (fun i => (W.cells? 0 (a.add (i * P.cellsOf e)) (P.cellsOf e)).getD []), rfl, by simp, ?_, fun hle => ⟨some a, cap, by simp, ⟨by simpa using hle, by simpa using hl⟩, fun i hi => ?_⟩, ?_⟩
    · unfold Go.maxLen at hm; omega
    · simp only [List.length_map, List.length_range] at hi
      obtain ⟨r0, b0, off0, hr0, ha0, _, _⟩ := hall 0 (by omega)
      obtain ⟨r, b, off, hr, ha, hrd, _⟩ := hall i hi
      have e0 : a = ⟨b0, off0, none⟩ := by simpa [Addr.add] using ha0
      subst e0
      rw [add_mk] at ha
      cases ha
      refine ⟨b0, off0, rfl, ?_⟩
      rw [hrd]
      simp [List.getD_eq_getElem?_getD, hi, hr]
    · intro r hr
      obtain ⟨i, hi, rfl⟩ := List.mem_map.1 hr
      obtain ⟨r', b, off, hr', _, _, y, hy⟩ := hall i (by simpa using hi)
      rw [hr']
      exact ⟨n, y, hy⟩
/-- A part of a struct. -/
theorem part00 {W : World} {sp : Nat → Bool} {held : Bool} {t : TypeId} {fs : Array Field} {fuel : Nat} {cs : List Value} {x : DataW H × List MemPlace} (ht : P.underlying t = some (.struct fs)) (h : DataW.trod enc P W 0 sp held fuel t cs = some x) {i : Nat} {f : Field} (hf : fs[i]? = some f) :
    ∃ n y, DataW.trod enc P W 0 sp held n f.type ((cs.drop f.offset).take (P.cellsOf f.type)) = some y := by
  obtain ⟨xs, n, _, rfl, hl, hlen, hall⟩ := DataW.trod_struct ht h
  have := hall i f hf
  have hi : i < xs.length := by rw [hlen]; exact (Array.getElem?_eq_some_iff.1 hf).1
  exact ⟨n, xs[i], by rw [this]; simp [hi]⟩
theorem int00 {W : World} {sp : Nat → Bool} {held : Bool} {t : TypeId} {k : IntKind} {fuel : Nat} {cs : List Value} {x : DataW H × List MemPlace} (ht : P.underlying t = some (.int k)) (h : DataW.trod enc P W 0 sp held fuel t cs = some x) :
    ∃ n, cs = [.int k n] ∧ k.min ≤ n ∧ n ≤ k.max := by
  obtain ⟨n, rfl, _, hw⟩ := DataW.trod_int ht h
  simp only [Lit.wf, Bool.and_eq_true, decide_eq_true_eq] at hw
  exact ⟨n, rfl, hw⟩
end
end Go.Proofs.Ytonmmfjagkgifaa
