/- Weakest preconditions over data: how data lies in cells, and the rules that printed walks use. -/
import Derived.Test.YtonmmfjagkgifaaLoc
set_option linter.unusedVariables false
set_option linter.unusedSimpArgs false
namespace Go.Proofs.Ytonmmfjagkgifaa
open Go.RowKit
attribute [local go_sem] aw_mv aw_mkf aw_pick aw_bin aw_eqB aw_eqNil aw_eqAgg aw_un aw_conv aw_fa aw_ia aw_iaArr aw_ixArr aw_ixStr aw_fld aw_ext aw_bld aw_nilc aw_slc aw_slcArr aw_slcStr aw_len aw_cap aw_mnx aw_ld aw_st aw_guard_y aw_guard_n aw_nil aw_exit aw_ret aw_cond_t aw_cond_f aw_blk seqQ_norm seqQ_exit seqQ_ret blkQ_norm blkQ_exit_same blkQ_exit_ne blkQ_ret vPick_b vEqB_t vEqB_f vEqNil_sn vEqNil_ss vEqNil_pn vEqNil_ps vUn_neg vUn_not vUn_xor vConv_i vFa_p vIa_s vFld_a vExt_t vNilc_p vLen_s vLen_t vMnx_t vMnx_f abin_add abin_sub abin_mul abin_eql abin_neq abin_lss abin_leq abin_gtr abin_geq abin_and abin_or abin_xor abin_quo abin_rem abin_shl abin_shr abin_seq abin_sne abin_scat ev_tmp ev_const ev_func put_get puto_some puto_none args0_get List.getD_cons_succ List.getD_cons_zero Option.isSome_some Option.getD_some Option.isNone_none Option.isNone_some Option.map_some Option.map_none Value.bool.injEq Value.int.injEq add_mk aload_ptr rd_mk rdObj_row set_get astore_ptr apart_f apart_t List.length_cons List.length_nil List.drop_succ_cons List.drop_zero List.take_succ_cons List.take_zero List.map_cons List.map_nil Option.bind_some Option.bind_none ares_nil ares_tmp oneOf1 Nat.zero_add Nat.add_zero Bool.not_true Bool.not_false ne_eq not_false_eq_true not_true_eq_false decide_true decide_false Bool.true_and Bool.and_true Bool.false_eq_true and_self and_true true_and List.getElem?_cons_zero List.getElem?_cons_succ vc_agg vc_int vc_bool vc_slice aw_chk1 aw_chk2 st_agg st_int st_slice st_ptr one_int one_bool one_slice one_ptr one_str splice_eq aparts_nil aparts_cons afill_nil afill_cons rz0 rz1 rz2 List.all_cons List.all_nil Bool.and_self List.nil_append List.cons_append List.append_nil set_set

abbrev Rd (α : Type) := Hp → α → List Value → Prop
structure RdOk {α : Type} (R : Rd α) (sz : Nat) : Prop where
  pos : 0 < sz
  mono : ∀ {H H' : Hp} {x : α} {cs : List Value}, H.sub H' → R H x cs → R H' x cs
  len : ∀ {H : Hp} {x : α} {cs : List Value}, R H x cs → cs.length = sz
  one : ∀ {H : Hp} {x : α} {cs : List Value}, R H x cs → cs.all Value.oneCell' = true
def RI (k : IntKind) : Rd Int := fun _ n cs => cs = [.int k n]
def RB : Rd Bool := fun _ b cs => cs = [.bool b]
def RS : Rd ByteArray := fun _ s cs => cs = [.string s]
theorem RI.ok (k : IntKind) : RdOk (RI k) 1 := ⟨by omega, fun _ h => h, fun h => by rw [h]; rfl, fun h => by rw [h]; rfl⟩
theorem RB.ok : RdOk RB 1 := ⟨by omega, fun _ h => h, fun h => by rw [h]; rfl, fun h => by rw [h]; rfl⟩
theorem RS.ok : RdOk RS 1 := ⟨by omega, fun _ h => h, fun h => by rw [h]; rfl, fun h => by rw [h]; rfl⟩
def Rows {α : Type} (R : Rd α) (B : Hp) (xs : List α) (rows : List (List Value)) : Prop := rows.length = xs.length ∧ ∀ (i : Nat) (x : α), xs[i]? = some x → R B x (rows.getD i [])
def SlR {α : Type} (R : Rd α) (sz : Nat) (H : Hp) (xs : List α) (v : Value) : Prop := ∃ rows, Sl H sz v rows ∧ Rows R H xs rows
def RL {α : Type} (R : Rd α) (sz : Nat) : Rd (List α) := fun H xs cs => ∃ v, cs = [v] ∧ SlR R sz H xs v
def gt {α : Type} [Inhabited α] (xs : List α) (i : Int) : α := xs.getD i.toNat default
def In (i : Int) (n : Nat) : Prop := 0 ≤ i ∧ i < n
theorem Rows.sub {α : Type} {R : Rd α} {sz : Nat} (hR : RdOk R sz) {B B' : Hp} {xs : List α} {rows : List (List Value)} (h : Rows R B xs rows) (hs : B.sub B') : Rows R B' xs rows := ⟨h.1, fun i x hx => hR.mono hs (h.2 i x hx)⟩
theorem Rows.nil {α : Type} (R : Rd α) (B : Hp) : Rows R B [] [] := ⟨rfl, fun i x h => by simp at h⟩
theorem Rows.snoc {α : Type} {R : Rd α} {B : Hp} {xs : List α} {rows : List (List Value)} (h : Rows R B xs rows) {x : α} {r : List Value} (hr : R B x r) : Rows R B (xs ++ [x]) (rows ++ [r]) := by
  refine ⟨by simp [h.1], fun i y hy => ?_⟩
  by_cases hi : i < xs.length
  · rw [List.getElem?_append_left hi] at hy
    have := h.2 i y hy
    rw [List.getD_eq_getElem?_getD, List.getElem?_append_left (by rw [h.1]; exact hi), ← List.getD_eq_getElem?_getD]
    exact this
  · have hi' : i = xs.length := by
      have := (List.getElem?_eq_some_iff.1 hy).1
      simp at this; omega
    subst hi'
    simp at hy
    subst hy
    rw [List.getD_eq_getElem?_getD, ← h.1]
    simpa using hr
theorem Rows.set {α : Type} {R : Rd α} {B : Hp} {xs : List α} {rows : List (List Value)} (h : Rows R B xs rows) (j : Nat) {x : α} {r : List Value} (hr : R B x r) : Rows R B (xs.set j x) (rows.set j r) := by
  refine ⟨by simp [h.1], fun i y hy => ?_⟩
  rw [List.getElem?_set] at hy
  split at hy
  · rename_i e
    subst e
    split at hy
    · rename_i hlt
      cases hy
      rw [List.getD_eq_getElem?_getD, List.getElem?_set_self (by rw [h.1]; exact hlt)]
      exact hr
    · cases hy
  · rename_i e
    have := h.2 i y hy
    rw [List.getD_eq_getElem?_getD, List.getElem?_set_ne e, ← List.getD_eq_getElem?_getD]
    exact this
theorem Rows.rep {α : Type} {R : Rd α} {B : Hp} {x : α} {r : List Value} (hr : R B x r) (n : Nat) : Rows R B (List.replicate n x) (List.replicate n r) := by
  refine ⟨by simp, fun i y hy => ?_⟩
  rw [List.getElem?_replicate] at hy
  split at hy
  · rename_i hi
    cases hy
    rw [List.getD_eq_getElem?_getD, List.getElem?_replicate, if_pos hi]
    exact hr
  · cases hy
theorem Rows.gt {α : Type} [Inhabited α] {R : Rd α} {B : Hp} {xs : List α} {rows : List (List Value)} (h : Rows R B xs rows) {i : Int} (hi : In i xs.length) : R B (gt xs i) (rows.getD i.toNat []) := by
  refine h.2 i.toNat _ ?_
  have : i.toNat < xs.length := by have := hi.1; have := hi.2; omega
  simp [Go.Proofs.Ytonmmfjagkgifaa.gt, List.getD_eq_getElem?_getD, this]
theorem Rows.lens {α : Type} {R : Rd α} {sz : Nat} (hR : RdOk R sz) {B : Hp} {xs : List α} {rows : List (List Value)} (h : Rows R B xs rows) : ∀ r ∈ rows, r.length = sz := by
  intro r hr
  obtain ⟨i, hi, rfl⟩ := List.getElem_of_mem hr
  have hx : i < xs.length := by rw [← h.1]; exact hi
  have := h.2 i xs[i] (by simp)
  rw [List.getD_eq_getElem?_getD, List.getElem?_eq_getElem hi] at this
  exact hR.len this
theorem SlR.sub {α : Type} {R : Rd α} {sz : Nat} (hR : RdOk R sz) {H H' : Hp} {xs : List α} {v : Value} (h : SlR R sz H xs v) (hs : H.sub H') : SlR R sz H' xs v := by
  obtain ⟨rows, h1, h2⟩ := h
  exact ⟨rows, h1.sub hs, h2.sub hR hs⟩
theorem SlR.len {α : Type} {R : Rd α} {sz : Nat} {H : Hp} {xs : List α} {v : Value} (h : SlR R sz H xs v) : vLen false v = some (.int .i64 xs.length) := by
  obtain ⟨rows, h1, h2⟩ := h
  rw [h1.len, h2.1]
theorem SlR.le {α : Type} {R : Rd α} {sz : Nat} {H : Hp} {xs : List α} {v : Value} (h : SlR R sz H xs v) : xs.length ≤ 1152921504606846976 := by
  obtain ⟨rows, h1, h2⟩ := h
  rw [← h2.1]; exact h1.le
theorem SlR.cells {α : Type} {R : Rd α} {sz : Nat} {H : Hp} {xs : List α} {v : Value} (h : SlR R sz H xs v) : valCells v = [v] := by
  obtain ⟨_, ⟨a, c, rfl, _⟩, _⟩ := h; rfl
theorem Loc.cells {B H : Hp} {L : List E} (h : Loc B H L) (i : Nat) {kb : Option Nat} {ty : TypeId} {sz : Nat} {v : Value} {rows : List (List Value)} (hi : L[i]? = some (.own kb ty sz v rows)) : valCells v = [v] := by
  have := h.get i hi
  cases kb with
  | none => obtain ⟨rfl, _⟩ := this; rfl
  | some b => obtain ⟨c, tot, rfl, _⟩ := this; rfl
theorem SlR.nil {α : Type} (R : Rd α) (sz : Nat) (H : Hp) : SlR R sz H [] (.slice none 0 0) := ⟨[], ⟨none, 0, rfl, by simp, fun i hi => absurd hi (by simp)⟩, Rows.nil R H⟩
/-- A row of a slice that is read. -/
theorem SlR.at {α : Type} [Inhabited α] {R : Rd α} {sz : Nat} (hR : RdOk R sz) {H : Hp} {xs : List α} {v : Value} (h : SlR R sz H xs v) {k : IntKind} {i : Int} (hi : In i xs.length) :
    ∃ b off cs, vIa sz v (.int k i) = some (.pointer (some ⟨b, off, none⟩)) ∧ rdObj (H b) off sz = some cs ∧ R H (gt xs i) cs := by
  obtain ⟨rows, h1, h2⟩ := h
  obtain ⟨b, off, e1, e2⟩ := h1.at (k := k) hi.1 (by rw [h2.1]; exact hi.2)
  exact ⟨b, off, _, e1, e2, h2.gt hi⟩
theorem rd_sub {B H : Hp} (hs : B.sub H) {b off n : Nat} {cs : List Value} (h : rdObj (B b) off n = some cs) : rdObj (H b) off n = some cs := by
  cases e : B b with
  | none => rw [e] at h; cases h
  | some o => rw [hs b o e, ← e]; exact h
theorem SlR.atB {α : Type} [Inhabited α] {R : Rd α} {sz : Nat} {B H : Hp} {xs : List α} {v : Value} (h : SlR R sz B xs v) (hs : B.sub H) {k : IntKind} {i : Int} (hi : In i xs.length) :
    ∃ b off cs, vIa sz v (.int k i) = some (.pointer (some ⟨b, off, none⟩)) ∧ rdObj (H b) off sz = some cs ∧ R B (gt xs i) cs := by
  obtain ⟨rows, h1, h2⟩ := h
  obtain ⟨b, off, e1, e2⟩ := h1.at (k := k) hi.1 (by rw [h2.1]; exact hi.2)
  exact ⟨b, off, _, e1, rd_sub hs e2, h2.gt hi⟩
theorem SlR.slc {α : Type} {R : Rd α} {sz : Nat} {H : Hp} {xs : List α} {v : Value} (h : SlR R sz H xs v) {lo hi : Option Value} {l hh : Int} (h0 : 0 ≤ l) (h1 : l ≤ hh) (h2 : hh ≤ xs.length) (hlo : (lo = none ∧ l = 0) ∨ ∃ k, lo = some (.int k l)) (hhi : (hi = none ∧ hh = xs.length) ∨ ∃ k, hi = some (.int k hh)) :
    ∃ v', vSlc sz v lo hi none = some v' ∧ SlR R sz H ((xs.drop l.toNat).take (hh - l).toNat) v' := by
  obtain ⟨rows, ⟨a, c, rfl, ⟨hle, hcap⟩, hat⟩, hr⟩ := h
  have hl := hr.1
  have e1 : bnd hi c rows.length = some hh.toNat := by
    rcases hhi with ⟨rfl, rfl⟩ | ⟨k, rfl⟩
    · simp [bnd, hl]
    · simp only [bnd]; rw [if_pos (by omega)]
  have e2 : bnd lo hh.toNat 0 = some l.toNat := by
    rcases hlo with ⟨rfl, rfl⟩ | ⟨k, rfl⟩
    · rfl
    · simp only [bnd]; rw [if_pos (by omega)]
  refine ⟨.slice (if c = l.toNat then a else a.map (·.add (l.toNat * sz))) (hh.toNat - l.toNat) (c - l.toNat), ?_, (rows.drop l.toNat).take (hh - l).toNat, ⟨(if c = l.toNat then a else a.map (·.add (l.toNat * sz))), c - l.toNat, ?_, ⟨?_, ?_⟩, fun i hi' => ?_⟩, ?_, fun i x hx => ?_⟩
  · show ((bnd none c c).bind fun m => (bnd hi m rows.length).bind fun h => (bnd lo h 0).map fun l => Value.slice (if m = l then a else a.map (·.add (l * sz))) (h - l) (m - l)) = _
    simp only [show bnd none c c = some c from rfl, Option.bind_some, e1, e2, Option.map_some]
  · congr 1
    simp; omega
  · simp; omega
  · simp; omega
  · simp only [List.length_take, List.length_drop] at hi'
    obtain ⟨b, off, rfl, hrd⟩ := hat (l.toNat + i) (by omega)
    refine ⟨b, off + l.toNat * sz, ?_, ?_⟩
    · rw [if_neg (by omega)]; simp [add_mk]
    · rw [show off + l.toNat * sz + i * sz = off + (l.toNat + i) * sz by rw [Nat.add_mul]; omega, hrd]
      congr 1
      rw [List.getD_eq_getElem?_getD, List.getD_eq_getElem?_getD, List.getElem?_take_of_lt (by omega), List.getElem?_drop]
  · simp [hl]
  · have hlt : i < (hh - l).toNat := by
      have := (List.getElem?_eq_some_iff.1 hx).1
      simp at this; omega
    rw [List.getElem?_take_of_lt hlt, List.getElem?_drop] at hx
    have := hr.2 _ _ hx
    rw [List.getD_eq_getElem?_getD] at this ⊢
    rw [List.getElem?_take_of_lt hlt, List.getElem?_drop]
    exact this
theorem RL.ok {α : Type} {R : Rd α} {sz : Nat} (hR : RdOk R sz) : RdOk (RL R sz) 1 where
  pos := by omega
  mono hs h := by obtain ⟨v, rfl, h⟩ := h; exact ⟨v, rfl, h.sub hR hs⟩
  len h := by obtain ⟨v, rfl, h⟩ := h; rfl
  one h := by obtain ⟨v, rfl, rows, ⟨a, c, rfl, _⟩, h⟩ := h; rfl
theorem Loc.slr {α : Type} {R : Rd α} {sz : Nat} (hR : RdOk R sz) {B H : Hp} {L : List E} (h : Loc B H L) (i : Nat) {kb : Option Nat} {ty : TypeId} {v : Value} {rows : List (List Value)} (hi : L[i]? = some (.own kb ty sz v rows)) {xs : List α} (hx : Rows R B xs rows) (hle : xs.length ≤ 1152921504606846976) : SlR R sz H xs v :=
  ⟨rows, h.sl i hi hR.pos (by rw [hx.1]; exact hle), hx.sub hR h.sub⟩
theorem Loc.lenR {α : Type} {R : Rd α} {sz : Nat} {B H : Hp} {L : List E} (h : Loc B H L) (i : Nat) {kb : Option Nat} {ty : TypeId} {v : Value} {rows : List (List Value)} (hi : L[i]? = some (.own kb ty sz v rows)) {xs : List α} (hx : Rows R B xs rows) : vLen false v = some (.int .i64 xs.length) := by
  rw [h.len i hi, hx.1]
theorem Loc.atR {α : Type} [Inhabited α] {R : Rd α} {sz : Nat} {B H : Hp} {L : List E} (h : Loc B H L) (i : Nat) {kb : Option Nat} {ty : TypeId} {v : Value} {rows : List (List Value)} (hi : L[i]? = some (.own kb ty sz v rows)) {xs : List α} (hx : Rows R B xs rows) {k : IntKind} {j : Int} (hj : In j xs.length) :
    ∃ b cs, kb = some b ∧ vIa sz v (.int k j) = some (.pointer (some ⟨b, j.toNat * sz, none⟩)) ∧ rdObj (H b) (j.toNat * sz) sz = some cs ∧ rows.getD j.toNat [] = cs ∧ j.toNat < rows.length ∧ R B (gt xs j) cs := by
  obtain ⟨b, off, e1, e2, e3, e4⟩ := h.at i hi (k := k) hj.1 (by rw [hx.1]; exact hj.2)
  subst e4
  exact ⟨b, _, e3, e1, e2, rfl, by have := hj.1; have := hj.2; rw [hx.1]; omega, hx.gt hj⟩
theorem Loc.sel {B H : Hp} {L : List E} (h : Loc B H L) (idx : List Nat) (hn : idx.Nodup) : Loc B H (idx.filterMap fun i => L[i]?) := by
  have hm : ∀ e ∈ idx.filterMap (fun i => L[i]?), e ∈ L := fun e he => by
    obtain ⟨i, _, hi⟩ := List.mem_filterMap.1 he
    exact List.mem_of_getElem? hi
  refine ⟨h.sub, fun e he => h.ok e (hm e he), fun e he => h.new e (hm e he), ?_⟩
  rw [List.pairwise_filterMap]
  refine List.Pairwise.imp ?_ hn
  intro i j hne e hi e' hj b hb hb'
  have hap := List.pairwise_iff_getElem.1 h.apart
  obtain ⟨hil, rfl⟩ := List.getElem?_eq_some_iff.1 hi
  obtain ⟨hjl, rfl⟩ := List.getElem?_eq_some_iff.1 hj
  rcases Nat.lt_or_gt_of_ne hne with hlt | hlt
  · exact hap i j hil hjl hlt b hb hb'
  · exact hap j i hjl hil hlt b hb' hb
theorem Loc.nils {B H : Hp} {L : List E} (h : Loc B H L) (ty : TypeId) (sz : Nat) : Loc B H (.own none ty sz (.slice none 0 0) [] :: L) := by
  refine ⟨h.sub, fun e he => ?_, fun e he b hb => ?_, List.Pairwise.cons (fun e he b hb => by cases hb) h.apart⟩
  · rcases List.mem_cons.1 he with rfl | he
    · exact ⟨rfl, rfl⟩
    · exact h.ok e he
  · rcases List.mem_cons.1 he with rfl | he
    · cases hb
    · exact h.new e he b hb

theorem st_bool (ty : TypeId) (xs : List Value) (tot off : Nat) (b : Bool) : stObj (some (.row true ty xs tot)) off 1 (.bool b) = if off + 1 ≤ xs.length then some (.row true ty (splice xs off [.bool b]) tot) else none := by
  rw [stObj_row]; simp [Value.cells, Value.oneCell']
theorem st_str (ty : TypeId) (xs : List Value) (tot off : Nat) (b : ByteArray) : stObj (some (.row true ty xs tot)) off 1 (.string b) = if off + 1 ≤ xs.length then some (.row true ty (splice xs off [.string b]) tot) else none := by
  rw [stObj_row]; simp [Value.cells, Value.oneCell']
theorem vc_str (b : ByteArray) : valCells (.string b) = [.string b] := rfl
theorem vc_ptr (a : Option Addr) : valCells (.pointer a) = [.pointer a] := rfl
/-- A loop over an abstract state: what holds at its head, with a number that each round lowers. -/
theorem Rows.flat {α : Type} {R : Rd α} {B B' : Hp} {xs : List α} {rows : List (List Value)} (hf : ∀ x cs, R B x cs → R B' x cs) (h : Rows R B xs rows) : Rows R B' xs rows := ⟨h.1, fun i x hx => hf _ _ (h.2 i x hx)⟩
theorem ares_cell (T : Tm) (H : Hp) (g : Bool) (s t : Nat) (rs : List AR) : ares T H (.cell g s t :: rs) = (aload H g s (T t)).bind fun v => (ares T H rs).map (v :: ·) := rfl
/-! ### slices that a function changes for its caller -/
def Hp.minus (H : Hp) (kb : Option Nat) : Hp := fun c => if kb = some c then none else H c
theorem minus_none (H : Hp) : H.minus none = H := by funext c; simp [Hp.minus]
theorem minus_sub (H : Hp) (kb : Option Nat) : (H.minus kb).sub H := fun c o h => by
  unfold Hp.minus at h
  split at h
  · cases h
  · exact h
theorem Loc.one {H H0 : Hp} {kb : Option Nat} {ty : TypeId} {sz : Nat} {v : Value} {rows : List (List Value)} (hH : H = H0.minus kb) (h : E.ok H0 (.own kb ty sz v rows)) : Loc H H0 [.own kb ty sz v rows] := by
  subst hH
  refine ⟨minus_sub _ _, fun e he => ?_, fun e he b hb => ?_, List.pairwise_singleton _ _⟩
  · rw [List.mem_singleton] at he; subst he; exact h
  · rw [List.mem_singleton] at he; subst he
    have hb' : kb = some b := hb
    simp [Hp.minus, hb']
theorem Loc.minus {B H : Hp} {L : List E} (h : Loc B H L) (i : Nat) {kb : Option Nat} {ty : TypeId} {sz : Nat} {v : Value} {rows : List (List Value)} (hi : L[i]? = some (.own kb ty sz v rows)) : Loc B (H.minus kb) (L.eraseIdx i) := by
  cases kb with
  | none => rw [minus_none]; exact h.pick (List.eraseIdx_sublist ..)
  | some b =>
    have hm := List.mem_of_getElem? hi
    have h1 : Loc B (H.minus (some b)) (L.eraseIdx i) := by
      have ho : ∀ c, c ≠ b → (H.minus (some b)) c = H c := fun c hc => by
        unfold Hp.minus
        rw [if_neg (by simpa using fun e : b = c => hc e.symm)]
      exact h.lost i hi rfl ho
    exact h1
theorem Loc.subm {B H : Hp} {L : List E} (h : Loc B H L) (i : Nat) {kb : Option Nat} {ty : TypeId} {sz : Nat} {v : Value} {rows : List (List Value)} (hi : L[i]? = some (.own kb ty sz v rows)) : B.sub (H.minus kb) := (h.minus i hi).sub
/-- Behind a call that changed one slice. -/
theorem Loc.back {B H H' : Hp} {L L' : List E} (h : Loc B H L) (i : Nat) {kb : Option Nat} {ty ty' : TypeId} {sz sz' : Nat} {v v' : Value} {rows rows' : List (List Value)} (hi : L[i]? = some (.own kb ty sz v rows)) (h' : Loc (H.minus kb) H' (L' ++ [.own kb ty' sz' v' rows'])) : Loc B H' (L' ++ L.set i (.own kb ty' sz' v' rows')) := by
  have hm := h.minus i hi
  have hc := hm.call h'
  obtain ⟨e1, e2⟩ := set_split hi (.own kb ty' sz' v' rows')
  have e3 : L.eraseIdx i = L.take i ++ L.drop (i + 1) := List.eraseIdx_eq_take_drop_succ ..
  rw [e3] at hc
  rw [e2]
  refine ⟨hc.sub, fun e he => hc.ok e ?_, fun e he => hc.new e ?_, ?_⟩
  · simp only [List.mem_append, List.mem_cons, List.not_mem_nil, or_false] at he ⊢
    rcases he with h | h | h | h <;> simp [h]
  · simp only [List.mem_append, List.mem_cons, List.not_mem_nil, or_false] at he ⊢
    rcases he with h | h | h | h <;> simp [h]
  · have hp : (L' ++ (L.take i ++ (.own kb ty' sz' v' rows' : E) :: L.drop (i + 1))).Perm (L' ++ [.own kb ty' sz' v' rows'] ++ (L.take i ++ L.drop (i + 1))) := by
      rw [List.append_assoc]
      refine List.Perm.append_left _ ?_
      exact List.perm_middle
    exact (hp.pairwise_iff (fun {x y} hxy b hb hb' => hxy b hb' hb)).2 hc.apart
/-! ### joins -/
def joinQ (J : Tm → Hp → Prop) (Q : Ex → Tm → Hp → Prop) : Ex → Tm → Hp → Prop
  | .norm, T, H => J T H
  | .exit id, T, H => Q (.exit id) T H
  | .ret, T, H => Q .ret T H
section
variable {P : Program} {T : Tm} {B H : Hp} {Q : Ex → Tm → Hp → Prop} {k : AC} {L : List E}
theorem joinQ_exit (J : Tm → Hp → Prop) (id : Nat) : joinQ J Q (.exit id) T H = Q (.exit id) T H := rfl
theorem joinQ_ret (J : Tm → Hp → Prop) : joinQ J Q .ret T H = Q .ret T H := rfl
theorem aw_join {c : AC} (J : Tm → Hp → Prop) (hl : Live H) (hk : ∀ T' H', Live H' → Off (mods c) T' T → J T' H' → aw P k T' H' Q) (h : aw P c T H (joinQ J Q)) : aw P c T H (seqQ P k Q) := by
  refine aw_mono c hl (fun e T' H' hl' hq => ?_) (aw_mods c hl h)
  obtain ⟨_, hoff, hq⟩ := hq
  cases e
  · exact hk T' H' hl' hoff hq
  · exact hq
  · exact hq
theorem aw_cond_join {c : Operand} {a b : AC} {x : Bool} (J : Tm → Hp → Prop) (hl : Live H) (hk : ∀ T' H', Live H' → Off (mods a ++ mods b) T' T → J T' H' → aw P k T' H' Q) (hc : ev T c = .bool x) (h1 : x = true → aw P a T H (joinQ J Q)) (h2 : x = false → aw P b T H (joinQ J Q)) :
    aw P (.cond c a b k) T H Q := by
  refine aw_cond_split hc (fun e => aw_join J hl (fun T' H' hl' ho hj => hk T' H' hl' (fun t ht => ?_) hj) (h1 e)) (fun e => aw_join J hl (fun T' H' hl' ho hj => hk T' H' hl' (fun t ht => ?_) hj) (h2 e))
  · rw [contains_append_false] at ht; exact ho t ht.1
  · rw [contains_append_false] at ht; exact ho t ht.2
def AC.split : Nat → AC → Option (List AI × AC)
  | 0, c => some ([], c)
  | n + 1, .op i k => (AC.split n k).map fun p => (i :: p.1, p.2)
  | _, _ => none
theorem split_ops : ∀ (n : Nat) (c : AC) {l : List AI} {k : AC}, c.split n = some (l, k) → c = opsK k l
  | 0, c, l, k, h => by simp only [AC.split, Option.some.injEq, Prod.mk.injEq] at h; obtain ⟨rfl, rfl⟩ := h; rfl
  | n + 1, .op i c, l, k, h => by
    simp only [AC.split, Option.map_eq_some_iff] at h
    obtain ⟨p, hp, e⟩ := h
    cases e
    rw [split_ops n c hp]
    rfl
  | n + 1, .nil, l, k, h => by cases h
  | n + 1, .cond _ _ _ _, l, k, h => by cases h
  | n + 1, .blk _ _ _, l, k, h => by cases h
  | n + 1, .loop _, l, k, h => by cases h
  | n + 1, .exit _, l, k, h => by cases h
  | n + 1, .ret, l, k, h => by cases h
/-- Some operations, and what is known behind them. -/
theorem aw_cut (n : Nat) {c : AC} {l : List AI} {k : AC} (J : Tm → Hp → Prop) (hl : Live H) (hs : c.split n = some (l, k)) (h : aw P (opsK .nil l) T H (joinQ J Q)) (hk : ∀ T' H', Live H' → Off (mods (opsK .nil l)) T' T → J T' H' → aw P k T' H' Q) : aw P c T H Q := by
  rw [split_ops n c hs]
  have key : aw P (opsK .nil l) T H (seqQ P k Q) := aw_join J hl hk h
  rw [aw_opsK] at key ⊢
  exact key
theorem rngQ_cont (b b1 t2 ti i : Nat) (I : Nat → Tm → Hp → Prop) : rngQ P b b1 t2 ti i I k Q (.exit b1) T H = ∃ H2, H2.sub H ∧ I (i + 1) ((T.put t2 (.int .i64 (i + 1 : Nat))).put ti (.int .i64 (i + 1 : Nat))) H2 := by simp [rngQ]
theorem rngQ_brk (b b1 t2 ti i : Nat) (I : Nat → Tm → Hp → Prop) (h : (b == b1) = false) : rngQ P b b1 t2 ti i I k Q (.exit b) T H = aw P k T H Q := by simp at h; simp [rngQ, h]
theorem rngQ_out (b b1 t2 ti i id : Nat) (I : Nat → Tm → Hp → Prop) (h1 : (id == b1) = false) (h2 : (id == b) = false) : rngQ P b b1 t2 ti i I k Q (.exit id) T H = Q (.exit id) T H := by simp at h1 h2; simp [rngQ, h1, h2]
theorem rngQ_ret (b b1 t2 ti i : Nat) (I : Nat → Tm → Hp → Prop) : rngQ P b b1 t2 ti i I k Q .ret T H = Q .ret T H := rfl
theorem awL_wrR {d : Option Nat} {s sz : Nat} {p x : Operand} {b off j sub : Nat} {u : Value} {ty : TypeId} {v : Value} {kb : Option Nat} {rows : List (List Value)} {r r' : List Value} (i : Nat) (hl : Live H) (hL : Loc B H L) (hi : L[i]? = some (.own kb ty sz v rows)) (hkb : kb = some b) (hj : j < rows.length) (hr : rows.getD j [] = r)
    (hp : ev T p = .pointer (some ⟨b, off, none⟩)) (hoff : off = j * sz + sub) (hx : ev T x = u) (hs : stObj (some (.row true ty r sz)) sub s u = some (.row true ty r' sz))
    (h : ∀ H', Live H' → Loc B H' (L.set i (.own kb ty sz v (rows.set j r'))) → aw P k (T.puto d undef) H' Q) : aw P (.op ⟨d, none, .st s p x⟩ k) T H Q := by
  subst hkb hoff hr
  exact awL_wr i hl hL hi hj hp hx hs h
end
/-! ### slices.ContainsFunc, slices.IndexFunc -/
def ContW {α : Type} (xs : List α) (g : α → (Bool → Prop) → Prop) (Q : Bool → Prop) : Prop := ∃ p : α → Bool, (∀ x ∈ xs, ∀ Q' : Bool → Prop, Q' (p x) → g x Q') ∧ Q (xs.any p)
def IdxW {α : Type} (xs : List α) (g : α → (Bool → Prop) → Prop) (Q : Int → Prop) : Prop := ∃ p : α → Bool, (∀ x ∈ xs, ∀ Q' : Bool → Prop, Q' (p x) → g x Q') ∧ Q (idxOf p xs)
theorem idxOf_map {α β : Type} (f : α → β) (p : β → Bool) (xs : List α) : idxOf p (xs.map f) = idxOf (fun x => p (f x)) xs := by
  unfold idxOf
  rw [List.findIdx?_map]
  rfl
theorem idxOf_congr {α : Type} {p q : α → Bool} {xs : List α} (h : ∀ x ∈ xs, p x = q x) : idxOf p xs = idxOf q xs := by
  unfold idxOf
  have : xs.findIdx? p = xs.findIdx? q := by
    induction xs with
    | nil => rfl
    | cons x xs ih =>
      rw [List.findIdx?_cons, List.findIdx?_cons, h x (by simp), ih fun y hy => h y (by simp [hy])]
  rw [this]
theorem indexR {P : Program} {f : FuncId} {agg : Bool} {sz : Nat} (hf : prepFn P f = some (idxAF agg sz)) (hg : (agg || sz == 1) = true) {α : Type} {R : Rd α} (hok : RdOk R sz)
    (p : α → Bool) (xs : List α) {v : Value} {H : Hp} {g : FuncId} {cp : List Value} (hs : SlR R sz H xs v)
    (hc : ∀ x ∈ xs, ∀ cs, R H x cs → ∀ K : Value → Hp → Prop, K (.bool (p x)) H → ACalls P g ([valOf agg cs] ++ cp).toArray H K) {K : Value → Hp → Prop} (hK : K (.int .i64 (idxOf p xs)) H) :
    ACalls P f #[v, .func (.func g) #[] cp.toArray] H K := by
  obtain ⟨rows, h1, h2⟩ := hs
  let ps : List (α × List Value) := xs.zip rows
  have hp1 : ps.map (·.2) = rows := List.map_snd_zip (by rw [h2.1]; exact Nat.le_refl _)
  have hp2 : ps.map (·.1) = xs := List.map_fst_zip (by rw [h2.1]; exact Nat.le_refl _)
  have hm : ∀ q ∈ ps, q.1 ∈ xs ∧ R H q.1 q.2 := by
    intro q hq
    obtain ⟨i, hi, rfl⟩ := List.getElem_of_mem hq
    have hi' : i < xs.length ∧ i < rows.length := by simp [ps] at hi; omega
    have hx : ps[i] = (xs[i], rows[i]) := by simp [ps]
    rw [hx]
    refine ⟨by simp, ?_⟩
    have := h2.2 i xs[i] (by simp [hi'.1])
    rw [List.getD_eq_getElem?_getD, List.getElem?_eq_getElem hi'.2] at this
    exact this
  let ps' : List {q : α × List Value // q.2.length = sz} := ps.attach.map fun q => ⟨q.1, hok.len (hm q.1 q.2).2⟩
  have e1 : ps'.map (fun q => q.1) = ps := by
    rw [show ps'.map (fun q => q.1) = ps.attach.map Subtype.val by simp only [ps', List.map_map]; rfl]
    exact List.attach_map_subtype_val ps
  have e2 : ps'.map (fun q => q.1.2) = rows := by rw [← hp1, ← e1]; simp only [List.map_map, Function.comp_def]
  have e3 : ps'.map (fun q => q.1.1) = xs := by rw [← hp2, ← e1]; simp only [List.map_map, Function.comp_def]
  refine indexFunc_spec hf hg (fun q : {q : α × List Value // q.2.length = sz} => q.1.2) (fun q => q.2) (fun q => p q.1.1) ps' (by rw [e2]; exact h1) (fun q hq K hk => ?_) ?_
  · have : q.1 ∈ ps := by rw [← e1]; exact List.mem_map_of_mem hq
    exact hc q.1.1 (hm _ this).1 _ (hm _ this).2 K hk
  · rw [← idxOf_map (fun q : {q : α × List Value // q.2.length = sz} => q.1.1) p ps', e3]
    exact hK
theorem containsR {P : Program} {f fi : FuncId} {agg : Bool} {sz : Nat} (hf : prepFn P f = some (cntAF fi)) (hfi : prepFn P fi = some (idxAF agg sz)) (hg : (agg || sz == 1) = true) {α : Type} {R : Rd α} (hok : RdOk R sz)
    (p : α → Bool) (xs : List α) {v : Value} {H : Hp} {g : FuncId} {cp : List Value} (hs : SlR R sz H xs v)
    (hc : ∀ x ∈ xs, ∀ cs, R H x cs → ∀ K : Value → Hp → Prop, K (.bool (p x)) H → ACalls P g ([valOf agg cs] ++ cp).toArray H K) {K : Value → Hp → Prop} (hK : K (.bool (xs.any p)) H) :
    ACalls P f #[v, .func (.func g) #[] cp.toArray] H K := by
  refine acalls_go hf rfl fun hl => ?_
  simp only [cntAF]
  (try simp only [go_sem, ↓reduceIte, Nat.reduceEqDiff, reduceCtorEq, Nat.reduceAdd, Nat.reduceLeDiff, Nat.reduceSub, Nat.reduceMul, Int.reduceEq, Nat.reduceBEq])
  refine aw_call (by (try simp only [go_sem, ↓reduceIte, Nat.reduceEqDiff, reduceCtorEq, Nat.reduceAdd, Nat.reduceLeDiff, Nat.reduceSub, Nat.reduceMul, Int.reduceEq, Nat.reduceBEq]) <;> rfl) (by (try simp only [go_sem, ↓reduceIte, Nat.reduceEqDiff, reduceCtorEq, Nat.reduceAdd, Nat.reduceLeDiff, Nat.reduceSub, Nat.reduceMul, Int.reduceEq, Nat.reduceBEq]) <;> rfl) (indexR hfi hg hok p xs hs hc ?_)
  rw [← idxOf_ge] at hK
  (try simp only [go_sem, ↓reduceIte, Nat.reduceEqDiff, reduceCtorEq, Nat.reduceAdd, Nat.reduceLeDiff, Nat.reduceSub, Nat.reduceMul, Int.reduceEq, Nat.reduceBEq])
  exact retQ_r1 (by (try simp only [go_sem, ↓reduceIte, Nat.reduceEqDiff, reduceCtorEq, Nat.reduceAdd, Nat.reduceLeDiff, Nat.reduceSub, Nat.reduceMul, Int.reduceEq, Nat.reduceBEq]) <;> rfl) H (Hp.sub.refl _) hK
end Go.Proofs.Ytonmmfjagkgifaa
