/- The abstract calculus, twenty-first text: what code has made itself, as one list. -/
import Derived.Test.YtonmmfjagkgifaaInts
set_option linter.unusedVariables false
set_option linter.unusedSimpArgs false
namespace Go.Proofs.Ytonmmfjagkgifaa
open Go.RowKit

/-- What code has made: a block with a row of cells; a slice (nil, or in a block of its own). -/
inductive E where
  | box (b : Nat) (ty : TypeId) (xs : List Value) (tot : Nat)
  | own (kb : Option Nat) (ty : TypeId) (sz : Nat) (v : Value) (rows : List (List Value))
def E.key : E → Option Nat
  | .box b _ _ _ => some b
  | .own kb _ _ _ _ => kb
def E.ok (H : Hp) : E → Prop
  | .box b ty xs tot => H b = some (.row true ty xs tot)
  | .own none ty sz v rows => v = .slice none 0 0 ∧ rows = []
  | .own (some b) ty sz v rows => Own H b ty sz v rows
theorem E.ok_off {H H' : Hp} {e : E} (h : e.ok H) (hb : ∀ b, e.key = some b → H' b = H b) : e.ok H' := by
  cases e with
  | box b ty xs tot => show H' b = _; rw [hb b rfl]; exact h
  | own kb ty sz v rows =>
    cases kb with
    | none => exact h
    | some b => exact Own.off h (hb b rfl)
theorem E.has {H : Hp} {e : E} (h : e.ok H) {b : Nat} (hb : e.key = some b) : H b ≠ none := by
  cases e with
  | box b' ty xs tot =>
    cases hb
    have h' : H b = some (.row true ty xs tot) := h
    rw [h']; simp
  | own kb ty sz v rows =>
    cases hb
    obtain ⟨o, ho⟩ := Own.blk h
    rw [ho]; simp
structure Loc (B H : Hp) (L : List E) : Prop where
  sub : B.sub H
  ok : ∀ e ∈ L, e.ok H
  new : ∀ e ∈ L, ∀ b, e.key = some b → B b = none
  apart : L.Pairwise fun e e' => ∀ b, e.key = some b → e'.key ≠ some b
theorem Loc.nil (B : Hp) : Loc B B [] := ⟨Hp.sub.refl _, by simp, by simp, List.Pairwise.nil⟩
theorem Loc.get {B H : Hp} {L : List E} (h : Loc B H L) (i : Nat) {e : E} (hi : L[i]? = some e) : e.ok H := h.ok e (List.mem_of_getElem? hi)
theorem Loc.box {B H : Hp} {L : List E} (h : Loc B H L) (i : Nat) {b : Nat} {ty : TypeId} {xs : List Value} {tot : Nat} (hi : L[i]? = some (.box b ty xs tot)) : H b = some (.row true ty xs tot) := h.get i hi
theorem Loc.drop {B H : Hp} {L : List E} (h : Loc B H L) (n : Nat) : Loc B H (L.drop n) :=
  ⟨h.sub, fun e he => h.ok e (List.mem_of_mem_drop he), fun e he => h.new e (List.mem_of_mem_drop he), h.apart.sublist (List.drop_sublist n L)⟩
theorem Loc.pick {B H : Hp} {L L' : List E} (h : Loc B H L) (hs : List.Sublist L' L) : Loc B H L' :=
  ⟨h.sub, fun e he => h.ok e (hs.subset he), fun e he => h.new e (hs.subset he), h.apart.sublist hs⟩
/-- A new entry. -/
theorem Loc.push {B H H' : Hp} {L : List E} (h : Loc B H L) {e : E} {b : Nat} (hk : ∀ b', e.key = some b' → b' = b) (hb : H b = none) (ho : ∀ c, c ≠ b → H' c = H c) (he : e.ok H') : Loc B H' (e :: L) := by
  have hne : ∀ e' ∈ L, ∀ c, e'.key = some c → c ≠ b := fun e' he' c hc eq => E.has (h.ok e' he') hc (by rw [eq]; exact hb)
  refine ⟨sub_off h.sub (sub_none h.sub hb) ho, fun e' he' => ?_, fun e' he' c hc => ?_, List.Pairwise.cons (fun e' he' c hc hc' => ?_) h.apart⟩
  · rcases List.mem_cons.1 he' with rfl | he'
    · exact he
    · exact E.ok_off (h.ok e' he') fun c hc => ho c (hne e' he' c hc)
  · rcases List.mem_cons.1 he' with rfl | he'
    · rw [hk c hc]; exact sub_none h.sub hb
    · exact h.new e' he' c hc
  · exact hne e' he' c hc' (hk c hc)
theorem set_split {α : Type} {L : List α} {i : Nat} {e : α} (hi : L[i]? = some e) (e' : α) : L = L.take i ++ e :: L.drop (i + 1) ∧ L.set i e' = L.take i ++ e' :: L.drop (i + 1) := by
  obtain ⟨hlt, he⟩ := List.getElem?_eq_some_iff.1 hi
  constructor
  · rw [← he, ← List.drop_eq_getElem_cons hlt, List.take_append_drop]
  · rw [List.set_eq_take_append_cons_drop, if_pos hlt]
/-- An entry that changes. -/
theorem Loc.upd {B H H' : Hp} {L : List E} (h : Loc B H L) (i : Nat) {e e' : E} (hi : L[i]? = some e) {b : Nat} (hk : ∀ b', e'.key = some b' → b' = b) (hb : e.key = some b ∨ H b = none) (ho : ∀ c, c ≠ b → H' c = H c) (he : e'.ok H') : Loc B H' (L.set i e') := by
  obtain ⟨h1, h2⟩ := set_split hi e'
  rw [h2]
  rw [h1] at h
  generalize L.take i = L1 at *
  generalize L.drop (i + 1) = L2 at *
  have hap := h.apart
  rw [List.pairwise_append, List.pairwise_cons] at hap
  obtain ⟨a1, ⟨a2, a3⟩, a4⟩ := hap
  have hB : B b = none := by
    rcases hb with hb | hb
    · exact h.new e (by simp) b hb
    · exact sub_none h.sub hb
  have hne : ∀ x, x ∈ L1 ∨ x ∈ L2 → ∀ c, x.key = some c → c ≠ b := by
    rintro x hx c hc rfl
    rcases hb with hb | hb
    · rcases hx with hx | hx
      · exact a4 x hx e (by simp) c hc hb
      · exact a2 x hx c hb hc
    · refine E.has (h.ok x ?_) hc hb
      rcases hx with hx | hx <;> simp [hx]
  refine ⟨sub_off h.sub hB ho, fun x hx => ?_, fun x hx c hc => ?_, ?_⟩
  · rcases List.mem_append.1 hx with hx | hx
    · exact E.ok_off (h.ok x (by simp [hx])) fun c hc => ho c (hne x (.inl hx) c hc)
    · rcases List.mem_cons.1 hx with rfl | hx
      · exact he
      · exact E.ok_off (h.ok x (by simp [hx])) fun c hc => ho c (hne x (.inr hx) c hc)
  · rcases List.mem_append.1 hx with hx | hx
    · exact h.new x (by simp [hx]) c hc
    · rcases List.mem_cons.1 hx with rfl | hx
      · rw [hk c hc]; exact hB
      · exact h.new x (by simp [hx]) c hc
  · rw [List.pairwise_append, List.pairwise_cons]
    refine ⟨a1, ⟨fun x hx c hc hc' => hne x (.inr hx) c hc' (hk c hc), a3⟩, fun x hx y hy c hc hc' => ?_⟩
    rcases List.mem_cons.1 hy with rfl | hy
    · exact hne x (.inl hx) c hc (hk c hc')
    · exact a4 x hx y (by simp [hy]) c hc hc'
/-- Behind a call. -/
theorem Loc.call {B H H' : Hp} {L L' : List E} (h : Loc B H L) (h' : Loc H H' L') : Loc B H' (L' ++ L) := by
  refine ⟨h.sub.trans h'.sub, fun e he => ?_, fun e he b hb => ?_, ?_⟩
  · rcases List.mem_append.1 he with he | he
    · exact h'.ok e he
    · refine E.ok_off (h.ok e he) fun b hb => ?_
      cases e1 : H b with
      | none => exact absurd e1 (E.has (h.ok e he) hb)
      | some o => exact h'.sub b o e1
  · rcases List.mem_append.1 he with he | he
    · exact sub_none h.sub (h'.new e he b hb)
    · exact h.new e he b hb
  · rw [List.pairwise_append]
    refine ⟨h'.apart, h.apart, fun x hx y hy b hb hb' => ?_⟩
    exact E.has (h.ok y hy) hb' (h'.new x hx b hb)
theorem Loc.sl {B H : Hp} {L : List E} (h : Loc B H L) (i : Nat) {kb : Option Nat} {ty sz : Nat} {v : Value} {rows : List (List Value)} (hi : L[i]? = some (.own kb ty sz v rows)) (hsz : 0 < sz) (hle : rows.length ≤ 1152921504606846976) : Sl H sz v rows := by
  have := h.get i hi
  cases kb with
  | none => obtain ⟨rfl, rfl⟩ := this; exact ⟨none, 0, rfl, by simp, fun i hi => absurd hi (by simp)⟩
  | some b => exact Own.sl this hsz hle
theorem Loc.len {B H : Hp} {L : List E} (h : Loc B H L) (i : Nat) {kb : Option Nat} {ty sz : Nat} {v : Value} {rows : List (List Value)} (hi : L[i]? = some (.own kb ty sz v rows)) : vLen false v = some (.int .i64 rows.length) := by
  have := h.get i hi
  cases kb with
  | none => obtain ⟨rfl, rfl⟩ := this; rfl
  | some b => exact Own.len this
/-- Where a row of a slice that was made here lies. -/
theorem Loc.at {B H : Hp} {L : List E} (h : Loc B H L) (i : Nat) {kb : Option Nat} {ty sz : Nat} {v : Value} {rows : List (List Value)} (hi : L[i]? = some (.own kb ty sz v rows)) {k : IntKind} {j : Int} (h0 : 0 ≤ j) (h1 : j < rows.length) :
    ∃ b off, vIa sz v (.int k j) = some (.pointer (some ⟨b, off, none⟩)) ∧ rdObj (H b) off sz = some (rows.getD j.toNat []) ∧ kb = some b ∧ off = j.toNat * sz := by
  have := h.get i hi
  cases kb with
  | none => obtain ⟨rfl, rfl⟩ := this; simp at h1; omega
  | some b =>
    have ho : Own H b ty sz v rows := this
    obtain ⟨c, tot, rfl, hb, hc, hr⟩ := ho
    refine ⟨b, j.toNat * sz, by simp [vIa_s, h0, h1, add_mk], ?_, rfl, rfl⟩
    have hlt : j.toNat < rows.length := by omega
    have hf := flat_len hr
    have key : ∀ (rows : List (List Value)) (i : Nat), (∀ r ∈ rows, r.length = sz) → i < rows.length → (rows.flatten.drop (i * sz)).take sz = rows.getD i [] := by
      intro rows
      induction rows with
      | nil => intro i _ h; simp at h
      | cons r rows ih =>
        intro i hr hi
        have hr0 := hr r (by simp)
        cases i with
        | zero => simp [List.take_append_of_le_length, hr0]
        | succ i =>
          rw [List.flatten_cons, show (i + 1) * sz = r.length + i * sz by rw [hr0, Nat.succ_mul, Nat.add_comm], List.drop_append, List.drop_eq_nil_of_le (by omega), List.nil_append, Nat.add_sub_cancel_left, List.getD_cons_succ]
          exact ih i (fun r hr' => hr r (by simp [hr'])) (by simpa using hi)
    rw [hb, rdObj_row, if_pos, key rows _ hr hlt]
    have : (j.toNat + 1) * sz ≤ rows.length * sz := Nat.mul_le_mul_right sz hlt
    rw [Nat.succ_mul] at this; omega

theorem rd_part {o : Option AObj} {off n k m : Nat} {row : List Value} (h : rdObj o off n = some row) (hk : k + m ≤ n) : rdObj o (off + k) m = some ((row.drop k).take m) := by
  cases o with
  | none => cases h
  | some o =>
    cases o with
    | raw o => cases h
    | row own ty xs tot =>
      rw [rdObj_row] at h ⊢
      split at h
      · rename_i hc
        simp only [Option.some.injEq] at h
        subst h
        rw [if_pos (by omega)]
        congr 1
        rw [List.drop_take, List.take_take, List.drop_drop, Nat.min_eq_left (by omega)]
      · cases h
theorem rd_gc {o : Option AObj} {off n k : Nat} {g : Nat → Bool} (h : rdObj o off n = some (gcells n g)) (hk : k < n) : rdObj o (off + k) 1 = some [.bool (g k)] := by
  rw [rd_part h (by omega), gc_part _ _ _ _ (by omega)]; rfl
theorem rd_gcs {o : Option AObj} {off n k m : Nat} {g : Nat → Bool} (h : rdObj o off n = some (gcells n g)) (hk : k + m ≤ n) : rdObj o (off + k) m = some (gcells m fun i => g (k + i)) := by
  rw [rd_part h hk, gc_part _ _ _ _ hk]

theorem Loc.put {B H : Hp} {L : List E} (h : Loc B H L) (i : Nat) {b : Nat} {ty : TypeId} {xs xs' : List Value} {tot : Nat} (hi : L[i]? = some (.box b ty xs tot)) : Loc B (H.set b (.row true ty xs' tot)) (L.set i (.box b ty xs' tot)) :=
  h.upd i hi (fun _ e => by cases e; rfl) (.inl rfl) (fun c hc => set_ne hc) (set_same _ _ _)
/-- What will only be read is held to have been there. -/
theorem Loc.grow {B H : Hp} {L : List E} (h : Loc B H L) {b : Nat} {o : AObj} (hb : H b = none) : Loc (B.set b o) (H.set b o) L := by
  have hne : ∀ e ∈ L, ∀ c, e.key = some c → c ≠ b := fun e he c hc eq => E.has (h.ok e he) hc (by rw [eq]; exact hb)
  exact ⟨sub_set2 h.sub, fun e he => E.ok_off (h.ok e he) fun c hc => set_ne (hne e he c hc), fun e he c hc => by rw [set_ne (hne e he c hc)]; exact h.new e he c hc, h.apart⟩
theorem Loc.base {A B H : Hp} {L : List E} (h : Loc B H L) (hs : A.sub B) : Loc A H L := ⟨hs.trans h.sub, h.ok, fun e he b hb => sub_none hs (h.new e he b hb), h.apart⟩
theorem Loc.freeze {B H : Hp} {L : List E} (h : Loc B H L) (i : Nat) {b : Nat} {ty : TypeId} {xs : List Value} {tot : Nat} (hi : L[i]? = some (.box b ty xs tot)) : B b = none ∧ Loc (B.set b (.row true ty xs tot)) H (L.eraseIdx i) := by
  have hm := List.mem_of_getElem? hi
  have hB := h.new _ hm b rfl
  obtain ⟨h1, _⟩ := set_split hi (.box b ty xs tot)
  have he : L.eraseIdx i = L.take i ++ L.drop (i + 1) := List.eraseIdx_eq_take_drop_succ ..
  have hap := h.apart
  have hs : List.Sublist (L.eraseIdx i) L := List.eraseIdx_sublist ..
  have hne : ∀ e ∈ L.eraseIdx i, ∀ c, e.key = some c → c ≠ b := by
    intro e hx c hc eq
    subst eq
    rw [h1, List.pairwise_append, List.pairwise_cons] at hap
    obtain ⟨a1, ⟨a2, a3⟩, a4⟩ := hap
    rw [he] at hx
    rcases List.mem_append.1 hx with hx | hx
    · exact a4 e hx (.box c ty xs tot) (by simp) c hc rfl
    · exact a2 e hx c rfl hc
  refine ⟨hB, fun c o hc => ?_, fun e hx => h.ok e (hs.subset hx), fun e hx c hc => ?_, h.apart.sublist hs⟩
  · rw [set_get] at hc
    split at hc
    · rename_i e; subst e; rw [← hc]; exact h.box i hi
    · exact h.sub c o hc
  · rw [set_ne (hne e hx c hc)]
    exact h.new e (hs.subset hx) c hc
theorem wrap_i8 {n : Int} (h0 : -128 ≤ n) (h1 : n ≤ 127) : IntKind.i8.wrap n = n := by
  simp only [IntKind.wrap, IntKind.bits, IntKind.signed]
  simp
  omega
theorem wrap_i16 {n : Int} (h0 : -32768 ≤ n) (h1 : n ≤ 32767) : IntKind.i16.wrap n = n := by
  simp only [IntKind.wrap, IntKind.bits, IntKind.signed]
  simp
  omega
theorem aw_guard_u {P : Program} {T : Tm} {H : Hp} {Q : Ex → Tm → Hp → Prop} {k : AC} (d : Option Nat) (t : Nat) (want : Bool) (op : AOp) (h : T t = undef) : aw P (.op ⟨d, some (t, want), op⟩ k) T H Q = aw P k (T.puto d undef) H Q := by
  rw [aw_guard_eq, h]; rfl
theorem abin_shr1 (k k' : IntKind) (a : Int) : abin .shr (.int k a) (.int k' 1) = some (.int k (a.fdiv 2)) := by
  rw [abin_shr _ _ _ _ (by decide)]
  cases k <;> rfl
theorem abin_shl1 (k k' : IntKind) (a : Int) : abin .shl (.int k a) (.int k' 1) = some (.int k (k.wrap (a * 2))) := by
  rw [abin_shl _ _ _ _ (by decide)]
  cases k <;> rfl
theorem vBld_def (T : Tm) (z : List Value) (ps : List (Nat × Nat × Operand)) : vBld T z ps = (aparts T ps).bind fun ps => (afill z ps).map fun cs => .agg cs.toArray := rfl
theorem lpQ_exit (I : Nat → Tm → Hp → Prop) (n : Nat) (Q : Ex → Tm → Hp → Prop) (id : Nat) (T : Tm) (H : Hp) : lpQ I n Q (.exit id) T H = Q (.exit id) T H := rfl
theorem lpQ_ret (I : Nat → Tm → Hp → Prop) (n : Nat) (Q : Ex → Tm → Hp → Prop) (T : Tm) (H : Hp) : lpQ I n Q .ret T H = Q .ret T H := rfl
/-- A new block that is a slice. -/
theorem Loc.slice {B H : Hp} {L : List E} (h : Loc B H L) {b ty sz n tot : Nat} {cs : List Value} (hb : H b = none) (rows : List (List Value)) (hr : ∀ r ∈ rows, r.length = sz) (hn : n = rows.length) (hc : cs = rows.flatten) (ht : n * sz ≤ tot) : Loc B (H.set b (.row true ty cs tot)) (.own (some b) ty sz (.slice (some ⟨b, 0, none⟩) n n) rows :: L) := by
  subst hn hc
  exact h.push (fun _ e => by cases e; rfl) hb (fun c hc => set_ne hc) ⟨_, _, rfl, set_same _ _ _, ⟨ht, Nat.le_refl _⟩, hr⟩
/-- A block of which nothing is known any more. -/
theorem Loc.lost {B H H' : Hp} {L : List E} (h : Loc B H L) (i : Nat) {e : E} (hi : L[i]? = some e) {b : Nat} (hb : e.key = some b) (ho : ∀ c, c ≠ b → H' c = H c) : Loc B H' (L.eraseIdx i) := by
  have hm := List.mem_of_getElem? hi
  obtain ⟨h1, _⟩ := set_split hi e
  have he : L.eraseIdx i = L.take i ++ L.drop (i + 1) := List.eraseIdx_eq_take_drop_succ ..
  have hap := h.apart
  have hs : List.Sublist (L.eraseIdx i) L := List.eraseIdx_sublist ..
  have hne : ∀ x ∈ L.eraseIdx i, ∀ c, x.key = some c → c ≠ b := by
    intro x hx c hc eq
    subst eq
    rw [h1, List.pairwise_append, List.pairwise_cons] at hap
    obtain ⟨a1, ⟨a2, a3⟩, a4⟩ := hap
    rw [he] at hx
    rcases List.mem_append.1 hx with hx | hx
    · exact a4 x hx e (by simp) c hc hb
    · exact a2 x hx c hb hc
  exact ⟨sub_off h.sub (h.new e hm b hb) ho, fun x hx => E.ok_off (h.ok x (hs.subset hx)) fun c hc => ho c (hne x hx c hc), fun x hx => h.new x (hs.subset hx), h.apart.sublist hs⟩
section
variable {P : Program} {T : Tm} {B H : Hp} {Q : Ex → Tm → Hp → Prop} {k : AC} {L : List E}
theorem aw_callL {d : Option Nat} {f : Operand} {args : List Operand} {fid : FuncId} {av : List Value} (hf : ev T f = .func (.func fid) #[] #[]) (ha : args.map (ev T) = av)
    (h : ACalls P fid av.toArray H (fun v H' => Live H' → aw P k (T.puto d v) H' Q)) : aw P (.op ⟨d, none, .call f args⟩ k) T H Q :=
  aw_call hf ha (acalls_mono h fun r H' hl hk => hk hl)
theorem awL_box {d ty : Nat} {x : Operand} (cs : List Value) (hl : Live H) (hL : Loc B H L) (hv : valCells (ev T x) = cs) (h : ∀ b H', Live H' → Loc B H' (.box b ty cs cs.length :: L) → aw P k (T.put d (.pointer (some ⟨b, 0, none⟩))) H' Q) :
    aw P (.op ⟨some d, none, .box ty x⟩ k) T H Q :=
  aw_box hv fun b hb => h b _ (Live.set hl _ _ _ _ (Nat.le_refl _)) (hL.push (fun _ e => by cases e; rfl) hb (fun c hc => set_ne hc) (set_same _ _ _))
theorem awL_alloc {d ty : Nat} {z : List Value} (hl : Live H) (hL : Loc B H L) (h : ∀ b H', Live H' → Loc B H' (.box b ty z z.length :: L) → aw P k (T.put d (.pointer (some ⟨b, 0, none⟩))) H' Q) : aw P (.op ⟨some d, none, .alloc ty z⟩ k) T H Q :=
  aw_alloc fun b hb => h b _ (Live.set hl _ _ _ _ (Nat.le_refl _)) (hL.push (fun _ e => by cases e; rfl) hb (fun c hc => set_ne hc) (set_same _ _ _))
theorem aw_st' (d : Option Nat) (s : Nat) (p x : Operand) {H' : Hp} (h : astore H s (ev T p) (ev T x) = some H') (hk : aw P k (T.puto d undef) H' Q) : aw P (.op ⟨d, none, .st s p x⟩ k) T H Q := ⟨H', h, hk⟩
theorem awL_st {d : Option Nat} {s : Nat} {p x : Operand} {b off : Nat} {v : Value} {ty : TypeId} {xs xs' : List Value} {tot : Nat} (i : Nat) (hl : Live H) (hL : Loc B H L) (hi : L[i]? = some (.box b ty xs tot)) (hp : ev T p = .pointer (some ⟨b, off, none⟩)) (hx : ev T x = v)
    (hs : stObj (some (.row true ty xs tot)) off s v = some (.row true ty xs' tot)) (h : ∀ H', Live H' → Loc B H' (L.set i (.box b ty xs' tot)) → aw P k (T.puto d undef) H' Q) : aw P (.op ⟨d, none, .st s p x⟩ k) T H Q := by
  have hb := hL.box i hi
  refine aw_st' d s p x (H' := H.set b (.row true ty xs' tot)) ?_ (h _ ?_ ?_)
  · rw [hp, hx, astore_ptr, hb, hs]; rfl
  · refine Live.set hl _ _ _ _ ?_
    have h1 := hl.len hb
    rw [stObj_row] at hs
    split at hs
    · rename_i hc
      simp only [Option.some.injEq, AObj.row.injEq, true_and, and_true] at hs
      subst hs
      unfold splice
      simp only [List.length_append, List.length_take, List.length_drop, Array.length_toList]
      omega
    · cases hs
  · exact hL.upd i hi (fun _ e => by cases e; rfl) (.inl rfl) (fun c hc => set_ne hc) (set_same _ _ _)
/-- A new slice of rows. -/
theorem awL_bsl {d ty n : Nat} {z : List Value} {ps : List (Nat × Nat × Operand)} {cs : List Value} (sz : Nat) (rows : List (List Value)) (hl : Live H) (hL : Loc B H L) (hc : (aparts T ps).bind (afill (repZero z n)) = some cs) (hn : n = rows.length) (hr : ∀ r ∈ rows, r.length = sz) (hf : cs = rows.flatten)
    (h : ∀ b v H', Live H' → Loc B H' (.own (some b) ty sz v rows :: L) → aw P k (T.put d v) H' Q) : aw P (.op ⟨some d, none, .bsl ty n z ps⟩ k) T H Q :=
  aw_bsl hc fun b hb => h b _ _ (Live.set hl _ _ _ _ (Nat.le_refl _)) (hL.push (fun _ e => by cases e; rfl) hb (fun c hc => set_ne hc) (Own.made rows hn hr (set_same _ _ _) hf))
theorem awL_bsl0 {d ty : Nat} {z : List Value} (sz : Nat) (hl : Live H) (hL : Loc B H L) (h : ∀ b v H', Live H' → Loc B H' (.own (some b) ty sz v [] :: L) → aw P k (T.put d v) H' Q) : aw P (.op ⟨some d, none, .bsl ty 0 z []⟩ k) T H Q :=
  awL_bsl sz [] hl hL rfl rfl (fun r hr => by cases hr) rfl h
theorem awL_bsl1 {d ty sz : Nat} {z : List Value} {x : Operand} (r : List Value) (hl : Live H) (hL : Loc B H L) (hx : valCells (ev T x) = r) (hz : z.length = sz) (hr : r.length = sz) (h : ∀ b v H', Live H' → Loc B H' (.own (some b) ty sz v [r] :: L) → aw P k (T.put d v) H' Q) :
    aw P (.op ⟨some d, none, .bsl ty 1 z [(0, sz, x)]⟩ k) T H Q := by
  refine awL_bsl sz [r] hl hL (cs := r) ?_ rfl (fun r' hr' => by simp at hr'; subst hr'; exact hr) (by simp) h
  rw [aparts_cons, hx, if_pos hr, aparts_nil, Option.map_some, Option.bind_some, afill_cons, rz1, if_pos (by omega), afill_nil, splice_eq, List.take_zero, List.nil_append, List.drop_eq_nil_of_le (by omega), List.append_nil]
theorem repZ_flat (z : List Value) (n : Nat) : repZero z n = (List.replicate n z).flatten := rfl
theorem awL_msl {d ty by_ : Nat} {z : List Value} {l c : Operand} {kl kc : IntKind} {lv : Int} (sz : Nat) (hz : z.length = sz) (hl : Live H) (hL : Loc B H L) (h1 : ev T l = .int kl lv) (h2 : ev T c = .int kc lv) (h0 : 0 ≤ lv) (h3 : (by_ : Int) * lv ≤ 281474976710656) (h4 : lv ≤ 9223372036854775807)
    (h : ∀ b v H', Live H' → Loc B H' (.own (some b) ty sz v (List.replicate lv.toNat z) :: L) → aw P k (T.put d v) H' Q) : aw P (.op ⟨some d, none, .msl ty by_ z l c⟩ k) T H Q := by
  subst hz
  have hlen : (repZero z lv.toNat).length = lv.toNat * z.length := by
    rw [repZ_flat, flat_len (sz := z.length) (by intro r hr; rw [List.eq_of_mem_replicate hr])]; simp
  refine aw_msl h1 h2 h0 (Int.le_refl _) h3 h4 fun b hb => h b _ _ (Live.set hl _ _ _ _ (Nat.le_of_eq hlen)) (hL.push (fun _ e => by cases e; rfl) hb (fun c hc => set_ne hc) ?_)
  refine ⟨lv.toNat, _, by simp, by rw [set_same, repZ_flat], ⟨Nat.le_refl _, by simp⟩, fun r hr => by rw [List.eq_of_mem_replicate hr]⟩
/-- Rows more. -/
theorem awL_app {d ty sz by_ : Nat} {x y : Operand} {xv yv : Value} {kb : Option Nat} {rows : List (List Value)} (new : List (List Value)) (i : Nat) (hl : Live H) (hL : Loc B H L) (hi : L[i]? = some (.own kb ty sz xv rows)) (hx : ev T x = xv) (hy : ev T y = yv)
    (hn : anew H sz yv = some (new.length, new.flatten)) (hone : new.flatten.all Value.oneCell' = true) (hsz : ∀ r ∈ new, r.length = sz) (hbig : (rows.length + new.length) * by_ ≤ 140737488355328) (hbig2 : rows.length + new.length ≤ 9223372036854775807)
    (h : ∀ kb' v' H', Live H' → Loc B H' (L.set i (.own kb' ty sz v' (rows ++ new))) → aw P k (T.put d v') H' Q) : aw P (.op ⟨some d, none, .app ty sz by_ x y⟩ k) T H Q := by
  have hnf := flat_len hsz
  have hok := hL.get i hi
  refine aw_app hx hy ⟨new.length, new.flatten, hn, hone, ?_⟩
  cases kb with
  | none =>
    obtain ⟨rfl, rfl⟩ := hok
    simp only
    refine ⟨fun h0 => ?_, fun hpos => ⟨by simpa using hbig, by simpa using hbig2, fun b c hb hc => ?_⟩⟩
    · have hne : new = [] := List.length_eq_zero_iff.1 h0
      subst hne
      have hi' := hi
      obtain ⟨h1, h2⟩ := set_split hi (.own none ty sz (.slice none 0 0) [])
      refine h none _ _ hl ?_
      rw [List.append_nil, h2, ← h1]
      exact hL
    · refine h (some b) _ _ (Live.set hl _ _ _ _ (by rw [hnf]; exact Nat.mul_le_mul_right _ hc)) (hL.upd i hi (fun _ e => by cases e; rfl) (.inr hb) (fun c hc => set_ne hc) ?_)
      exact ⟨c, _, by simp, by rw [set_same]; rfl, ⟨Nat.le_refl _, by simpa using hc⟩, by simpa using hsz⟩
  | some b =>
    have ho : Own H b ty sz xv rows := hok
    obtain ⟨c, tot, rfl, hb, hc, hr⟩ := ho
    have hf := flat_len hr
    have hr' : ∀ r' ∈ rows ++ new, r'.length = sz := by
      intro r' h'
      rcases List.mem_append.1 h' with h' | h'
      · exact hr r' h'
      · exact hsz r' h'
    have htot := hl.len hb
    simp only
    refine ⟨rows.flatten, tot, hb, by rw [hf]; exact Nat.le_refl _, hbig, hbig2, fun hle => ⟨hc.1, ?_⟩, fun hlt b' c' hb' hc' => ?_⟩
    · have hsp : splice rows.flatten (rows.length * sz) new.flatten = rows.flatten ++ new.flatten := by
        unfold splice
        rw [← hf, List.take_length, List.drop_eq_nil_of_le (by omega)]
        simp
      refine h (some b) _ _ (Live.set hl _ _ _ _ ?_) (hL.upd i hi (fun _ e => by cases e; rfl) (.inl rfl) (fun c hc => set_ne hc) ⟨c, tot, ?_, ?_, ⟨hc.1, by simpa using hle⟩, hr'⟩)
      · rw [hsp, List.length_append, hf, hnf, ← Nat.add_mul]
        exact Nat.le_trans (Nat.mul_le_mul_right _ hle) hc.1
      · simp
      · rw [set_same, hsp]; simp
    · refine h (some b') _ _ (Live.set hl _ _ _ _ ?_) (hL.upd i hi (fun _ e => by cases e; rfl) (.inr hb') (fun c hc => set_ne hc) ⟨c', c' * sz, ?_, ?_, ⟨Nat.le_refl _, by simpa using hc'⟩, hr'⟩)
      · rw [← hf, List.take_length, List.length_append, hf, hnf, ← Nat.add_mul]
        exact Nat.mul_le_mul_right _ hc'
      · simp
      · rw [set_same, ← hf, List.take_length]; simp
/-- A store into a row of a slice that was made here. -/
theorem awL_wr {d : Option Nat} {s sz : Nat} {p x : Operand} {b j sub : Nat} {u : Value} {ty : TypeId} {v : Value} {rows : List (List Value)} {r' : List Value} (i : Nat) (hl : Live H) (hL : Loc B H L) (hi : L[i]? = some (.own (some b) ty sz v rows)) (hj : j < rows.length)
    (hp : ev T p = .pointer (some ⟨b, j * sz + sub, none⟩)) (hx : ev T x = u) (hs : stObj (some (.row true ty (rows.getD j []) sz)) sub s u = some (.row true ty r' sz))
    (h : ∀ H', Live H' → Loc B H' (L.set i (.own (some b) ty sz v (rows.set j r'))) → aw P k (T.puto d undef) H' Q) : aw P (.op ⟨d, none, .st s p x⟩ k) T H Q := by
  have ho : Own H b ty sz v rows := hL.get i hi
  obtain ⟨c, tot, rfl, hb, hc, hr⟩ := ho
  have hf := flat_len hr
  rw [stObj_row] at hs
  split at hs
  · rename_i hcc
    obtain ⟨h1, h2, h3⟩ := hcc
    simp only [Option.some.injEq, AObj.row.injEq, true_and, and_true] at hs
    have hrj : (rows.getD j []).length = sz := by
      rw [List.getD_eq_getElem?_getD, List.getElem?_eq_getElem hj]; exact hr _ (by simp)
    have key : ∀ (rows : List (List Value)) (j : Nat), (∀ r ∈ rows, r.length = sz) → j < rows.length → ∀ cs : List Value, sub + cs.length ≤ sz → splice rows.flatten (j * sz + sub) cs = (rows.set j (splice (rows.getD j []) sub cs)).flatten := by
      intro rows
      induction rows with
      | nil => intro j _ h; simp at h
      | cons r rows ih =>
        intro j hr hj cs hcs
        have hr0 := hr r (by simp)
        cases j with
        | zero =>
          simp only [Nat.zero_mul, Nat.zero_add, List.set_cons_zero, List.getD_cons_zero, List.flatten_cons]
          unfold splice
          rw [List.take_append_of_le_length (by omega), List.drop_append_of_le_length (by omega)]
          simp
        | succ j =>
          have := ih j (fun r hr' => hr r (by simp [hr'])) (by simpa using hj) cs hcs
          simp only [List.set_cons_succ, List.getD_cons_succ, List.flatten_cons]
          rw [← this]
          unfold splice
          rw [show (j + 1) * sz + sub = r.length + (j * sz + sub) by rw [hr0, Nat.succ_mul]; omega, List.take_append, show r.length + (j * sz + sub) + cs.length = r.length + (j * sz + sub + cs.length) by omega, List.drop_append]
          simp [List.take_of_length_le, List.drop_eq_nil_of_le]
    have hul : u.cells.toList.length = s := by rw [Array.length_toList]; exact h1
    have hk := key rows j hr hj u.cells.toList (by rw [hul, ← hrj]; exact h3)
    rw [hs] at hk
    have hr'l : r'.length = sz := by
      rw [← hs]
      unfold splice
      simp only [List.length_append, List.length_take, List.length_drop]
      omega
    have hrr : ∀ r ∈ rows.set j r', r.length = sz := by
      intro r hm
      rcases List.mem_or_eq_of_mem_set hm with hm | rfl
      · exact hr r hm
      · exact hr'l
    have hle : j * sz + sub + s ≤ rows.flatten.length := by
      have : (j + 1) * sz ≤ rows.length * sz := Nat.mul_le_mul_right sz hj
      rw [Nat.succ_mul] at this
      rw [hf]; rw [hrj] at h3; omega
    refine aw_st' d s p x (H' := H.set b (.row true ty (rows.set j r').flatten tot)) ?_ (h _ ?_ ?_)
    · rw [hp, hx, astore_ptr, hb, stObj_row, if_pos ⟨h1, h2, hle⟩, hk]; rfl
    · refine Live.set hl _ _ _ _ ?_
      have := hl.len hb
      rw [flat_len hrr]; rw [hf] at this; simpa using this
    · exact hL.upd i hi (fun _ e => by cases e; rfl) (.inl rfl) (fun c hc => set_ne hc) ⟨c, tot, by simp, set_same _ _ _, ⟨hc.1, by simpa using hc.2⟩, hrr⟩
  · cases hs
/-- The slice of one row that was just made, as what is appended. -/
theorem Loc.anew {i : Nat} {kb : Option Nat} {ty sz : Nat} {v : Value} {rows : List (List Value)} (hL : Loc B H L) (hi : L[i]? = some (.own kb ty sz v rows)) : anew H sz v = some (rows.length, rows.flatten) := by
  have := hL.get i hi
  cases kb with
  | none => obtain ⟨rfl, rfl⟩ := this; rfl
  | some b =>
    have ho : Own H b ty sz v rows := this
    obtain ⟨c, tot, rfl, hb, hc, hr⟩ := ho
    show (if rows.length * sz = 0 then some (rows.length, []) else (H.rd ⟨b, 0, none⟩ (rows.length * sz)).map fun cs => (rows.length, cs)) = _
    have hf := flat_len hr
    split
    · rename_i h0
      rw [← hf] at h0
      rw [List.length_eq_zero_iff.1 h0]
    · rw [rd_mk, hb, rdObj_row, if_pos (by rw [hf]; omega), ← hf, List.drop_zero, List.take_length]
      rfl
/-- One row more, out of a slice of one row that was just made. -/
theorem awL_app1 {d ty ty' sz by_ : Nat} {x y : Operand} {xv yv : Value} {kb kb' : Option Nat} {rows : List (List Value)} {r : List Value} (i j : Nat) (hl : Live H) (hL : Loc B H L) (hi : L[i]? = some (.own kb ty sz xv rows)) (hj : L[j]? = some (.own kb' ty' sz yv [r])) (hx : ev T x = xv) (hy : ev T y = yv)
    (hone : r.all Value.oneCell' = true) (hby : 0 < by_) (hbig : (rows.length + 1) * by_ ≤ 140737488355328)
    (h : ∀ kb' v' H', Live H' → Loc B H' (L.set i (.own kb' ty sz v' (rows ++ [r]))) → aw P k (T.put d v') H' Q) : aw P (.op ⟨some d, none, .app ty sz by_ x y⟩ k) T H Q := by
  have hr : r.length = sz := by
    have := hL.get j hj
    cases kb' with
    | none => obtain ⟨_, h⟩ := this; cases h
    | some b =>
      have ho : Own H b ty' sz yv [r] := this
      obtain ⟨c, tot, _, _, _, hr⟩ := ho
      exact hr r (by simp)
  have hle : rows.length + 1 ≤ (rows.length + 1) * by_ := Nat.le_mul_of_pos_right _ hby
  refine awL_app [r] i hl hL hi hx hy ?_ ?_ ?_ ?_ ?_ h
  · exact hL.anew hj
  · rw [List.flatten_cons, List.flatten_nil, List.append_nil]; exact hone
  · intro r' hr'
    rw [List.mem_singleton] at hr'
    rw [hr']; exact hr
  · exact hbig
  · show rows.length + 1 ≤ _
    omega
end
/-! ### what the laws do with slices of whole numbers -/
theorem markInt64S_L {H B : Hp} {L : List E} (k : Int) (xs : List Int) (hk : 0 ≤ k) (hkn : k + xs.length ≤ 4611686018427387904) (i : Nat) {kb : Option Nat} {ty : TypeId} {v : Value} (hl : Live H) (hL : Loc B H L) (hi : L[i]? = some (.own kb ty 1 v (xs.map encI))) {K : Value → Hp → Prop}
    (hK : ∀ H', Loc B H' (L.set i (.own kb ty 1 v ((upFrom k xs.length).map encI))) → K (.int .i64 (k + xs.length)) H') : ACalls Go.Proofs.Try.prog n_laws_markInt64S #[v, .int .i64 k] H K := by
  have hok := hL.get i hi
  cases kb with
  | none =>
    obtain ⟨b0, hb0⟩ := hl.fresh
    obtain ⟨rfl, hr⟩ := hok
    refine spec_markInt64S k xs hk hkn (b := b0) (ty := ty) (.inl ⟨rfl, hr⟩) fun H' ho hown => hK H' ?_
    refine hL.upd i hi (b := b0) (fun _ e => by cases e) (.inr hb0) ho ⟨rfl, ?_⟩
    rw [List.map_eq_nil_iff] at hr
    subst hr
    rfl
  | some b => 
    refine spec_markInt64S k xs hk hkn (b := b) (ty := ty) (.inr hok) fun H' ho hown => hK H' ?_
    refine hL.upd i hi (b := b) (fun _ e => by cases e; rfl) (.inl rfl) ho ?_
    rcases hown with ⟨rfl, hr⟩ | h
    · obtain ⟨c, tot, hv, _⟩ := hok
      cases hv
    · exact h
end Go.Proofs.Ytonmmfjagkgifaa
