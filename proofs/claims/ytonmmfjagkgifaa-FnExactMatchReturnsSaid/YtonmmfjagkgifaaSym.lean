/- The abstract calculus, thirteenth text: rules by which simp carries code out, and rules for where it stops. -/
import Derived.Test.YtonmmfjagkgifaaAbFn
set_option linter.unusedVariables false
set_option linter.unusedSimpArgs false
namespace Go.Proofs.Ytonmmfjagkgifaa
open Go.RowKit

def seqQ (P : Program) (k : AC) (Q : Ex → Tm → Hp → Prop) : Ex → Tm → Hp → Prop
  | .norm, T, H => aw P k T H Q
  | .exit id, T, H => Q (.exit id) T H
  | .ret, T, H => Q .ret T H
def blkQ (P : Program) (id : Nat) (k : AC) (Q : Ex → Tm → Hp → Prop) : Ex → Tm → Hp → Prop
  | .norm, T, H => aw P k T H Q
  | .exit id', T, H => if id' = id then aw P k T H Q else Q (.exit id') T H
  | .ret, T, H => Q .ret T H

section
variable {P : Program} {T : Tm} {H : Hp} {Q : Ex → Tm → Hp → Prop} {k : AC}
theorem aw_q {c : AC} {Q Q' : Ex → Tm → Hp → Prop} (h : ∀ e T H, Q e T H = Q' e T H) : aw P c T H Q = aw P c T H Q' := by
  have : Q = Q' := by funext e T H; exact h e T H
  rw [this]
/-! ### code that simp carries out -/
theorem aw_nil : aw P .nil T H Q = Q .norm T H := rfl
theorem aw_exit (id : Nat) : aw P (.exit id) T H Q = Q (.exit id) T H := rfl
theorem aw_ret : aw P .ret T H Q = Q .ret T H := rfl
theorem aw_cond_t (c : Operand) (a b : AC) (h : ev T c = .bool true) : aw P (.cond c a b k) T H Q = aw P a T H (seqQ P k Q) := by
  rw [aw]
  apply propext
  constructor
  · rintro ⟨t, ht, h1, h2⟩
    rw [h] at ht
    cases ht
    exact Eq.mp (aw_q (fun e T H => by cases e <;> rfl)) (h1 rfl)
  · intro h1
    exact ⟨true, h, fun _ => Eq.mp (aw_q (fun e T H => by cases e <;> rfl)) h1, fun e => by cases e⟩
theorem aw_cond_f (c : Operand) (a b : AC) (h : ev T c = .bool false) : aw P (.cond c a b k) T H Q = aw P b T H (seqQ P k Q) := by
  rw [aw]
  apply propext
  constructor
  · rintro ⟨t, ht, h1, h2⟩
    rw [h] at ht
    cases ht
    exact Eq.mp (aw_q (fun e T H => by cases e <;> rfl)) (h2 rfl)
  · intro h1
    exact ⟨false, h, fun e => (by cases e), fun _ => Eq.mp (aw_q (fun e T H => by cases e <;> rfl)) h1⟩
theorem aw_blk (id : Nat) (b : AC) : aw P (.blk id b k) T H Q = aw P b T H (blkQ P id k Q) := by
  rw [aw]
  exact aw_q (fun e T H => by cases e <;> rfl)
theorem seqQ_norm : seqQ P k Q .norm T H = aw P k T H Q := rfl
theorem seqQ_exit (id : Nat) : seqQ P k Q (.exit id) T H = Q (.exit id) T H := rfl
theorem seqQ_ret : seqQ P k Q .ret T H = Q .ret T H := rfl
theorem blkQ_norm (id : Nat) : blkQ P id k Q .norm T H = aw P k T H Q := rfl
theorem blkQ_exit_same (id : Nat) : blkQ P id k Q (.exit id) T H = aw P k T H Q := by simp [blkQ]
theorem blkQ_exit_ne (id id' : Nat) (h : (id' == id) = false) : blkQ P id k Q (.exit id') T H = Q (.exit id') T H := by simp at h; simp [blkQ, h]
theorem blkQ_ret (id : Nat) : blkQ P id k Q .ret T H = Q .ret T H := rfl

theorem aw_guard_eq (d : Option Nat) (t : Nat) (want : Bool) (op : AOp) : aw P (.op ⟨d, some (t, want), op⟩ k) T H Q =
    if (match T t with | .bool b => b == want | _ => false) = true then aw P (.op ⟨d, none, op⟩ k) T H Q else aw P k (T.puto d undef) H Q := by
  have e : aw P (.op ⟨d, none, op⟩ k) T H Q = op.step P T H d (fun T' H' => aw P k T' H' Q) := by
    show AI.step P T H _ _ = _
    simp [AI.step, asGuard]
  rw [e]
  rfl
theorem aw_guard_y (d : Option Nat) (t : Nat) (want : Bool) (op : AOp) (h : T t = .bool want) : aw P (.op ⟨d, some (t, want), op⟩ k) T H Q = aw P (.op ⟨d, none, op⟩ k) T H Q := by
  rw [aw_guard_eq, h]; simp
theorem aw_guard_n (d : Option Nat) (t : Nat) (want : Bool) (op : AOp) (h : T t = .bool (!want)) : aw P (.op ⟨d, some (t, want), op⟩ k) T H Q = aw P k (T.puto d undef) H Q := by
  rw [aw_guard_eq, h]; cases want <;> simp
theorem aw_v (d : Nat) (op : AOp) (hc : cls op = 0) (h : (op.val T).isSome = true) : aw P (.op ⟨some d, none, op⟩ k) T H Q = aw P k (T.put d ((op.val T).getD undef)) H Q := by
  show AI.step P T H _ _ = _
  unfold AI.step
  simp only [asGuard, if_true]
  rw [cls0_step hc]
  obtain ⟨v, hv⟩ := Option.isSome_iff_exists.1 h
  rw [hv]
  simp [Tm.puto]
theorem aw_ld (d : Nat) (g : Bool) (s : Nat) (x : Operand) (h : (aload H g s (ev T x)).isSome = true) : aw P (.op ⟨some d, none, .ld g s x⟩ k) T H Q = aw P k (T.put d ((aload H g s (ev T x)).getD undef)) H Q := by
  obtain ⟨v, hv⟩ := Option.isSome_iff_exists.1 h
  show (∃ v, aload H g s (ev T x) = some v ∧ _) = _
  rw [hv]
  simp [Tm.puto]
theorem aw_st (d : Option Nat) (s : Nat) (p x : Operand) (h : (astore H s (ev T p) (ev T x)).isSome = true) : aw P (.op ⟨d, none, .st s p x⟩ k) T H Q = aw P k (T.puto d undef) ((astore H s (ev T p) (ev T x)).getD H) Q := by
  obtain ⟨v, hv⟩ := Option.isSome_iff_exists.1 h
  show (∃ H', astore H s (ev T p) (ev T x) = some H' ∧ _) = _
  rw [hv]
  simp
theorem aw_chk (rs : List (Nat × Option (Nat × Bool) × Bool × Nat × Operand)) (h : ∀ r ∈ rs, asGuard T r.2.1 = true → aload H r.2.2.1 r.2.2.2.1 (ev T r.2.2.2.2) = some (T r.1)) :
    aw P (.op ⟨none, none, .chk rs⟩ k) T H Q = aw P k T H Q := by
  show (_ ∧ aw P k T H Q) = _
  apply propext
  exact ⟨fun h => h.2, fun h' => ⟨h, h'⟩⟩

end
/-! ### values, each operation by itself -/
def vPick : Value → Value → Value → Option Value
  | .bool t, a, b => some (if t = true then a else b)
  | _, _, _ => none
def vEqB : Bool → Value → Value → Option Value
  | neg, .bool a, .bool b => some (.bool (if neg then !(a == b) else a == b))
  | _, _, _ => none
def vEqNil (neg : Bool) (nk : NK) (x : Value) : Option Value := (isNil nk x).map fun b => .bool (if neg then !b else b)
def vEqAgg : Bool → SK → Nat → Value → Value → Option Value
  | neg, sk, sz, .agg xs, .agg ys => if xs.size = sz ∧ ys.size = sz then (cellsEq sk xs.toList ys.toList).map fun b => .bool (if neg then !b else b) else none
  | _, _, _, _, _ => none
def vUn : UnOp → Value → Option Value
  | .neg, .int k n => some (.int k (k.wrap (0 - n)))
  | .xor, .int k n => some (.int k (abits .xor k (if k.signed then -1 else k.max) n))
  | .not, .bool b => some (.bool !b)
  | _, _ => none
def vConv : IntKind → Value → Option Value
  | k, .int _ n => some (.int k (k.wrap n))
  | _, _ => none
def vFa : Nat → Value → Option Value
  | off, .pointer (some a) => some (.pointer (some (a.add off)))
  | _, _ => none
def vIa : Nat → Value → Value → Option Value
  | sz, .slice (some a) n _, .int _ j => if 0 ≤ j ∧ j < n then some (.pointer (some (a.add (j.toNat * sz)))) else none
  | _, _, _ => none
def vIaArr : Nat → Nat → Value → Value → Option Value
  | ln, sz, .pointer (some a), .int _ j => if 0 ≤ j ∧ j < ln then some (.pointer (some (a.add (j.toNat * sz)))) else none
  | _, _, _, _ => none
def vIxArr : Bool → Nat → Nat → Value → Value → Option Value
  | agg, ln, sz, .agg cs, .int _ j => if 0 ≤ j ∧ j < ln then apart agg sz ((cs.toList.drop (j.toNat * sz)).take sz) else none
  | _, _, _, _, _ => none
def vIxStr : Value → Value → Option Value
  | .string s, .int _ j => if 0 ≤ j then (s[j.toNat]?).map fun b => .int .u8 b.toNat else none
  | _, _ => none
def vFld : Bool → Nat → Nat → Value → Option Value
  | agg, off, sz, .agg cs => apart agg sz ((cs.toList.drop off).take sz)
  | _, _, _, _ => none
def vExt : Value → Nat → Option Value
  | .tuple vs, j => vs[j]?
  | _, _ => none
def vNilc : Value → Option Value
  | .pointer (some a) => some (.pointer (some a))
  | .func (.func f) first cap => some (.func (.func f) first cap)
  | _ => none
def bnd (x : Option Value) (most dflt : Nat) : Option Nat :=
  match x with
  | none => some dflt
  | some (.int _ i) => if 0 ≤ i ∧ i ≤ most then some i.toNat else none
  | _ => none
theorem abound_bnd (T : Tm) (x : Option Operand) (m d : Nat) : abound T x m d = bnd (x.map (ev T)) m d := by
  cases x with
  | none => rfl
  | some o => simp only [abound, bnd, Option.map_some]; cases ev T o <;> rfl
def vSlc : Nat → Value → Option Value → Option Value → Option Value → Option Value
  | sz, .slice a ln cp, lo, hi, mx => (bnd mx cp cp).bind fun m => (bnd hi m ln).bind fun h => (bnd lo h 0).map fun l =>
        .slice (if m = l then a else a.map (·.add (l * sz))) (h - l) (m - l)
  | _, _, _, _, _ => none
def vSlcArr : Nat → Nat → Value → Option Value → Option Value → Option Value
  | ln, sz, .pointer (some a), lo, hi => (bnd hi ln ln).bind fun h => (bnd lo h 0).map fun l => .slice (some (if ln = l then a else a.add (l * sz))) (h - l) (ln - l)
  | _, _, _, _, _ => none
def vSlcStr : Value → Option Value → Option Value → Option Value
  | .string s, lo, hi => (bnd hi s.size s.size).bind fun h => (bnd lo h 0).map fun l => .string (s.extract l h)
  | _, _, _ => none
def vLen : Bool → Value → Option Value
  | false, .slice _ n _ => some (.int .i64 n)
  | true, .string s => some (.int .i64 s.size)
  | _, _ => none
def vCap : Value → Option Value
  | .slice _ _ c => some (.int .i64 c)
  | _ => none
def vMnx : Bool → Value → Value → Option Value
  | mx, .int k a, .int _ b => some (.int k (if mx then (if a < b then b else a) else (if b < a then b else a)))
  | _, _, _ => none
def vBld (T : Tm) (zero : List Value) (parts : List (Nat × Nat × Operand)) : Option Value := (aparts T parts).bind fun ps => (afill zero ps).map fun cs => .agg cs.toArray
section
variable {P : Program} {T : Tm} {H : Hp} {Q : Ex → Tm → Hp → Prop} {k : AC}
theorem aw_mv (d : Nat) (x : Operand) : aw P (.op ⟨some d, none, .mv x⟩ k) T H Q = aw P k (T.put d (ev T x)) H Q := aw_v d _ rfl rfl
theorem aw_mkf (d : Nat) (fn : Fn) (a b : List Operand) : aw P (.op ⟨some d, none, .mkf fn a b⟩ k) T H Q = aw P k (T.put d (.func fn (a.map (ev T)).toArray (b.map (ev T)).toArray)) H Q := aw_v d _ rfl rfl

theorem vv_pick (c a b : Operand) : (AOp.pick c a b).val T = vPick (ev T c) (ev T a) (ev T b) := by show (match ev T c with | .bool t => some (if t then ev T a else ev T b) | _ => none : Option Value) = _; generalize ev T c = v_c; cases v_c <;> rfl
theorem aw_pick (d : Nat) (c a b : Operand) (h : (vPick (ev T c) (ev T a) (ev T b)).isSome = true) : aw P (.op ⟨some d, none, .pick c a b⟩ k) T H Q = aw P k (T.put d ((vPick (ev T c) (ev T a) (ev T b)).getD undef)) H Q := by rw [aw_v d _ rfl (by rw [vv_pick]; exact h), vv_pick]
theorem vv_bin (o : BinOp) (x y : Operand) : (AOp.bin o x y).val T = abin o (ev T x) (ev T y) := by rfl
theorem aw_bin (d : Nat) (o : BinOp) (x y : Operand) (h : (abin o (ev T x) (ev T y)).isSome = true) : aw P (.op ⟨some d, none, .bin o x y⟩ k) T H Q = aw P k (T.put d ((abin o (ev T x) (ev T y)).getD undef)) H Q := by rw [aw_v d _ rfl (by rw [vv_bin]; exact h), vv_bin]
theorem vv_eqB (n : Bool) (x y : Operand) : (AOp.eqB n x y).val T = vEqB n (ev T x) (ev T y) := by show (match ev T x, ev T y with | .bool a, .bool b => some (.bool (if n then !(a == b) else a == b)) | _, _ => none : Option Value) = _; generalize ev T x = v_x; generalize ev T y = v_y; cases v_x <;> (try rfl) <;> cases v_y <;> rfl
theorem aw_eqB (d : Nat) (n : Bool) (x y : Operand) (h : (vEqB n (ev T x) (ev T y)).isSome = true) : aw P (.op ⟨some d, none, .eqB n x y⟩ k) T H Q = aw P k (T.put d ((vEqB n (ev T x) (ev T y)).getD undef)) H Q := by rw [aw_v d _ rfl (by rw [vv_eqB]; exact h), vv_eqB]
theorem vv_eqNil (n : Bool) (nk : NK) (x : Operand) : (AOp.eqNil n nk x).val T = vEqNil n nk (ev T x) := by rfl
theorem aw_eqNil (d : Nat) (n : Bool) (nk : NK) (x : Operand) (h : (vEqNil n nk (ev T x)).isSome = true) : aw P (.op ⟨some d, none, .eqNil n nk x⟩ k) T H Q = aw P k (T.put d ((vEqNil n nk (ev T x)).getD undef)) H Q := by rw [aw_v d _ rfl (by rw [vv_eqNil]; exact h), vv_eqNil]
theorem vv_eqAgg (n : Bool) (sk : SK) (s : Nat) (x y : Operand) : (AOp.eqAgg n sk s x y).val T = vEqAgg n sk s (ev T x) (ev T y) := by show (match ev T x, ev T y with | .agg xs, .agg ys => if xs.size = s ∧ ys.size = s then (cellsEq sk xs.toList ys.toList).map fun b => .bool (if n then !b else b) else none | _, _ => none : Option Value) = _; generalize ev T x = v_x; generalize ev T y = v_y; cases v_x <;> (try rfl) <;> cases v_y <;> rfl
theorem aw_eqAgg (d : Nat) (n : Bool) (sk : SK) (s : Nat) (x y : Operand) (h : (vEqAgg n sk s (ev T x) (ev T y)).isSome = true) : aw P (.op ⟨some d, none, .eqAgg n sk s x y⟩ k) T H Q = aw P k (T.put d ((vEqAgg n sk s (ev T x) (ev T y)).getD undef)) H Q := by rw [aw_v d _ rfl (by rw [vv_eqAgg]; exact h), vv_eqAgg]
theorem vv_un (o : UnOp) (x : Operand) : (AOp.un o x).val T = vUn o (ev T x) := by show (match o, ev T x with | .neg, .int k n => some (.int k (k.wrap (0 - n))) | .xor, .int k n => some (.int k (abits .xor k (if k.signed then -1 else k.max) n)) | .not, .bool b => some (.bool !b) | _, _ => none : Option Value) = _; generalize ev T x = v_x; cases o <;> cases v_x <;> rfl
theorem aw_un (d : Nat) (o : UnOp) (x : Operand) (h : (vUn o (ev T x)).isSome = true) : aw P (.op ⟨some d, none, .un o x⟩ k) T H Q = aw P k (T.put d ((vUn o (ev T x)).getD undef)) H Q := by rw [aw_v d _ rfl (by rw [vv_un]; exact h), vv_un]
theorem vv_conv (kd : IntKind) (x : Operand) : (AOp.conv kd x).val T = vConv kd (ev T x) := by show (match ev T x with | .int _ n => some (.int kd (kd.wrap n)) | _ => none : Option Value) = _; generalize ev T x = v_x; cases v_x <;> rfl
theorem aw_conv (d : Nat) (kd : IntKind) (x : Operand) (h : (vConv kd (ev T x)).isSome = true) : aw P (.op ⟨some d, none, .conv kd x⟩ k) T H Q = aw P k (T.put d ((vConv kd (ev T x)).getD undef)) H Q := by rw [aw_v d _ rfl (by rw [vv_conv]; exact h), vv_conv]
theorem vv_fa (o : Nat) (x : Operand) : (AOp.fa o x).val T = vFa o (ev T x) := by show (match ev T x with | .pointer (some a) => some (.pointer (some (a.add o))) | _ => none : Option Value) = _; generalize ev T x = v_x; cases v_x <;> (try rfl) <;> (rename_i q; cases q <;> rfl)
theorem aw_fa (d : Nat) (o : Nat) (x : Operand) (h : (vFa o (ev T x)).isSome = true) : aw P (.op ⟨some d, none, .fa o x⟩ k) T H Q = aw P k (T.put d ((vFa o (ev T x)).getD undef)) H Q := by rw [aw_v d _ rfl (by rw [vv_fa]; exact h), vv_fa]
theorem vv_ia (s : Nat) (x i : Operand) : (AOp.ia s x i).val T = vIa s (ev T x) (ev T i) := by show (match ev T x, ev T i with | .slice (some a) n _, .int _ j => if 0 ≤ j ∧ j < n then some (.pointer (some (a.add (j.toNat * s)))) else none | _, _ => none : Option Value) = _; generalize ev T x = v_x; generalize ev T i = v_i; cases v_x <;> (try rfl); rename_i q _ _; cases q <;> (try rfl); cases v_i <;> rfl
theorem aw_ia (d : Nat) (s : Nat) (x i : Operand) (h : (vIa s (ev T x) (ev T i)).isSome = true) : aw P (.op ⟨some d, none, .ia s x i⟩ k) T H Q = aw P k (T.put d ((vIa s (ev T x) (ev T i)).getD undef)) H Q := by rw [aw_v d _ rfl (by rw [vv_ia]; exact h), vv_ia]
theorem vv_iaArr (n s : Nat) (x i : Operand) : (AOp.iaArr n s x i).val T = vIaArr n s (ev T x) (ev T i) := by show (match ev T x, ev T i with | .pointer (some a), .int _ j => if 0 ≤ j ∧ j < n then some (.pointer (some (a.add (j.toNat * s)))) else none | _, _ => none : Option Value) = _; generalize ev T x = v_x; generalize ev T i = v_i; cases v_x <;> (try rfl) <;> (try (rename_i q; cases q)) <;> (try rfl) <;> cases v_i <;> rfl
theorem aw_iaArr (d : Nat) (n s : Nat) (x i : Operand) (h : (vIaArr n s (ev T x) (ev T i)).isSome = true) : aw P (.op ⟨some d, none, .iaArr n s x i⟩ k) T H Q = aw P k (T.put d ((vIaArr n s (ev T x) (ev T i)).getD undef)) H Q := by rw [aw_v d _ rfl (by rw [vv_iaArr]; exact h), vv_iaArr]
theorem vv_ixArr (g : Bool) (n s : Nat) (x i : Operand) : (AOp.ixArr g n s x i).val T = vIxArr g n s (ev T x) (ev T i) := by show (match ev T x, ev T i with | .agg cs, .int _ j => if 0 ≤ j ∧ j < n then apart g s ((cs.toList.drop (j.toNat * s)).take s) else none | _, _ => none : Option Value) = _; generalize ev T x = v_x; generalize ev T i = v_i; cases v_x <;> (try rfl) <;> cases v_i <;> rfl
theorem aw_ixArr (d : Nat) (g : Bool) (n s : Nat) (x i : Operand) (h : (vIxArr g n s (ev T x) (ev T i)).isSome = true) : aw P (.op ⟨some d, none, .ixArr g n s x i⟩ k) T H Q = aw P k (T.put d ((vIxArr g n s (ev T x) (ev T i)).getD undef)) H Q := by rw [aw_v d _ rfl (by rw [vv_ixArr]; exact h), vv_ixArr]
theorem vv_ixStr (x i : Operand) : (AOp.ixStr x i).val T = vIxStr (ev T x) (ev T i) := by show (match ev T x, ev T i with | .string s, .int _ j => if 0 ≤ j then (s[j.toNat]?).map fun b => .int .u8 b.toNat else none | _, _ => none : Option Value) = _; generalize ev T x = v_x; generalize ev T i = v_i; cases v_x <;> (try rfl) <;> cases v_i <;> rfl
theorem aw_ixStr (d : Nat) (x i : Operand) (h : (vIxStr (ev T x) (ev T i)).isSome = true) : aw P (.op ⟨some d, none, .ixStr x i⟩ k) T H Q = aw P k (T.put d ((vIxStr (ev T x) (ev T i)).getD undef)) H Q := by rw [aw_v d _ rfl (by rw [vv_ixStr]; exact h), vv_ixStr]
theorem vv_fld (g : Bool) (o s : Nat) (x : Operand) : (AOp.fld g o s x).val T = vFld g o s (ev T x) := by show (match ev T x with | .agg cs => apart g s ((cs.toList.drop o).take s) | _ => none : Option Value) = _; generalize ev T x = v_x; cases v_x <;> rfl
theorem aw_fld (d : Nat) (g : Bool) (o s : Nat) (x : Operand) (h : (vFld g o s (ev T x)).isSome = true) : aw P (.op ⟨some d, none, .fld g o s x⟩ k) T H Q = aw P k (T.put d ((vFld g o s (ev T x)).getD undef)) H Q := by rw [aw_v d _ rfl (by rw [vv_fld]; exact h), vv_fld]
theorem vv_ext (x : Operand) (j : Nat) : (AOp.ext x j).val T = vExt (ev T x) j := by show (match ev T x with | .tuple vs => vs[j]? | _ => none : Option Value) = _; generalize ev T x = v_x; cases v_x <;> rfl
theorem aw_ext (d : Nat) (x : Operand) (j : Nat) (h : (vExt (ev T x) j).isSome = true) : aw P (.op ⟨some d, none, .ext x j⟩ k) T H Q = aw P k (T.put d ((vExt (ev T x) j).getD undef)) H Q := by rw [aw_v d _ rfl (by rw [vv_ext]; exact h), vv_ext]
theorem vv_bld (z : List Value) (ps : List (Nat × Nat × Operand)) : (AOp.bld z ps).val T = vBld T z ps := by rfl
theorem aw_bld (d : Nat) (z : List Value) (ps : List (Nat × Nat × Operand)) (h : (vBld T z ps).isSome = true) : aw P (.op ⟨some d, none, .bld z ps⟩ k) T H Q = aw P k (T.put d ((vBld T z ps).getD undef)) H Q := by rw [aw_v d _ rfl (by rw [vv_bld]; exact h), vv_bld]
theorem vv_nilc (x : Operand) : (AOp.nilc x).val T = vNilc (ev T x) := by show (match ev T x with | .pointer (some a) => some (.pointer (some a)) | .func (.func f) first cp => some (.func (.func f) first cp) | _ => none : Option Value) = _; generalize ev T x = v_x; cases v_x <;> (try rfl) <;> first | (rename_i q; cases q <;> rfl) | (rename_i q _ _; cases q <;> rfl)
theorem aw_nilc (d : Nat) (x : Operand) (h : (vNilc (ev T x)).isSome = true) : aw P (.op ⟨some d, none, .nilc x⟩ k) T H Q = aw P k (T.put d ((vNilc (ev T x)).getD undef)) H Q := by rw [aw_v d _ rfl (by rw [vv_nilc]; exact h), vv_nilc]
theorem vv_slc (s : Nat) (x : Operand) (lo hi mx : Option Operand) : (AOp.slc s x lo hi mx).val T = vSlc s (ev T x) (lo.map (ev T)) (hi.map (ev T)) (mx.map (ev T)) := by show (match ev T x with | .slice a ln cp => (abound T mx cp cp).bind fun m => (abound T hi m ln).bind fun h => (abound T lo h 0).map fun l => Value.slice (if m = l then a else a.map (·.add (l * s))) (h - l) (m - l) | _ => none : Option Value) = _; simp only [abound_bnd]; generalize ev T x = v_x; cases v_x <;> rfl
theorem aw_slc (d : Nat) (s : Nat) (x : Operand) (lo hi mx : Option Operand) (h : (vSlc s (ev T x) (lo.map (ev T)) (hi.map (ev T)) (mx.map (ev T))).isSome = true) : aw P (.op ⟨some d, none, .slc s x lo hi mx⟩ k) T H Q = aw P k (T.put d ((vSlc s (ev T x) (lo.map (ev T)) (hi.map (ev T)) (mx.map (ev T))).getD undef)) H Q := by rw [aw_v d _ rfl (by rw [vv_slc]; exact h), vv_slc]
theorem vv_slcArr (n s : Nat) (x : Operand) (lo hi : Option Operand) : (AOp.slcArr n s x lo hi).val T = vSlcArr n s (ev T x) (lo.map (ev T)) (hi.map (ev T)) := by show (match ev T x with | .pointer (some a) => (abound T hi n n).bind fun h => (abound T lo h 0).map fun l => Value.slice (some (if n = l then a else a.add (l * s))) (h - l) (n - l) | _ => none : Option Value) = _; simp only [abound_bnd]; generalize ev T x = v_x; cases v_x <;> (try rfl) <;> (rename_i q; cases q <;> rfl)
theorem aw_slcArr (d : Nat) (n s : Nat) (x : Operand) (lo hi : Option Operand) (h : (vSlcArr n s (ev T x) (lo.map (ev T)) (hi.map (ev T))).isSome = true) : aw P (.op ⟨some d, none, .slcArr n s x lo hi⟩ k) T H Q = aw P k (T.put d ((vSlcArr n s (ev T x) (lo.map (ev T)) (hi.map (ev T))).getD undef)) H Q := by rw [aw_v d _ rfl (by rw [vv_slcArr]; exact h), vv_slcArr]
theorem vv_slcStr (x : Operand) (lo hi : Option Operand) : (AOp.slcStr x lo hi).val T = vSlcStr (ev T x) (lo.map (ev T)) (hi.map (ev T)) := by show (match ev T x with | .string s => (abound T hi s.size s.size).bind fun h => (abound T lo h 0).map fun l => Value.string (s.extract l h) | _ => none : Option Value) = _; simp only [abound_bnd]; generalize ev T x = v_x; cases v_x <;> rfl
theorem aw_slcStr (d : Nat) (x : Operand) (lo hi : Option Operand) (h : (vSlcStr (ev T x) (lo.map (ev T)) (hi.map (ev T))).isSome = true) : aw P (.op ⟨some d, none, .slcStr x lo hi⟩ k) T H Q = aw P k (T.put d ((vSlcStr (ev T x) (lo.map (ev T)) (hi.map (ev T))).getD undef)) H Q := by rw [aw_v d _ rfl (by rw [vv_slcStr]; exact h), vv_slcStr]
theorem vv_len (s : Bool) (x : Operand) : (AOp.len s x).val T = vLen s (ev T x) := by show (match s, ev T x with | false, .slice _ n _ => some (.int .i64 n) | true, .string s => some (.int .i64 s.size) | _, _ => none : Option Value) = _; generalize ev T x = v_x; cases s <;> cases v_x <;> rfl
theorem aw_len (d : Nat) (s : Bool) (x : Operand) (h : (vLen s (ev T x)).isSome = true) : aw P (.op ⟨some d, none, .len s x⟩ k) T H Q = aw P k (T.put d ((vLen s (ev T x)).getD undef)) H Q := by rw [aw_v d _ rfl (by rw [vv_len]; exact h), vv_len]
theorem vv_cap (x : Operand) : (AOp.cap x).val T = vCap (ev T x) := by show (match ev T x with | .slice _ _ c => some (.int .i64 c) | _ => none : Option Value) = _; generalize ev T x = v_x; cases v_x <;> rfl
theorem aw_cap (d : Nat) (x : Operand) (h : (vCap (ev T x)).isSome = true) : aw P (.op ⟨some d, none, .cap x⟩ k) T H Q = aw P k (T.put d ((vCap (ev T x)).getD undef)) H Q := by rw [aw_v d _ rfl (by rw [vv_cap]; exact h), vv_cap]
theorem vv_mnx (m : Bool) (x y : Operand) : (AOp.mnx m x y).val T = vMnx m (ev T x) (ev T y) := by show (match ev T x, ev T y with | .int k a, .int _ b => some (.int k (if m then (if a < b then b else a) else (if b < a then b else a))) | _, _ => none : Option Value) = _; generalize ev T x = v_x; generalize ev T y = v_y; cases v_x <;> (try rfl) <;> cases v_y <;> rfl
theorem aw_mnx (d : Nat) (m : Bool) (x y : Operand) (h : (vMnx m (ev T x) (ev T y)).isSome = true) : aw P (.op ⟨some d, none, .mnx m x y⟩ k) T H Q = aw P k (T.put d ((vMnx m (ev T x) (ev T y)).getD undef)) H Q := by rw [aw_v d _ rfl (by rw [vv_mnx]; exact h), vv_mnx]
end
section
variable {P : Program} {T : Tm} {H : Hp} {Q : Ex → Tm → Hp → Prop} {k : AC}

/-! ### where simp stops -/
theorem aw_guard_split {d : Option Nat} {t : Nat} {want b : Bool} {op : AOp} (ht : T t = .bool b) (h1 : b = want → aw P (.op ⟨d, none, op⟩ k) T H Q) (h2 : b = (!want) → aw P k (T.puto d undef) H Q) :
    aw P (.op ⟨d, some (t, want), op⟩ k) T H Q := by
  rw [aw_guard_eq, ht]
  by_cases e : b = want
  · subst e; simpa using h1 rfl
  · have : b = !want := by cases b <;> cases want <;> simp_all
    subst this
    cases want <;> simpa using h2 rfl
theorem aw_cond_split {c : Operand} {b : Bool} {x y : AC} (hc : ev T c = .bool b) (h1 : b = true → aw P x T H (seqQ P k Q)) (h2 : b = false → aw P y T H (seqQ P k Q)) : aw P (.cond c x y k) T H Q := by
  cases b with
  | true => rw [aw_cond_t c x y hc]; exact h1 rfl
  | false => rw [aw_cond_f c x y hc]; exact h2 rfl
theorem aw_call {d : Option Nat} {f : Operand} {args : List Operand} {fid : FuncId} {av : List Value} (hf : ev T f = .func (.func fid) #[] #[]) (ha : args.map (ev T) = av)
    (h : ACalls P fid av.toArray H (fun v H' => aw P k (T.puto d v) H' Q)) : aw P (.op ⟨d, none, .call f args⟩ k) T H Q := by
  show acall P H (ev T f) (args.map (ev T)).toArray (fun v H' => aw P k (T.puto d v) H' Q)
  rw [hf, ha]
  simpa [acall] using h
theorem aw_callc {d : Option Nat} {f : Operand} {args : List Operand} {fid : FuncId} {av first cap : List Value} (hf : ev T f = .func (.func fid) first.toArray cap.toArray) (ha : args.map (ev T) = av)
    (h : ACalls P fid (first ++ av ++ cap).toArray H (fun v H' => aw P k (T.puto d v) H' Q)) : aw P (.op ⟨d, none, .call f args⟩ k) T H Q := by
  show acall P H (ev T f) (args.map (ev T)).toArray (fun v H' => aw P k (T.puto d v) H' Q)
  rw [hf, ha]
  simpa [acall] using h
theorem aw_alloc {d ty : Nat} {z : List Value} (h : ∀ b, H b = none → aw P k (T.put d (.pointer (some ⟨b, 0, none⟩))) (H.set b (.row true ty z z.length)) Q) : aw P (.op ⟨some d, none, .alloc ty z⟩ k) T H Q := h
theorem aw_box {d ty : Nat} {x : Operand} {cs : List Value} (hv : valCells (ev T x) = cs) (h : ∀ b, H b = none → aw P k (T.put d (.pointer (some ⟨b, 0, none⟩))) (H.set b (.row true ty cs cs.length)) Q) :
    aw P (.op ⟨some d, none, .box ty x⟩ k) T H Q := by
  subst hv; exact h
theorem aw_bsl {d ty n : Nat} {z : List Value} {ps : List (Nat × Nat × Operand)} {cs : List Value} (hc : (aparts T ps).bind (afill (repZero z n)) = some cs)
    (h : ∀ b, H b = none → aw P k (T.put d (.slice (some ⟨b, 0, none⟩) n n)) (H.set b (.row true ty cs cs.length)) Q) : aw P (.op ⟨some d, none, .bsl ty n z ps⟩ k) T H Q := by
  obtain ⟨vs, h1, h2⟩ := Option.bind_eq_some_iff.1 hc
  exact ⟨vs, cs, h1, h2, h⟩
theorem aw_msl {d ty by_ : Nat} {z : List Value} {l c : Operand} {kl kc : IntKind} {lv cv : Int} (hl : ev T l = .int kl lv) (hc : ev T c = .int kc cv) (h0 : 0 ≤ lv) (h1 : lv ≤ cv) (h2 : (by_ : Int) * cv ≤ 281474976710656) (h3 : cv ≤ 9223372036854775807)
    (h : ∀ b, H b = none → aw P k (T.put d (.slice (some ⟨b, 0, none⟩) lv.toNat cv.toNat)) (H.set b (.row true ty (repZero z cv.toNat) (cv.toNat * z.length))) Q) : aw P (.op ⟨some d, none, .msl ty by_ z l c⟩ k) T H Q :=
  ⟨kl, lv, kc, cv, hl, hc, h0, h1, h2, h3, h⟩
theorem aw_app {d ty s b : Nat} {x y : Operand} {xv yv : Value} (hx : ev T x = xv) (hy : ev T y = yv) (h : aappend ty s b H xv yv (fun v H' => aw P k (T.put d v) H' Q)) : aw P (.op ⟨some d, none, .app ty s b x y⟩ k) T H Q := by
  subst hx hy; exact h
/-- A loop: what holds at its head, with a number that each round lowers; what a round does not write stays. -/
theorem aw_loop {b : AC} (I : Nat → Tm → Hp → Prop) (n : Nat) (H1 : Hp) (hsub : H1.sub H) (h0 : I n T H1)
    (h : ∀ n T H, I n T H → aw P b T H (fun e T' H' => match e with
        | .norm => ∃ n' H2, n' < n ∧ H2.sub H' ∧ I n' T' H2
        | e => Q e T' H')) : aw P (.loop b) T H Q := ⟨I, ⟨n, H1, hsub, h0⟩, h⟩
end

/-! ### temporaries -/
theorem ev_tmp (T : Tm) (t : Nat) : ev T (.tmp t) = T t := rfl
theorem ev_const (T : Tm) (v : Value) : ev T (.const v) = v := rfl
theorem ev_func (T : Tm) (f : Nat) : ev T (.func f) = .func (.func f) #[] #[] := rfl
theorem put_get (T : Tm) (d t : Nat) (v : Value) : (T.put d v) t = if t = d then v else T t := rfl
theorem puto_some (T : Tm) (d : Nat) (v : Value) : T.puto (some d) v = T.put d v := rfl
theorem puto_none (T : Tm) (v : Value) : T.puto none v = T := rfl
theorem args0_get (l : List Value) (t : Nat) : args0 l.toArray t = l.getD t undef := by simp [args0]
theorem ares_nil (T : Tm) (H : Hp) : ares T H [] = some [] := rfl
theorem ares_tmp (T : Tm) (H : Hp) (t : Nat) (rs : List AR) : ares T H (.tmp t :: rs) = (ares T H rs).map (T t :: ·) := rfl
/-! ### addresses and rows -/
theorem add_mk (b o n : Nat) : (⟨b, o, none⟩ : Addr).add n = ⟨b, o + n, none⟩ := by
  unfold Addr.add
  split
  · rename_i h; subst h; rfl
  · rfl
theorem set_get (H : Hp) (b b' : Nat) (o : AObj) : (H.set b o) b' = if b' = b then some o else H b' := rfl
/-- What a function's end asks for. -/
def retQ (rs : List AR) (K : Value → Hp → Prop) : Ex → Tm → Hp → Prop := fun e T' H' => (e = .norm ∨ e = .ret) ∧ ∃ vs H2, ares T' H' rs = some vs ∧ H2.sub H' ∧ K (oneOf vs) H2
theorem acalls_go {P : Program} {f : FuncId} {af : AF} {args : Array Value} {H : Hp} {K : Value → Hp → Prop} (hp : prepFn P f = some af) (hn : args.size = af.np)
    (h : Live H → aw P af.code (args0 args) H (retQ af.res K)) : ACalls P f args H K := acalls_intro hp hn h
theorem retQ_ret {rs : List AR} {K : Value → Hp → Prop} {T : Tm} {H : Hp} {vs : List Value} (h1 : ares T H rs = some vs) (H2 : Hp) (h2 : H2.sub H) (h3 : K (oneOf vs) H2) : retQ rs K .ret T H := ⟨.inr rfl, vs, H2, h1, h2, h3⟩
theorem retQ_norm {rs : List AR} {K : Value → Hp → Prop} {T : Tm} {H : Hp} {vs : List Value} (h1 : ares T H rs = some vs) (H2 : Hp) (h2 : H2.sub H) (h3 : K (oneOf vs) H2) : retQ rs K .norm T H := ⟨.inl rfl, vs, H2, h1, h2, h3⟩
theorem sub_set {H1 H : Hp} {b : Nat} {o : AObj} (hb : H b = none) (h : H1.sub H) : H1.sub (H.set b o) := fun b' o' h' => by
  have := h b' o' h'
  rw [set_get, if_neg (by intro e; rw [e, hb] at this; cases this)]
  exact this
theorem sub_set2 {H1 H : Hp} {b : Nat} {o : AObj} (h : H1.sub H) : (H1.set b o).sub (H.set b o) := fun b' o' h' => by
  rw [set_get] at h' ⊢
  split at h'
  · rename_i e; rw [if_pos e]; exact h'
  · rename_i e; rw [if_neg e]; exact h b' o' h'
end Go.Proofs.Ytonmmfjagkgifaa
