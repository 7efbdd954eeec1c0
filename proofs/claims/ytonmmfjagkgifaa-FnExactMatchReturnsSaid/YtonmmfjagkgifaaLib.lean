/- The abstract calculus, fourteenth text: rows, numbers, lists. -/
import Derived.Test.YtonmmfjagkgifaaSym
set_option linter.unusedVariables false
set_option linter.unusedSimpArgs false
namespace Go.Proofs.Ytonmmfjagkgifaa
open Go.RowKit

/-! ### rows -/
def rdObj : Option AObj → Nat → Nat → Option (List Value)
  | some (.row _ _ xs _), off, k => if off + k ≤ xs.length then some ((xs.drop off).take k) else none
  | _, _, _ => none
theorem rd_mk (H : Hp) (b off k : Nat) : H.rd ⟨b, off, none⟩ k = rdObj (H b) off k := by
  unfold Hp.rd rdObj
  simp only
  cases H b with
  | none => rfl
  | some o => cases o <;> simp
theorem rdObj_row (own : Bool) (ty : TypeId) (xs : List Value) (tot off k : Nat) : rdObj (some (.row own ty xs tot)) off k = if off + k ≤ xs.length then some ((xs.drop off).take k) else none := rfl
theorem aload_ptr (H : Hp) (g : Bool) (s : Nat) (a : Addr) : aload H g s (.pointer (some a)) = (H.rd a s).bind (apart g s) := rfl
theorem apart_f (v : Value) : apart false 1 [v] = some v := by simp [apart]
theorem apart_t (s : Nat) (cs : List Value) (h : cs.length = s) : apart true s cs = some (.agg cs.toArray) := by simp [apart, h]
def stObj : Option AObj → Nat → Nat → Value → Option AObj
  | some (.row true ty xs tot), off, sz, v => if v.cells.size = sz ∧ v.cells.toList.all Value.oneCell' = true ∧ off + sz ≤ xs.length then some (.row true ty (splice xs off v.cells.toList) tot) else none
  | _, _, _, _ => none
theorem astore_ptr (H : Hp) (s b off : Nat) (v : Value) : astore H s (.pointer (some ⟨b, off, none⟩)) v = (stObj (H b) off s v).map (H.set b) := by
  unfold astore stObj
  simp only
  cases H b with
  | none => rfl
  | some o =>
    cases o with
    | raw o => rfl
    | row own ty xs tot =>
      cases own with
      | false => rfl
      | true =>
        simp only
        split <;> rfl
theorem stObj_row (ty : TypeId) (xs : List Value) (tot off sz : Nat) (v : Value) : stObj (some (.row true ty xs tot)) off sz v = if v.cells.size = sz ∧ v.cells.toList.all Value.oneCell' = true ∧ off + sz ≤ xs.length then some (.row true ty (splice xs off v.cells.toList) tot) else none := rfl
theorem oneOf1 (v : Value) : oneOf [v] = v := rfl

/-! ### values that simp knows -/
theorem vPick_b (t : Bool) (a b : Value) : vPick (.bool t) a b = some (if t = true then a else b) := rfl
theorem vEqB_t (a b : Bool) : vEqB true (.bool a) (.bool b) = some (.bool (!(a == b))) := rfl
theorem vEqB_f (a b : Bool) : vEqB false (.bool a) (.bool b) = some (.bool (a == b)) := rfl
theorem vEqNil_sn (neg : Bool) (n c : Nat) : vEqNil neg .slice (.slice none n c) = some (.bool (if neg then false else true)) := by cases neg <;> rfl
theorem vEqNil_ss (neg : Bool) (a : Addr) (n c : Nat) : vEqNil neg .slice (.slice (some a) n c) = some (.bool (if neg then true else false)) := by cases neg <;> rfl
theorem vEqNil_pn (neg : Bool) : vEqNil neg .pointer (.pointer none) = some (.bool (if neg then false else true)) := by cases neg <;> rfl
theorem vEqNil_ps (neg : Bool) (a : Addr) : vEqNil neg .pointer (.pointer (some a)) = some (.bool (if neg then true else false)) := by cases neg <;> rfl
theorem vUn_neg (k : IntKind) (n : Int) : vUn .neg (.int k n) = some (.int k (k.wrap (0 - n))) := rfl
theorem vUn_not (b : Bool) : vUn .not (.bool b) = some (.bool !b) := rfl
theorem vUn_xor (k : IntKind) (n : Int) : vUn .xor (.int k n) = some (.int k (abits .xor k (if k.signed then -1 else k.max) n)) := rfl
theorem vConv_i (k k' : IntKind) (n : Int) : vConv k (.int k' n) = some (.int k (k.wrap n)) := rfl
theorem vFa_p (off : Nat) (a : Addr) : vFa off (.pointer (some a)) = some (.pointer (some (a.add off))) := rfl
theorem vIa_s (sz : Nat) (a : Addr) (n c : Nat) (k : IntKind) (j : Int) : vIa sz (.slice (some a) n c) (.int k j) = if 0 ≤ j ∧ j < n then some (.pointer (some (a.add (j.toNat * sz)))) else none := rfl
theorem vIaArr_p (ln sz : Nat) (a : Addr) (k : IntKind) (j : Int) : vIaArr ln sz (.pointer (some a)) (.int k j) = if 0 ≤ j ∧ j < ln then some (.pointer (some (a.add (j.toNat * sz)))) else none := rfl
theorem vIxArr_a (g : Bool) (ln sz : Nat) (cs : Array Value) (k : IntKind) (j : Int) : vIxArr g ln sz (.agg cs) (.int k j) = if 0 ≤ j ∧ j < ln then apart g sz ((cs.toList.drop (j.toNat * sz)).take sz) else none := rfl
theorem vFld_a (g : Bool) (off sz : Nat) (cs : List Value) : vFld g off sz (.agg cs.toArray) = apart g sz ((cs.drop off).take sz) := rfl
theorem vExt_t (vs : List Value) (j : Nat) : vExt (.tuple vs.toArray) j = vs[j]? := by simp [vExt]
theorem vNilc_p (a : Addr) : vNilc (.pointer (some a)) = some (.pointer (some a)) := rfl
theorem vLen_s (a : Option Addr) (n c : Nat) : vLen false (.slice a n c) = some (.int .i64 n) := rfl
theorem vLen_t (s : ByteArray) : vLen true (.string s) = some (.int .i64 s.size) := rfl
theorem vMnx_t (k k' : IntKind) (a b : Int) : vMnx true (.int k a) (.int k' b) = some (.int k (if a < b then b else a)) := by simp [vMnx]
theorem vMnx_f (k k' : IntKind) (a b : Int) : vMnx false (.int k a) (.int k' b) = some (.int k (if b < a then b else a)) := by simp [vMnx]
theorem abin_add (k : IntKind) (a b : Int) : abin .add (.int k a) (.int k b) = some (.int k (k.wrap (a + b))) := by simp [abin]
theorem abin_sub (k : IntKind) (a b : Int) : abin .sub (.int k a) (.int k b) = some (.int k (k.wrap (a - b))) := by simp [abin]
theorem abin_mul (k : IntKind) (a b : Int) : abin .mul (.int k a) (.int k b) = some (.int k (k.wrap (a * b))) := by simp [abin]
theorem abin_eql (k : IntKind) (a b : Int) : abin .eql (.int k a) (.int k b) = some (.bool (decide (a = b))) := by simp [abin]
theorem abin_neq (k : IntKind) (a b : Int) : abin .neq (.int k a) (.int k b) = some (.bool (!decide (a = b))) := by simp [abin]
theorem abin_lss (k : IntKind) (a b : Int) : abin .lss (.int k a) (.int k b) = some (.bool (decide (a < b))) := by simp [abin]
theorem abin_leq (k : IntKind) (a b : Int) : abin .leq (.int k a) (.int k b) = some (.bool (decide (a ≤ b))) := by simp [abin]
theorem abin_gtr (k : IntKind) (a b : Int) : abin .gtr (.int k a) (.int k b) = some (.bool (decide (a > b))) := by simp [abin]
theorem abin_geq (k : IntKind) (a b : Int) : abin .geq (.int k a) (.int k b) = some (.bool (decide (a ≥ b))) := by simp [abin]
theorem abin_and (k : IntKind) (a b : Int) : abin .and (.int k a) (.int k b) = some (.int k (abits .and k a b)) := by simp [abin]
theorem abin_or (k : IntKind) (a b : Int) : abin .or (.int k a) (.int k b) = some (.int k (abits .or k a b)) := by simp [abin]
theorem abin_xor (k : IntKind) (a b : Int) : abin .xor (.int k a) (.int k b) = some (.int k (abits .xor k a b)) := by simp [abin]
theorem abin_quo (k : IntKind) (a b : Int) (h : b ≠ 0) : abin .quo (.int k a) (.int k b) = some (.int k (k.wrap (a.tdiv b))) := by simp [abin, h]
theorem abin_rem (k : IntKind) (a b : Int) (h : b ≠ 0) : abin .rem (.int k a) (.int k b) = some (.int k (a.tmod b)) := by simp [abin, h]
theorem abin_shl (k k' : IntKind) (a b : Int) (h : 0 ≤ b) : abin .shl (.int k a) (.int k' b) = some (.int k (k.wrap (a * 2 ^ (min b.toNat k.bits)))) := by simp [abin, h]
theorem abin_shr (k k' : IntKind) (a b : Int) (h : 0 ≤ b) : abin .shr (.int k a) (.int k' b) = some (.int k (a.fdiv (2 ^ (min b.toNat k.bits)))) := by simp [abin, h]
theorem abin_seq (a b : ByteArray) : abin .eql (.string a) (.string b) = some (.bool (a.toList == b.toList)) := rfl
theorem abin_sne (a b : ByteArray) : abin .neq (.string a) (.string b) = some (.bool (!(a.toList == b.toList))) := rfl
theorem abin_scat (a b : ByteArray) (h : a.size + b.size ≤ 9223372036854775807) : abin .add (.string a) (.string b) = some (.string (a ++ b)) := by simp [abin, h]

/-! ### numbers -/
theorem wrap_i64 {n : Int} (h0 : -9223372036854775808 ≤ n) (h1 : n ≤ 9223372036854775807) : IntKind.i64.wrap n = n := by rw [IntKind.wrap_i64]; omega
/-! ### a function's end -/
theorem retQ_r1 {t : Nat} {K : Value → Hp → Prop} {T : Tm} {H : Hp} {v : Value} (h1 : T t = v) (H2 : Hp) (h2 : H2.sub H) (h3 : K v H2) : retQ [.tmp t] K .ret T H := by
  subst h1; exact ⟨.inr rfl, _, H2, rfl, h2, h3⟩
theorem retQ_n1 {t : Nat} {K : Value → Hp → Prop} {T : Tm} {H : Hp} {v : Value} (h1 : T t = v) (H2 : Hp) (h2 : H2.sub H) (h3 : K v H2) : retQ [.tmp t] K .norm T H := by
  subst h1; exact ⟨.inl rfl, _, H2, rfl, h2, h3⟩
theorem retQ_r2 {t t' : Nat} {K : Value → Hp → Prop} {T : Tm} {H : Hp} {v v' : Value} (h1 : T t = v) (h1' : T t' = v') (H2 : Hp) (h2 : H2.sub H) (h3 : K (.tuple #[v, v']) H2) : retQ [.tmp t, .tmp t'] K .ret T H := by
  subst h1 h1'; exact ⟨.inr rfl, _, H2, rfl, h2, h3⟩
theorem retQ_r3 {t t' t'' : Nat} {K : Value → Hp → Prop} {T : Tm} {H : Hp} {v v' v'' : Value} (h1 : T t = v) (h1' : T t' = v') (h1'' : T t'' = v'') (H2 : Hp) (h2 : H2.sub H) (h3 : K (.tuple #[v, v', v'']) H2) : retQ [.tmp t, .tmp t', .tmp t''] K .ret T H := by
  subst h1 h1' h1''; exact ⟨.inr rfl, _, H2, rfl, h2, h3⟩
theorem retQ_n0 {K : Value → Hp → Prop} {T : Tm} {H : Hp} (H2 : Hp) (h2 : H2.sub H) (h3 : K (oneOf []) H2) : retQ [] K .norm T H := ⟨.inl rfl, _, H2, rfl, h2, h3⟩
theorem retQ_r0 {K : Value → Hp → Prop} {T : Tm} {H : Hp} (H2 : Hp) (h2 : H2.sub H) (h3 : K (oneOf []) H2) : retQ [] K .ret T H := ⟨.inr rfl, _, H2, rfl, h2, h3⟩
/-! ### boxes -/
theorem aw_boxv {P : Program} {T : Tm} {H : Hp} {Q : Ex → Tm → Hp → Prop} {k : AC} {d ty : Nat} {x : Operand} {v : Value} (hv : ev T x = v) (h : ∀ b, H b = none → aw P k (T.put d (.pointer (some ⟨b, 0, none⟩))) (H.set b (.row true ty (valCells v) (valCells v).length)) Q) :
    aw P (.op ⟨some d, none, .box ty x⟩ k) T H Q := by
  subst hv; exact aw_box rfl h
theorem vc_agg (l : List Value) : valCells (.agg l.toArray) = l := rfl
theorem vc_int (k : IntKind) (n : Int) : valCells (.int k n) = [.int k n] := rfl
theorem vc_bool (b : Bool) : valCells (.bool b) = [.bool b] := rfl
theorem vc_slice (a : Option Addr) (n c : Nat) : valCells (.slice a n c) = [.slice a n c] := rfl
theorem set_same (H : Hp) (b : Nat) (o : AObj) : (H.set b o) b = some o := by simp [set_get]
theorem set_ne {H : Hp} {b b' : Nat} {o : AObj} (h : b' ≠ b) : (H.set b o) b' = H b' := by simp [set_get, h]
theorem ne_set {H : Hp} {b b' : Nat} {o : AObj} (h : (H.set b o) b' = none) : b ≠ b' := by intro e; subst e; simp [set_get] at h
theorem none_set {H : Hp} {b b' : Nat} {o : AObj} (h : (H.set b o) b' = none) : H b' = none := by
  rw [set_get] at h
  split at h
  · cases h
  · exact h
theorem some_ne {H : Hp} {b b' : Nat} {o : AObj} (h : H b = some o) (h' : H b' = none) : b ≠ b' := by intro e; subst e; rw [h] at h'; cases h'
/-! ### checks of a drawn region -/
theorem aw_chk1 {P : Program} {T : Tm} {H : Hp} {Q : Ex → Tm → Hp → Prop} {k : AC} {t s : Nat} {g : Bool} {x : Operand} (h : aload H g s (ev T x) = some (T t)) :
    aw P (.op ⟨none, none, .chk [(t, none, g, s, x)]⟩ k) T H Q = aw P k T H Q := aw_chk _ (by intro r hr _; simp at hr; subst hr; exact h)
theorem aw_chk2 {P : Program} {T : Tm} {H : Hp} {Q : Ex → Tm → Hp → Prop} {k : AC} {t s t' s' : Nat} {g g' : Bool} {x x' : Operand} (h : aload H g s (ev T x) = some (T t)) (h' : aload H g' s' (ev T x') = some (T t')) :
    aw P (.op ⟨none, none, .chk [(t, none, g, s, x), (t', none, g', s', x')]⟩ k) T H Q = aw P k T H Q := aw_chk _ (by
      intro r hr _
      simp at hr
      rcases hr with rfl | rfl
      · exact h
      · exact h')
theorem anew1 {H : Hp} {b c sz : Nat} {r : List Value} (hsz : 0 < sz) (h : rdObj (H b) 0 sz = some r) : anew H sz (.slice (some ⟨b, 0, none⟩) 1 c) = some (1, r) := by
  show (if 1 * sz = 0 then some (1, []) else (H.rd ⟨b, 0, none⟩ (1 * sz)).map fun cs => (1, cs)) = _
  rw [if_neg (by omega), Nat.one_mul, rd_mk, h]
  rfl
/-! ### stores of values, new slices -/
theorem st_agg (ty : TypeId) (xs : List Value) (tot off sz : Nat) (l : List Value) : stObj (some (.row true ty xs tot)) off sz (.agg l.toArray) = if l.length = sz ∧ l.all Value.oneCell' = true ∧ off + sz ≤ xs.length then some (.row true ty (splice xs off l) tot) else none := by
  rw [stObj_row]; rfl
theorem st_int (ty : TypeId) (xs : List Value) (tot off : Nat) (k : IntKind) (n : Int) : stObj (some (.row true ty xs tot)) off 1 (.int k n) = if off + 1 ≤ xs.length then some (.row true ty (splice xs off [.int k n]) tot) else none := by
  rw [stObj_row]; simp [Value.cells, Value.oneCell']
theorem st_slice (ty : TypeId) (xs : List Value) (tot off : Nat) (a : Option Addr) (n c : Nat) : stObj (some (.row true ty xs tot)) off 1 (.slice a n c) = if off + 1 ≤ xs.length then some (.row true ty (splice xs off [.slice a n c]) tot) else none := by
  rw [stObj_row]; simp [Value.cells, Value.oneCell']
theorem st_ptr (ty : TypeId) (xs : List Value) (tot off : Nat) (a : Option Addr) : stObj (some (.row true ty xs tot)) off 1 (.pointer a) = if off + 1 ≤ xs.length then some (.row true ty (splice xs off [.pointer a]) tot) else none := by
  rw [stObj_row]; simp [Value.cells, Value.oneCell']
theorem one_int (k : IntKind) (n : Int) : Value.oneCell' (.int k n) = true := rfl
theorem one_bool (b : Bool) : Value.oneCell' (.bool b) = true := rfl
theorem one_slice (a : Option Addr) (n c : Nat) : Value.oneCell' (.slice a n c) = true := rfl
theorem one_ptr (a : Option Addr) : Value.oneCell' (.pointer a) = true := rfl
theorem one_str (a : ByteArray) : Value.oneCell' (.string a) = true := rfl
theorem splice_eq (xs : List Value) (off : Nat) (cs : List Value) : splice xs off cs = xs.take off ++ cs ++ xs.drop (off + cs.length) := rfl
theorem aparts_nil (T : Tm) : aparts T [] = some [] := rfl
theorem aparts_cons (T : Tm) (off sz : Nat) (x : Operand) (rest : List (Nat × Nat × Operand)) : aparts T ((off, sz, x) :: rest) = if (valCells (ev T x)).length = sz then (aparts T rest).map ((off, valCells (ev T x)) :: ·) else none := by
  simp only [valCells, Array.length_toList]; rfl
theorem afill_nil (cs : List Value) : afill cs [] = some cs := rfl
theorem afill_cons (cells : List Value) (off : Nat) (cs : List Value) (rest : List (Nat × List Value)) : afill cells ((off, cs) :: rest) = if off + cs.length ≤ cells.length then afill (splice cells off cs) rest else none := rfl
theorem set_set (H : Hp) (b : Nat) (o o' : AObj) : (H.set b o).set b o' = H.set b o' := by
  funext c; simp only [set_get]; split <;> rfl
theorem rz0 (z : List Value) : repZero z 0 = [] := rfl
theorem rz1 (z : List Value) : repZero z 1 = z := by simp [repZero]
theorem rz2 (z : List Value) : repZero z 2 = z ++ z := by simp [repZero]
end Go.Proofs.Ytonmmfjagkgifaa
