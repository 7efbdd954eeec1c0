/- The abstract calculus, first text: states, operations, and that each operation of the model does what its abstract one says. -/
import Derived.Below
import Derived.Orders
import Derived.Laws.AppendOwn
import Derived.Laws.OwnMore
import Derived.KernelRfl
set_option linter.unusedVariables false
set_option linter.unusedSimpArgs false
namespace Go.Proofs.Ytonmmfjagkgifaa
open Go.RowKit

/-! ### 1. States -/
abbrev Tm := Nat → Value
def Tm.put (T : Tm) (d : Nat) (v : Value) : Tm := fun t => if t = d then v else T t
def Tm.puto (T : Tm) : Option Nat → Value → Tm
  | some d, v => T.put d v
  | none, _ => T
def ev (T : Tm) : Operand → Value
  | .tmp t => T t
  | .const v => v
  | .global g => .pointer (some ⟨g, 0, none⟩)
  | .func f => .func (.func f) #[] #[]

/-- What is known of a block: a row of cells (its first ones; how many there are in all; may it be written), or just what it is. -/
inductive AObj where
  | row (own : Bool) (ty : TypeId) (xs : List Value) (tot : Nat)
  | raw (o : Obj)
abbrev Hp := Nat → Option AObj
def Hp.set (H : Hp) (b : Nat) (o : AObj) : Hp := fun b' => if b' = b then some o else H b'
def Hp.del (H : Hp) (b : Nat) : Hp := fun b' => if b' = b then none else H b'
def Hp.rd (H : Hp) (a : Addr) (k : Nat) : Option (List Value) :=
  match H a.block with
  | some (.row _ _ xs _) => if a.spot = none ∧ a.off + k ≤ xs.length then some ((xs.drop a.off).take k) else none
  | _ => none
def splice (xs : List Value) (off : Nat) (cs : List Value) : List Value := xs.take off ++ cs ++ xs.drop (off + cs.length)

def AObj.fits (w : World) (b : Nat) : AObj → Prop
  | .row own ty xs tot => ∃ (c : Array Value) (fr : Nat × Nat) (sp : List Value), w.heap[b]? = some (.cells c ty fr) ∧ c.toList = xs ++ sp ∧ c.size = tot ∧ (own = true → fr = (0, 0))
  | .raw o => w.heap[b]? = some o
def Sat (H : Hp) (w : World) : Prop := ∀ b o, H b = some o → o.fits w b
def AObj.wr : AObj → Bool
  | .row own _ _ _ => own
  | .raw _ => true
def wrAt (H : Hp) (b : Nat) : Bool := ((H b).map AObj.wr).getD false

/-- What a piece of code keeps: the streams; what was there and may not be written; it tells of no foreign block. -/
structure Keeps (H0 : Hp) (w0 : World) (H : Hp) (w : World) : Prop where
  os : w.os = w0.os
  tape : w.tape = w0.tape
  output : w.output = w0.output
  size : w0.heap.size ≤ w.heap.size
  block : ∀ b, b < w0.heap.size → wrAt H0 b = false → w.heap[b]? = w0.heap[b]?
  dom : ∀ b, H b ≠ none → H0 b ≠ none ∨ w0.heap.size ≤ b
  wr : ∀ b, wrAt H b = true → wrAt H0 b = true ∨ w0.heap.size ≤ b

theorem Keeps.refl (H : Hp) (w : World) : Keeps H w H w := ⟨rfl, rfl, rfl, Nat.le_refl _, fun _ _ _ => rfl, fun _ h => .inl h, fun _ h => .inl h⟩
theorem Keeps.trans {H0 H1 H2 : Hp} {w0 w1 w2 : World} (h : Keeps H0 w0 H1 w1) (k : Keeps H1 w1 H2 w2) : Keeps H0 w0 H2 w2 where
  os := k.os.trans h.os
  tape := k.tape.trans h.tape
  output := k.output.trans h.output
  size := Nat.le_trans h.size k.size
  block b hb hw := by
    have h1 : wrAt H1 b = false := by
      cases e : wrAt H1 b with
      | false => rfl
      | true => rcases h.wr b e with h2 | h2
                · rw [hw] at h2; cases h2
                · omega
    rw [k.block b (Nat.lt_of_lt_of_le hb h.size) h1, h.block b hb hw]
  dom b hb := by
    rcases k.dom b hb with h1 | h1
    · exact h.dom b h1
    · exact .inr (Nat.le_trans h.size h1)
  wr b hb := by
    rcases k.wr b hb with h1 | h1
    · exact h.wr b h1
    · exact .inr (Nat.le_trans h.size h1)

theorem Sat.lt {H : Hp} {w : World} (h : Sat H w) {b : Nat} (hb : H b ≠ none) : b < w.heap.size := by
  cases e : H b with
  | none => exact absurd e hb
  | some o =>
    have := h b o e
    cases o with
    | row own ty xs tot => obtain ⟨c, fr, sp, h1, _⟩ := this; exact (Array.getElem?_eq_some_iff.1 h1).1
    | raw o => exact (Array.getElem?_eq_some_iff.1 this).1
/-- Fewer facts. -/
def Hp.sub (H1 H : Hp) : Prop := ∀ b o, H1 b = some o → H b = some o
theorem Hp.sub.refl (H : Hp) : H.sub H := fun _ _ h => h
theorem Hp.sub.trans {A B C : Hp} (h : A.sub B) (k : B.sub C) : A.sub C := fun b o x => k b o (h b o x)
theorem Sat.sub {H1 H : Hp} {w : World} (h : Sat H w) (s : H1.sub H) : Sat H1 w := fun b o x => h b o (s b o x)
theorem Keeps.sub {H0 H H1 : Hp} {w0 w : World} (h : Keeps H0 w0 H w) (s : H1.sub H) : Keeps H0 w0 H1 w where
  os := h.os
  tape := h.tape
  output := h.output
  size := h.size
  block := h.block
  dom b hb := by
    cases e : H1 b with
    | none => exact absurd e hb
    | some o => exact h.dom b (by rw [s b o e]; simp)
  wr b hb := by
    cases e : H1 b with
    | none => rw [wrAt, e] at hb; cases hb
    | some o => exact h.wr b (by rw [wrAt, s b o e]; rw [wrAt, e] at hb; exact hb)

/-! ### 2. Values -/
def abits (op : BinOp) (k : IntKind) (x y : Int) : Int :=
  let a := BitVec.ofInt k.bits x
  let b := BitVec.ofInt k.bits y
  match op with
  | .and => k.wrap (a &&& b).toNat
  | .or => k.wrap (a ||| b).toNat
  | .xor => k.wrap (a ^^^ b).toNat
  | _ => k.wrap (a &&& ~~~b).toNat
def abin (op : BinOp) (x y : Value) : Option Value :=
  match x, y with
  | .int k a, .int k' b =>
    match op with
    | .shl => if 0 ≤ b then some (.int k (k.wrap (a * 2 ^ (min b.toNat k.bits)))) else none
    | .shr => if 0 ≤ b then some (.int k (a.fdiv (2 ^ (min b.toNat k.bits)))) else none
    | .add => if k = k' then some (.int k (k.wrap (a + b))) else none
    | .sub => if k = k' then some (.int k (k.wrap (a - b))) else none
    | .mul => if k = k' then some (.int k (k.wrap (a * b))) else none
    | .quo => if k = k' ∧ b ≠ 0 then some (.int k (k.wrap (a.tdiv b))) else none
    | .rem => if k = k' ∧ b ≠ 0 then some (.int k (a.tmod b)) else none
    | .and => if k = k' then some (.int k (abits .and k a b)) else none
    | .or => if k = k' then some (.int k (abits .or k a b)) else none
    | .xor => if k = k' then some (.int k (abits .xor k a b)) else none
    | .andNot => if k = k' then some (.int k (abits .andNot k a b)) else none
    | .eql => if k = k' then some (.bool (decide (a = b))) else none
    | .neq => if k = k' then some (.bool (!decide (a = b))) else none
    | .lss => if k = k' then some (.bool (decide (a < b))) else none
    | .leq => if k = k' then some (.bool (decide (a ≤ b))) else none
    | .gtr => if k = k' then some (.bool (decide (a > b))) else none
    | .geq => if k = k' then some (.bool (decide (a ≥ b))) else none
  | .string a, .string b =>
    match op with
    | .add => if a.size + b.size ≤ 9223372036854775807 then some (.string (a ++ b)) else none
    | .eql => some (.bool (a.toList == b.toList))
    | .neq => some (.bool (!(a.toList == b.toList)))
    | .lss => some (.bool (Op.bytesLess a.toList b.toList))
    | .leq => some (.bool (Op.bytesLess a.toList b.toList || a.toList == b.toList))
    | .gtr => some (.bool (!(Op.bytesLess a.toList b.toList || a.toList == b.toList)))
    | .geq => some (.bool (!Op.bytesLess a.toList b.toList))
    | _ => none
  | _, _ => none
/-- The kind that all cells of a compared value have. -/
inductive SK where
  | int | bool | str
  deriving DecidableEq
def scalarEq : SK → Value → Value → Option Bool
  | .int, .int k a, .int k' b => if k = k' then some (decide (a = b)) else none
  | .bool, .bool a, .bool b => some (a == b)
  | .str, .string a, .string b => some (a.toList == b.toList)
  | _, _, _ => none
/-- '==' of two values whose cells are of one kind. -/
def cellsEq (sk : SK) : List Value → List Value → Option Bool
  | [], [] => some true
  | x :: xs, y :: ys => (scalarEq sk x y).bind fun a => (cellsEq sk xs ys).map fun b => a && b
  | _, _ => none
inductive NK where
  | slice | pointer | map | func
  deriving DecidableEq
def isNil : NK → Value → Option Bool
  | .pointer, .pointer a => some a.isNone
  | .slice, .slice a _ _ => some a.isNone
  | .map, .map r => some r.isNone
  | .func, .nilFunc => some true
  | .func, .func _ _ _ => some false
  | _, _ => none

/-- Operations, their types told in numbers. -/
inductive AOp where
  | mv (x : Operand)
  | pick (c a b : Operand)
  | bin (op : BinOp) (x y : Operand)
  | eqB (neg : Bool) (x y : Operand)
  | eqNil (neg : Bool) (nk : NK) (x : Operand)
  | eqAgg (neg : Bool) (sk : SK) (sz : Nat) (x y : Operand)
  | un (op : UnOp) (x : Operand)
  | conv (k : IntKind) (x : Operand)
  | fa (off : Nat) (x : Operand)
  | ia (sz : Nat) (x i : Operand)
  | iaArr (len sz : Nat) (x i : Operand)
  | ixArr (agg : Bool) (len sz : Nat) (x i : Operand)
  | ixStr (x i : Operand)
  | fld (agg : Bool) (off sz : Nat) (x : Operand)
  | ext (x : Operand) (j : Nat)
  | bld (zero : List Value) (parts : List (Nat × Nat × Operand))
  | nilc (x : Operand)
  | mkf (fn : Fn) (first captured : List Operand)
  | slc (sz : Nat) (x : Operand) (lo hi mx : Option Operand)
  | slcArr (len sz : Nat) (x : Operand) (lo hi : Option Operand)
  | slcStr (x : Operand) (lo hi : Option Operand)
  | len (str : Bool) (x : Operand)
  | cap (x : Operand)
  | mnx (mx : Bool) (x y : Operand)
  | ld (agg : Bool) (sz : Nat) (x : Operand)
  | alloc (ty : TypeId) (zero : List Value)
  | box (ty : TypeId) (x : Operand)
  | bsl (ty : TypeId) (len : Nat) (zero : List Value) (parts : List (Nat × Nat × Operand))
  | msl (ty : TypeId) (bytes : Nat) (zero : List Value) (l c : Operand)
  | st (sz : Nat) (a x : Operand)
  | app (ty : TypeId) (sz bytes : Nat) (s x : Operand)
  | call (f : Operand) (args : List Operand)
  | chk (rs : List (Nat × Option (Nat × Bool) × Bool × Nat × Operand))
structure AI where
  dst : Option Nat
  guard : Option (Nat × Bool)
  op : AOp

def apart (agg : Bool) (sz : Nat) (cs : List Value) : Option Value := if cs.length = sz then (if agg then some (.agg cs.toArray) else cs.head?) else none
def afill : List Value → List (Nat × List Value) → Option (List Value)
  | cells, [] => some cells
  | cells, (off, cs) :: rest => if off + cs.length ≤ cells.length then afill (splice cells off cs) rest else none
def aparts (T : Tm) : List (Nat × Nat × Operand) → Option (List (Nat × List Value))
  | [] => some []
  | (off, sz, x) :: rest => if (ev T x).cells.size = sz then (aparts T rest).map ((off, (ev T x).cells.toList) :: ·) else none
def abound (T : Tm) (x : Option Operand) (most dflt : Nat) : Option Nat :=
  match x with
  | none => some dflt
  | some o => match ev T o with
    | .int _ i => if 0 ≤ i ∧ i ≤ most then some i.toNat else none
    | _ => none
def valCells (v : Value) : List Value := v.cells.toList

/-- The value of an operation that looks at no memory. -/
def AOp.val (T : Tm) : AOp → Option Value
  | .mv x => some (ev T x)
  | .pick c a b => match ev T c with
    | .bool t => some (if t then ev T a else ev T b)
    | _ => none
  | .bin op x y => abin op (ev T x) (ev T y)
  | .eqB neg x y => match ev T x, ev T y with
    | .bool a, .bool b => some (.bool (if neg then !(a == b) else a == b))
    | _, _ => none
  | .eqNil neg nk x => (isNil nk (ev T x)).map fun b => .bool (if neg then !b else b)
  | .eqAgg neg sk sz x y => match ev T x, ev T y with
    | .agg xs, .agg ys => if xs.size = sz ∧ ys.size = sz then (cellsEq sk xs.toList ys.toList).map fun b => .bool (if neg then !b else b) else none
    | _, _ => none
  | .un op x => match op, ev T x with
    | .neg, .int k n => some (.int k (k.wrap (0 - n)))
    | .xor, .int k n => some (.int k (abits .xor k (if k.signed then -1 else k.max) n))
    | .not, .bool b => some (.bool !b)
    | _, _ => none
  | .conv k x => match ev T x with
    | .int _ n => some (.int k (k.wrap n))
    | _ => none
  | .fa off x => match ev T x with
    | .pointer (some a) => some (.pointer (some (a.add off)))
    | _ => none
  | .ia sz x i => match ev T x, ev T i with
    | .slice (some a) n _, .int _ j => if 0 ≤ j ∧ j < n then some (.pointer (some (a.add (j.toNat * sz)))) else none
    | _, _ => none
  | .iaArr ln sz x i => match ev T x, ev T i with
    | .pointer (some a), .int _ j => if 0 ≤ j ∧ j < ln then some (.pointer (some (a.add (j.toNat * sz)))) else none
    | _, _ => none
  | .ixArr agg ln sz x i => match ev T x, ev T i with
    | .agg cs, .int _ j => if 0 ≤ j ∧ j < ln then apart agg sz ((cs.toList.drop (j.toNat * sz)).take sz) else none
    | _, _ => none
  | .ixStr x i => match ev T x, ev T i with
    | .string s, .int _ j => if 0 ≤ j then (s[j.toNat]?).map fun b => .int .u8 b.toNat else none
    | _, _ => none
  | .fld agg off sz x => match ev T x with
    | .agg cs => apart agg sz ((cs.toList.drop off).take sz)
    | _ => none
  | .ext x j => match ev T x with
    | .tuple vs => vs[j]?
    | _ => none
  | .bld zero parts => (aparts T parts).bind fun ps => (afill zero ps).map fun cs => .agg cs.toArray
  | .nilc x => match ev T x with
    | .pointer (some a) => some (.pointer (some a))
    | .func (.func f) first cp => some (.func (.func f) first cp)
    | _ => none
  | .mkf fn first cp => some (.func fn (first.map (ev T)).toArray (cp.map (ev T)).toArray)
  | .slc sz x lo hi mx => match ev T x with
    | .slice a ln cp => (abound T mx cp cp).bind fun m => (abound T hi m ln).bind fun h => (abound T lo h 0).map fun l =>
        .slice (if m = l then a else a.map (·.add (l * sz))) (h - l) (m - l)
    | _ => none
  | .slcArr ln sz x lo hi => match ev T x with
    | .pointer (some a) => (abound T hi ln ln).bind fun h => (abound T lo h 0).map fun l => .slice (some (if ln = l then a else a.add (l * sz))) (h - l) (ln - l)
    | _ => none
  | .slcStr x lo hi => match ev T x with
    | .string s => (abound T hi s.size s.size).bind fun h => (abound T lo h 0).map fun l => .string (s.extract l h)
    | _ => none
  | .len str x => match str, ev T x with
    | false, .slice _ n _ => some (.int .i64 n)
    | true, .string s => some (.int .i64 s.size)
    | _, _ => none
  | .cap x => match ev T x with
    | .slice _ _ c => some (.int .i64 c)
    | _ => none
  | .mnx mx x y => match ev T x, ev T y with
    | .int k a, .int _ b => some (.int k (if mx then (if a < b then b else a) else (if b < a then b else a)))
    | _, _ => none
  | _ => none

/-- A load. -/
def aload (H : Hp) (agg : Bool) (sz : Nat) : Value → Option Value
  | .pointer (some a) => (H.rd a sz).bind (apart agg sz)
  | _ => none
/-- A store. -/
def astore (H : Hp) (sz : Nat) (p v : Value) : Option Hp :=
  match p with
  | .pointer (some ⟨b, off, none⟩) => match H b with
    | some (.row true ty xs tot) => if v.cells.size = sz ∧ v.cells.toList.all Value.oneCell' = true ∧ off + sz ≤ xs.length then some (H.set b (.row true ty (splice xs off v.cells.toList) tot)) else none
    | _ => none
  | _ => none
def anew (H : Hp) (sz : Nat) : Value → Option (Nat × List Value)
  | .slice (some a) n _ => if n * sz = 0 then some (n, []) else (H.rd a (n * sz)).map fun cs => (n, cs)
  | .slice none 0 _ => some (0, [])
  | _ => none
def enterOk (P : Program) (f : FuncId) : Bool := match P.funcs[f]? with
  | some fn => fn.name != "runtime.NumGoroutine" && fn.body.isSome
  | none => false

/-- A call: in every world of which H tells the truth it returns, and K holds of what it returns and of what is then known. -/
def ACalls (P : Program) (f : FuncId) (args : Array Value) (H : Hp) (K : Value → Hp → Prop) : Prop :=
  enterOk P f = true ∧ ∀ w, Sat H w → Calls P f args w fun e w' => ∃ r H', e = .returned r ∧ K r H' ∧ Sat H' w' ∧ Keeps H w H' w'

def asGuard (T : Tm) : Option (Nat × Bool) → Bool
  | none => true
  | some (t, want) => match T t with
    | .bool b => b == want
    | _ => false
def aappend (ty : TypeId) (sz bytes : Nat) (H : Hp) (s x : Value) (K : Value → Hp → Prop) : Prop :=
  ∃ n new, anew H sz x = some (n, new) ∧ new.all Value.oneCell' = true ∧
  match s with
  | .slice none 0 0 => (n = 0 → K (.slice none 0 0) H) ∧
      (0 < n → n * bytes ≤ 140737488355328 ∧ n ≤ 9223372036854775807 ∧ ∀ b c, H b = none → n ≤ c → K (.slice (some ⟨b, 0, none⟩) n c) (H.set b (.row true ty new (c * sz))))
  | .slice (some ⟨b, 0, none⟩) len cap => ∃ xs tot, H b = some (.row true ty xs tot) ∧ len * sz ≤ xs.length ∧ (len + n) * bytes ≤ 140737488355328 ∧ len + n ≤ 9223372036854775807 ∧
      (len + n ≤ cap → cap * sz ≤ tot ∧ K (.slice (some ⟨b, 0, none⟩) (len + n) cap) (H.set b (.row true ty (splice xs (len * sz) new) tot))) ∧
      (cap < len + n → ∀ b' c', H b' = none → len + n ≤ c' → K (.slice (some ⟨b', 0, none⟩) (len + n) c') (H.set b' (.row true ty (xs.take (len * sz) ++ new) (c' * sz))))
  | _ => False
def acall (P : Program) (H : Hp) (fv : Value) (args : Array Value) (K : Value → Hp → Prop) : Prop :=
  match fv with
  | .func (.func f) first cap => ACalls P f (first ++ args ++ cap) H K
  | _ => False
def repZero (zero : List Value) (n : Nat) : List Value := (List.replicate n zero).flatten

/-- One operation (its guard says yes). -/
def AOp.step (P : Program) (T : Tm) (H : Hp) (op : AOp) (dst : Option Nat) (K : Tm → Hp → Prop) : Prop :=
  match op with
  | .ld agg sz x => ∃ v, aload H agg sz (ev T x) = some v ∧ K (T.puto dst v) H
  | .alloc ty zero => ∀ b, H b = none → K (T.puto dst (.pointer (some ⟨b, 0, none⟩))) (H.set b (.row true ty zero zero.length))
  | .box ty x => ∀ b, H b = none → K (T.puto dst (.pointer (some ⟨b, 0, none⟩))) (H.set b (.row true ty (valCells (ev T x)) (valCells (ev T x)).length))
  | .bsl ty ln zero parts => ∃ ps cs, aparts T parts = some ps ∧ afill (repZero zero ln) ps = some cs ∧
      ∀ b, H b = none → K (T.puto dst (.slice (some ⟨b, 0, none⟩) ln ln)) (H.set b (.row true ty cs cs.length))
  | .msl ty bytes zero l c => ∃ kl lv kc cv, ev T l = .int kl lv ∧ ev T c = .int kc cv ∧ 0 ≤ lv ∧ lv ≤ cv ∧ (bytes : Int) * cv ≤ 281474976710656 ∧ cv ≤ 9223372036854775807 ∧
      ∀ b, H b = none → K (T.puto dst (.slice (some ⟨b, 0, none⟩) lv.toNat cv.toNat)) (H.set b (.row true ty (repZero zero cv.toNat) (cv.toNat * zero.length)))
  | .st sz a x => ∃ H', astore H sz (ev T a) (ev T x) = some H' ∧ K (T.puto dst undef) H'
  | .app ty sz bytes s x => aappend ty sz bytes H (ev T s) (ev T x) fun v H' => K (T.puto dst v) H'
  | .call f args => acall P H (ev T f) (args.map (ev T)).toArray fun v H' => K (T.puto dst v) H'
  | .chk rs => (∀ r ∈ rs, asGuard T r.2.1 = true → aload H r.2.2.1 r.2.2.2.1 (ev T r.2.2.2.2) = some (T r.1)) ∧ K T H
  | op => ∃ v, op.val T = some v ∧ K (T.puto dst v) H
def AI.step (P : Program) (T : Tm) (H : Hp) (i : AI) (K : Tm → Hp → Prop) : Prop :=
  if asGuard T i.guard = true then i.op.step P T H i.dst K else K (T.puto i.dst undef) H

end Go.Proofs.Ytonmmfjagkgifaa
