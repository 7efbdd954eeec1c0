/- The abstract calculus, second text: the model's operations are read into abstract ones, and do what those say. -/
import Derived.Test.YtonmmfjagkgifaaAb
import Derived.Laws.StructEq
import Derived.ChangeKeysEq
set_option linter.unusedVariables false
set_option linter.unusedSimpArgs false
namespace Go.Proofs.Ytonmmfjagkgifaa
open Go.RowKit

def aggT (P : Program) (t : TypeId) : Option Bool := match P.underlying t with
  | some (.struct _) | some (.array _ _) => some true
  | some _ => some false
  | none => none
def sizeT (P : Program) (t : TypeId) : Option Nat := (P.info? t).map (·.size)
def zeroT (P : Program) (t : TypeId) : Option (List Value) := ((P.info? t).bind (·.zero)).map fun z => z.cells.toList
/-- Types whose '==' is that of their cells: whole numbers, bools, strings, and structs and arrays of them without blank fields. -/
def layFs (P : Program) : List Field → Nat → Option Nat
  | [], n => some n
  | f :: fs, n => if f.offset = n then (sizeT P f.type).bind fun s => layFs P fs (n + s) else none
def plainT (P : Program) (sk : SK) : Nat → TypeId → Bool
  | 0, _ => false
  | d + 1, t => match P.underlying t with
    | some (.int _) => sk == .int && (sizeT P t == some 1)
    | some .bool => sk == .bool && (sizeT P t == some 1)
    | some .string => sk == .str && (sizeT P t == some 1)
    | some (.struct fs) => !(P.stoodInHeld t) && fs.toList.all (fun f => f.name != "_" && plainT P sk d f.type) && (layFs P fs.toList 0 == sizeT P t) && (sizeT P t).isSome
    | some (.array n e) => plainT P sk d e && ((sizeT P e).map (n * ·) == sizeT P t) && (sizeT P t).isSome
    | _ => false
def placeOf (P : Program) (t : TypeId) (i : Nat) : Option (Nat × Nat) := match P.underlying t with
  | some (.struct fs) => (fs[i]?).bind fun f => (sizeT P f.type).map fun s => (f.offset, s)
  | some (.array _ e) => (sizeT P e).map fun s => (i * s, s)
  | _ => none
def prepParts (pl : Nat → Option (Nat × Nat)) : List (Nat × Operand) → Option (List (Nat × Nat × Operand))
  | [] => some []
  | (i, x) :: rest => (pl i).bind fun p => (prepParts pl rest).map fun r => (p.1, p.2, x) :: r
def nkOf : TypeDesc → Option NK
  | .slice _ => some .slice
  | .pointer _ => some .pointer
  | .map _ _ => some .map
  | .func _ _ _ => some .func
  | _ => none
def prepBin (P : Program) (op : BinOp) (t : TypeId) (x y : Operand) : Option AOp :=
  match op, P.underlying t with
  | _, some (.int _) | _, some .string => some (.bin op x y)
  | .eql, some .bool => some (.eqB false x y)
  | .neq, some .bool => some (.eqB true x y)
  | op, some d => match nkOf d, y, op with
    | some nk, .const v, .eql => if isNil nk v = some true then some (.eqNil false nk x) else none
    | some nk, .const v, .neq => if isNil nk v = some true then some (.eqNil true nk x) else none
    | _, _, _ => none
  | _, _ => none
def prepCall (P : Program) (c : Call) : Option AOp :=
  match c.callee with
  | .value f => some (.call f c.args.toList)
  | .invoke _ _ => none
  | .builtin b => match b, c.args.toList, c.argTypes.toList with
    | .len, [x], [t] => match P.underlying t with
      | some (.slice _) => some (.len false x)
      | some .string => some (.len true x)
      | _ => none
    | .cap, [x], [t] => match P.underlying t with
      | some (.slice _) => some (.cap x)
      | _ => none
    | .min, [x, y], _ => some (.mnx false x y)
    | .max, [x, y], _ => some (.mnx true x y)
    | .append, [s, x], [t, u] => if t = u then match P.underlying t with
      | some (.slice e) => (P.info? e).bind fun i => i.zero.bind fun z => if z.cells.size = i.size ∧ 0 < i.size then some (.app e i.size i.bytes s x) else none
      | _ => none else none
    | _, _, _ => none
def prepOp (P : Program) : Op → Option AOp
  | .move x | .assign x => some (.mv x)
  | .pick c a b => some (.pick c a b)
  | .alloc e => (zeroT P e).map (.alloc e)
  | .box e x => some (.box e x)
  | .build t parts => (zeroT P t).bind fun z => (prepParts (placeOf P t) parts.toList).bind fun ps => match P.underlying t with
    | some (.struct fs) => if fs.toList.all (fun f => (sizeT P f.type).isSome) then some (.bld z ps) else none
    | some (.array _ e) => if (sizeT P e).isSome then some (.bld z ps) else none
    | _ => none
  | .buildSlice t ln parts => match P.underlying t with
    | some (.slice e) => (P.info? e).bind fun i => i.zero.bind fun z => if z.cells.size = i.size ∧ 0 < i.size ∧ ln * i.size ≤ 16777216 then
        (prepParts (fun j => some (j * i.size, i.size)) parts.toList).map fun ps => .bsl e ln z.cells.toList ps else none
    | _ => none
  | .load t x => (aggT P t).bind fun g => (sizeT P t).bind fun s => if g || s == 1 then some (.ld g s x) else none
  | .store t a x => (sizeT P t).map fun s => .st s a x
  | .nilCheck x => some (.nilc x)
  | .binOp op t x y _ => match P.underlying t with
    | some (.struct _) | some (.array _ _) => if P.eqGuardType P.depth t then none else
      (if plainT P .int 100 t then some SK.int else if plainT P .bool 100 t then some SK.bool else if plainT P .str 100 t then some SK.str else none).bind fun sk =>
      (sizeT P t).bind fun s => (match op with | .eql => some (.eqAgg false sk s x y) | .neq => some (.eqAgg true sk s x y) | _ => none)
    | _ => prepBin P op t x y
  | .unOp op _ x => some (.un op x)
  | .convert t d x => match P.underlying t, P.underlying d with
    | some (.int _), some (.int k) => some (.conv k x)
    | _, _ => none
  | .makeFunc fn first captured => some (.mkf fn first.toList captured.toList)
  | .makeSlice t l c => match P.underlying t with
    | some (.slice e) => (P.info? e).bind fun i => i.zero.bind fun z => if z.cells.size = i.size ∧ 0 < i.size then some (.msl e i.bytes z.cells.toList l c) else none
    | _ => none
  | .slice t x lo hi mx => match P.underlying t with
    | some (.slice e) => if mx.isSome && hi.isNone then none else (sizeT P e).map fun s => .slc s x lo hi mx
    | some .string => if mx.isSome then none else some (.slcStr x lo hi)
    | some (.array n e) => if mx.isSome then none else (sizeT P e).map fun s => .slcArr n s x lo hi
    | some (.pointer r) => match P.underlying r with
      | some (.array n e) => if mx.isSome then none else (sizeT P e).map fun s => .slcArr n s x lo hi
      | _ => none
    | _ => none
  | .fieldAddr t x j => match P.underlying t with
    | some (.struct fs) => (fs[j]?).bind fun f => (sizeT P f.type).bind fun s => if s = 0 then none else some (.fa f.offset x)
    | _ => none
  | .field t x j => match P.underlying t with
    | some (.struct fs) => (fs[j]?).bind fun f => (aggT P f.type).bind fun g => (sizeT P f.type).bind fun s => if g || s == 1 then some (.fld g f.offset s x) else none
    | _ => none
  | .indexAddr t x i => match P.underlying t with
    | some (.slice e) => (sizeT P e).map fun s => .ia s x i
    | some (.array n e) => (sizeT P e).map fun s => .iaArr n s x i
    | _ => none
  | .index t x i => match P.underlying t with
    | some (.array n e) => (aggT P e).bind fun g => (sizeT P e).bind fun s => if g || s == 1 then some (.ixArr g n s x i) else none
    | some .string => some (.ixStr x i)
    | _ => none
  | .extract x j => some (.ext x j)
  | .call c => prepCall P c
  | _ => none

/-! ### the values -/
section
variable {P : Program} {T : Tm}

theorem run_intBits (k : IntKind) (a b : Int) (w : World) :
    (Op.intBits .and k a b).run P w = .ok (.int k (abits .and k a b)) w ∧ (Op.intBits .or k a b).run P w = .ok (.int k (abits .or k a b)) w ∧
    (Op.intBits .xor k a b).run P w = .ok (.int k (abits .xor k a b)) w ∧ (Op.intBits .andNot k a b).run P w = .ok (.int k (abits .andNot k a b)) w :=
  ⟨rfl, rfl, rfl, rfl⟩

theorem run_abin {op : BinOp} {t : TypeId} {x y v : Value} (h : abin op x y = some v) (w : World) : (binOp op t x y).run P w = .ok v w := by
  unfold abin at h
  split at h
  · rename_i k a k' b
    cases op <;> simp only [] at h <;> (try split at h) <;> (try cases h) <;> (try (rename_i hk)) <;>
      simp_all [binOp, Op.intArith, Op.intDiv, Op.intCmp, Op.shift, Op.intBits, abits, Int.not_lt.mpr, bne]
    all_goals (by_cases h : a = b <;> simp [h])
  · rename_i a b
    cases op <;> simp only [] at h <;> (try split at h) <;> (try cases h) <;> (try (rename_i hk)) <;>
      simp_all [binOp, Op.stringOp, IntKind.max, IntKind.signed, IntKind.bits]
    all_goals (try omega)
  · cases h

theorem run_underT {t : TypeId} {d : TypeDesc} (h : P.underlying t = some d) (w : World) : (underlying t).run P w = .ok d w := run_underlying h w
theorem run_sizeT {t : TypeId} {s : Nat} (h : sizeT P t = some s) (w : World) : (sizeOf t).run P w = .ok s w := by
  unfold sizeT at h
  cases hi : P.info? t with
  | none => simp [hi] at h
  | some i => simp [hi] at h; simp [sizeOf, typeInfo, hi, h]
theorem run_aggT {t : TypeId} {g : Bool} (h : aggT P t = some g) (w : World) : (isAgg t).run P w = .ok g w := by
  unfold aggT at h
  cases hd : P.underlying t with
  | none => simp [hd] at h
  | some d => cases d <;> simp [hd] at h <;> simp [isAgg, run_underlying hd, h]
theorem run_zeroT {t : TypeId} {z : List Value} (h : zeroT P t = some z) (w : World) : ∃ v, (zeroValue t).run P w = .ok v w ∧ v.cells.toList = z := by
  unfold zeroT at h
  cases hi : P.info? t with
  | none => simp [hi] at h
  | some i =>
    cases hz : i.zero with
    | none => simp [hi, hz] at h
    | some v => simp [hi, hz] at h; exact ⟨v, by simp [zeroValue, typeInfo, hi, hz], h⟩

theorem run_part {t : TypeId} {g : Bool} {s off : Nat} {cs : Array Value} {v : Value} (hg : aggT P t = some g) (hs : sizeT P t = some s) (h1 : (g || s == 1) = true)
    (h : apart g s ((cs.toList.drop off).take s) = some v) (w : World) : (part t cs off).run P w = .ok v w := by
  unfold apart at h
  split at h
  · rename_i hl
    cases g with
    | true =>
      simp at h
      subst h
      simp only [part, Sem.run_bind, run_aggT hg, Result.andThen_ok, if_true, run_sizeT hs, Sem.run_pure]
      congr 2
      apply Array.ext'
      simp [List.extract_eq_take_drop]
    | false =>
      simp at h1
      subst h1
      have hh : cs[off]? = some v := by
        simp only [Bool.false_eq_true, if_false] at h
        rw [List.head?_take] at h
        simp at h
        rw [← Array.getElem?_toList]
        simpa using h
      simp only [part, Sem.run_bind, run_aggT hg, Result.andThen_ok, Bool.false_eq_true, if_false, hh, Sem.run_pure]
  · cases h

/-! ### '==' of structs and arrays -/
theorem cellsEq_append {sk : SK} : ∀ {a b c d : List Value} {r : Bool}, a.length = b.length → cellsEq sk (a ++ c) (b ++ d) = some r →
    ∃ r1 r2, cellsEq sk a b = some r1 ∧ cellsEq sk c d = some r2 ∧ r = (r1 && r2)
  | [], [], c, d, r, _, h => ⟨true, r, rfl, h, by simp⟩
  | [], _ :: _, c, d, r, hl, h => by simp at hl
  | _ :: _, [], c, d, r, hl, h => by simp at hl
  | x :: a, y :: b, c, d, r, hl, h => by
    simp only [List.cons_append, cellsEq] at h
    cases h1 : scalarEq sk x y with
    | none => simp [h1] at h
    | some r0 =>
      simp only [h1, Option.bind_some] at h
      cases h2 : cellsEq sk (a ++ c) (b ++ d) with
      | none => simp [h2] at h
      | some r' =>
        simp only [h2, Option.map_some, Option.some.injEq] at h
        obtain ⟨r1, r2, e1, e2, e3⟩ := cellsEq_append (by simpa using hl) h2
        exact ⟨r0 && r1, r2, by simp [cellsEq, h1, e1], e2, by rw [← h, e3, Bool.and_assoc]⟩
theorem cellsEq_len {sk : SK} : ∀ {a b : List Value} {r : Bool}, cellsEq sk a b = some r → a.length = b.length
  | [], [], _, _ => rfl
  | [], _ :: _, _, h => by simp [cellsEq] at h
  | _ :: _, [], _, h => by simp [cellsEq] at h
  | x :: a, y :: b, r, h => by
    simp only [cellsEq] at h
    cases h1 : scalarEq sk x y with
    | none => simp [h1] at h
    | some r0 =>
      cases h2 : cellsEq sk a b with
      | none => simp [h1, h2] at h
      | some r' => simp [cellsEq_len h2]

/-- What 'part' takes of cells. -/
def partOf (agg : Bool) (cs : List Value) : Value := if agg then .agg cs.toArray else cs.headD undef
theorem apart_partOf {g : Bool} {s : Nat} {cs : List Value} (hl : cs.length = s) (h1 : (g || s == 1) = true) : apart g s cs = some (partOf g cs) := by
  unfold apart partOf
  rw [if_pos hl]
  cases g with
  | true => simp
  | false =>
    simp at h1
    subst h1
    cases cs with
    | nil => simp at hl
    | cons x xs => simp
theorem plainT_size {sk : SK} {d : Nat} {t : TypeId} (h : plainT P sk d t = true) : ∃ g s, aggT P t = some g ∧ sizeT P t = some s ∧ (g || s == 1) = true := by
  cases d with
  | zero => simp [plainT] at h
  | succ d =>
    unfold plainT at h
    unfold aggT
    cases hu : P.underlying t with
    | none => simp [hu] at h
    | some dsc =>
      cases hs : sizeT P t with
      | none => cases dsc <;> simp [hu, hs] at h
      | some s => cases dsc <;> simp [hu, hs] at h <;> simp_all
theorem run_scalar_bool {t : TypeId} {x y : Value} {b : Bool} (hu : P.underlying t = some .bool) (h : scalarEq .bool x y = some b) (w : World) (d : Nat) : (Op.equalIn (d + 1) t x y).run P w = .ok b w := by
  cases x <;> cases y <;> simp [scalarEq] at h
  subst h
  exact run_equalIn_bool' w d t _ _ hu
theorem run_scalar_int {t : TypeId} {k : IntKind} {x y : Value} {b : Bool} (hu : P.underlying t = some (.int k)) (h : scalarEq .int x y = some b) (w : World) (d : Nat) : (Op.equalIn (d + 1) t x y).run P w = .ok b w := by
  cases x <;> cases y <;> simp [scalarEq] at h
  rename_i k1 a k2 c
  obtain ⟨rfl, h⟩ := h
  rw [run_equalIn_int w d t _ k _ _ hu, ← h]
  exact congrArg (fun b => Result.ok b w) (by by_cases e : a = c <;> simp [e])
theorem run_scalar_str {t : TypeId} {x y : Value} {b : Bool} (hu : P.underlying t = some .string) (h : scalarEq .str x y = some b) (w : World) (d : Nat) : (Op.equalIn (d + 1) t x y).run P w = .ok b w := by
  cases x <;> cases y <;> simp [scalarEq] at h
  rw [run_equalIn_string w d t _ _ hu]
  simp [← h]
theorem eqIn_plain {sk : SK} : ∀ (d : Nat) (t : TypeId) (g : Bool) (s : Nat) (xs ys : List Value) (r : Bool) (w : World) (d' : Nat), plainT P sk d t = true → aggT P t = some g → sizeT P t = some s →
    xs.length = s → ys.length = s → cellsEq sk xs ys = some r → d ≤ d' → (Op.equalIn d' t (partOf g xs) (partOf g ys)).run P w = .ok r w := by
  intro d
  induction d with
  | zero => intro t g s xs ys r w d' h; simp [plainT] at h
  | succ d ih =>
    intro t g s xs ys r w d' h hg hs hx hy hc hd
    obtain ⟨d1, rfl⟩ : ∃ m, d' = m + 1 := ⟨d' - 1, by omega⟩
    unfold plainT at h
    cases hu : P.underlying t with
    | none => simp [hu] at h
    | some dsc =>
      have scalar : sizeT P t = some 1 → aggT P t = some false → (∀ x y b, scalarEq sk x y = some b → (Op.equalIn (d1 + 1) t x y).run P w = .ok b w) → (Op.equalIn (d1 + 1) t (partOf g xs) (partOf g ys)).run P w = .ok r w := by
        intro h1 h2 hk
        rw [hg] at h2
        cases h2
        rw [hs] at h1
        cases h1
        obtain ⟨x, rfl⟩ := List.length_eq_one_iff.1 hx
        obtain ⟨y, rfl⟩ := List.length_eq_one_iff.1 hy
        simp only [cellsEq] at hc
        cases h1 : scalarEq sk x y with
        | none => simp [h1] at hc
        | some b => simp [h1] at hc; subst hc; simpa [partOf] using hk x y b h1
      cases dsc <;> simp only [hu] at h <;> (try (cases h; done))
      case bool =>
        simp only [Bool.and_eq_true, beq_iff_eq] at h
        refine scalar h.2 (by simp [aggT, hu]) ?_
        intro x y b hb
        rw [h.1] at hb
        exact run_scalar_bool hu hb w d1
      case int k =>
        simp only [Bool.and_eq_true, beq_iff_eq] at h
        refine scalar h.2 (by simp [aggT, hu]) ?_
        intro x y b hb
        rw [h.1] at hb
        exact run_scalar_int hu hb w d1
      case string =>
        simp only [Bool.and_eq_true, beq_iff_eq] at h
        refine scalar h.2 (by simp [aggT, hu]) ?_
        intro x y b hb
        rw [h.1] at hb
        exact run_scalar_str hu hb w d1
      case array n e =>
        simp only [Bool.and_eq_true, beq_iff_eq] at h
        obtain ⟨⟨h1, h2⟩, h3⟩ := h
        obtain ⟨g', s', hg', hs', hgs'⟩ := plainT_size h1
        rw [hs', hs] at h2
        simp only [Option.map_some, Option.some.injEq] at h2
        have hgt : g = true := by simp [aggT, hu] at hg; exact hg
        subst hgt
        simp only [partOf, if_true]
        cases hi : P.info? e with
        | none => simp [sizeT, hi] at hs'
        | some i =>
          rw [run_equalIn_array w d1 xs.toArray ys.toArray hu hi]
          have hce : P.cellsOf e = s' := by
            simp only [sizeT, hi, Option.map_some, Option.some.injEq] at hs'
            simp [Program.cellsOf, hi, hs']
          rw [hce]
          have key : ∀ (m k : Nat) (r : Bool), k + m = n → cellsEq sk (xs.drop (k * s')) (ys.drop (k * s')) = some r →
              (Op.eqItems d1 e s' xs.toArray ys.toArray (List.range' k m)).run P w = .ok r w := by
            intro m
            induction m with
            | zero =>
              intro k r hk hr
              have hx0 : xs.drop (k * s') = [] := by apply List.drop_eq_nil_of_le; rw [hx, ← h2]; simp at hk; rw [hk]; exact Nat.le_refl _
              have hy0 : ys.drop (k * s') = [] := by apply List.drop_eq_nil_of_le; rw [hy, ← h2]; simp at hk; rw [hk]; exact Nat.le_refl _
              rw [hx0, hy0] at hr
              simp [cellsEq] at hr
              subst hr
              simp [Op.eqItems]
            | succ m ihm =>
              intro k r hk hr
              have hle : (k + 1) * s' ≤ s := by rw [← h2]; exact Nat.mul_le_mul_right _ (by omega)
              have hle2 : k * s' + s' ≤ s := by rw [← Nat.succ_mul]; exact hle
              have hx1 : ((xs.drop (k * s')).take s').length = s' := by simp; omega
              have hy1 : ((ys.drop (k * s')).take s').length = s' := by simp; omega
              have ex : xs.drop (k * s') = (xs.drop (k * s')).take s' ++ xs.drop ((k + 1) * s') := by
                rw [Nat.succ_mul, ← List.drop_drop, List.take_append_drop]
              have ey : ys.drop (k * s') = (ys.drop (k * s')).take s' ++ ys.drop ((k + 1) * s') := by
                rw [Nat.succ_mul, ← List.drop_drop, List.take_append_drop]
              rw [ex, ey] at hr
              obtain ⟨r1, r2, e1, e2, rfl⟩ := cellsEq_append (by rw [hx1, hy1]) hr
              have p1 := run_part (P := P) (off := k * s') (cs := xs.toArray) hg' hs' hgs' (apart_partOf hx1 hgs') w
              have p2 := run_part (P := P) (off := k * s') (cs := ys.toArray) hg' hs' hgs' (apart_partOf hy1 hgs') w
              have p3 := ih e g' s' _ _ r1 w d1 h1 hg' hs' hx1 hy1 e1 (by omega)
              rw [List.range'_succ]
              simp only [Op.eqItems, Sem.run_bind, p1, p2, p3, Result.andThen_ok]
              cases r1 with
              | false => simp
              | true => simpa using ihm (k + 1) r2 (by omega) e2
          have := key n 0 r (by omega) (by simpa using hc)
          rwa [List.range_eq_range']
      case struct fs =>
        simp only [Bool.and_eq_true, beq_iff_eq, Bool.not_eq_true', List.all_eq_true] at h
        obtain ⟨⟨⟨h1, h2⟩, h3⟩, h4⟩ := h
        have hgt : g = true := by simp [aggT, hu] at hg; exact hg
        subst hgt
        simp only [partOf, if_true]
        have hf : P.fieldsOf t = fs := by simp [Program.fieldsOf, hu]
        rw [run_equalIn_struct (P := P) w d1 t xs.toArray ys.toArray (by rw [hf]; exact hu) h1, hf]
        have key : ∀ (l : List Field) (n : Nat) (r : Bool), (∀ f ∈ l, (f.name != "_") = true ∧ plainT P sk d f.type = true) → layFs P l n = some s →
            cellsEq sk (xs.drop n) (ys.drop n) = some r → (Op.eqFields d1 xs.toArray ys.toArray l).run P w = .ok r w := by
          intro l
          induction l with
          | nil =>
            intro n r _ hl hr
            simp only [layFs, Option.some.injEq] at hl
            subst hl
            have hx0 : xs.drop n = [] := List.drop_eq_nil_of_le (by omega)
            have hy0 : ys.drop n = [] := List.drop_eq_nil_of_le (by omega)
            rw [hx0, hy0] at hr
            simp [cellsEq] at hr
            subst hr
            simp [Op.eqFields]
          | cons f l ihl =>
            intro n r hall hl hr
            obtain ⟨hn, hp⟩ := hall f (by simp)
            obtain ⟨g', s', hg', hs', hgs'⟩ := plainT_size hp
            simp only [layFs, hs', Option.bind_some] at hl
            split at hl
            · rename_i hoff
              have hmono : ∀ (l : List Field) (a b : Nat), layFs P l a = some b → a ≤ b := by
                intro l
                induction l with
                | nil => intro a b h; simp [layFs] at h; omega
                | cons f l ih =>
                  intro a b h
                  simp only [layFs] at h
                  split at h
                  · cases hz : sizeT P f.type with
                    | none => simp [hz] at h
                    | some z => simp only [hz, Option.bind_some] at h; have := ih _ _ h; omega
                  · cases h
              have hle := hmono _ _ _ hl
              have hx1 : ((xs.drop n).take s').length = s' := by simp; omega
              have hy1 : ((ys.drop n).take s').length = s' := by simp; omega
              have ex : xs.drop n = (xs.drop n).take s' ++ xs.drop (n + s') := by rw [← List.drop_drop, List.take_append_drop]
              have ey : ys.drop n = (ys.drop n).take s' ++ ys.drop (n + s') := by rw [← List.drop_drop, List.take_append_drop]
              rw [ex, ey] at hr
              obtain ⟨r1, r2, e1, e2, rfl⟩ := cellsEq_append (by rw [hx1, hy1]) hr
              have p1 := run_part (P := P) (off := f.offset) (cs := xs.toArray) hg' hs' hgs' (v := partOf g' ((xs.drop n).take s')) (by rw [hoff]; exact apart_partOf hx1 hgs') w
              have p2 := run_part (P := P) (off := f.offset) (cs := ys.toArray) hg' hs' hgs' (v := partOf g' ((ys.drop n).take s')) (by rw [hoff]; exact apart_partOf hy1 hgs') w
              have p3 := ih f.type g' s' _ _ r1 w d1 hp hg' hs' hx1 hy1 e1 (by omega)
              have hn' : f.name ≠ "_" := by simpa using hn
              rw [Op.eqFields]
              simp only [if_pos hn', Sem.run_bind, p1, p2, p3, Result.andThen_ok]
              cases r1 with
              | false => simp
              | true => simpa using ihl (n + s') r2 (fun f hf => hall f (by simp [hf])) hl e2
            · cases hl
        exact key fs.toList 0 r (fun f hf => h2 f hf) (h3.trans hs) (by simpa using hc)
end
end Go.Proofs.Ytonmmfjagkgifaa
