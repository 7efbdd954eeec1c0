/- The abstract calculus, eighth text: a region that draws its order: one order, checked, stands for all. -/
import Derived.Test.YtonmmfjagkgifaaAbAw
set_option linter.unusedVariables false
set_option linter.unusedSimpArgs false
namespace Go.Proofs.Ytonmmfjagkgifaa
open Go.RowKit

/-! ### what an operation looks at -/
def opTmp : Operand → List Nat
  | .tmp t => [t]
  | _ => []
def optTmp : Option Operand → List Nat
  | some x => opTmp x
  | none => []
def AOp.tmps : AOp → List Nat
  | .mv x | .eqNil _ _ x | .un _ x | .conv _ x | .fa _ x | .fld _ _ _ x | .ext x _ | .nilc x | .len _ x | .cap x | .ld _ _ x | .box _ x => opTmp x
  | .pick c a b => opTmp c ++ opTmp a ++ opTmp b
  | .bin _ x y | .eqB _ x y | .eqAgg _ _ _ x y | .ia _ x y | .iaArr _ _ x y | .ixArr _ _ _ x y | .ixStr x y | .mnx _ x y | .msl _ _ _ x y | .st _ x y | .app _ _ _ x y => opTmp x ++ opTmp y
  | .bld _ ps | .bsl _ _ _ ps => ps.flatMap fun p => opTmp p.2.2
  | .mkf _ f c => f.flatMap opTmp ++ c.flatMap opTmp
  | .slc _ x lo hi mx => opTmp x ++ optTmp lo ++ optTmp hi ++ optTmp mx
  | .slcArr _ _ x lo hi | .slcStr x lo hi => opTmp x ++ optTmp lo ++ optTmp hi
  | .call f args => opTmp f ++ args.flatMap opTmp
  | .alloc _ _ => []
  | .chk rs => rs.flatMap fun r => r.1 :: opTmp r.2.2.2.2 ++ (match r.2.1 with | some g => [g.1] | none => [])
def AI.looks (i : AI) : List Nat := i.op.tmps ++ (match i.guard with | some g => [g.1] | none => [])

theorem ev_put {T : Tm} {d : Nat} {v : Value} {x : Operand} (h : d ∉ opTmp x) : ev (T.put d v) x = ev T x := by
  cases x <;> simp_all [ev, opTmp, Tm.put]
  intro e; exact absurd e.symm h
theorem Tm.put_comm (T : Tm) {d e : Nat} (v u : Value) (h : d ≠ e) : (T.put d v).put e u = (T.put e u).put d v := by
  funext t
  simp only [Tm.put]
  split <;> split <;> simp_all
theorem aparts_put {T : Tm} {d : Nat} {v : Value} : ∀ (ps : List (Nat × Nat × Operand)), (d ∉ ps.flatMap fun p => opTmp p.2.2) → aparts (T.put d v) ps = aparts T ps
  | [], _ => rfl
  | (off, sz, x) :: ps, h => by
    simp only [List.flatMap_cons, List.mem_append, not_or] at h
    simp only [aparts, ev_put h.1, aparts_put ps h.2]
theorem abound_put {T : Tm} {d : Nat} {v : Value} {x : Option Operand} {m k : Nat} (h : d ∉ optTmp x) : abound (T.put d v) x m k = abound T x m k := by
  cases x with
  | none => rfl
  | some x => simp only [abound, ev_put (x := x) h]
theorem map_put {T : Tm} {d : Nat} {v : Value} : ∀ (l : List Operand), d ∉ l.flatMap opTmp → l.map (ev (T.put d v)) = l.map (ev T)
  | [], _ => rfl
  | x :: l, h => by
    simp only [List.flatMap_cons, List.mem_append, not_or] at h
    simp only [List.map_cons, ev_put h.1, map_put l h.2]
theorem val_put {T : Tm} {d : Nat} {v : Value} {op : AOp} (h : d ∉ op.tmps) : op.val (T.put d v) = op.val T := by
  cases op <;> simp only [AOp.tmps, List.mem_append, not_or] at h <;> simp only [AOp.val]
  case mkf fn f c => rw [map_put f h.1, map_put c h.2]
  case bld z ps => rw [aparts_put ps h]
  case slc sz x lo hi mx => obtain ⟨⟨⟨h1, h2⟩, h3⟩, h4⟩ := h; simp only [ev_put h1, abound_put h2, abound_put h3, abound_put h4]
  case slcArr n sz x lo hi => obtain ⟨⟨h1, h2⟩, h3⟩ := h; simp only [ev_put h1, abound_put h2, abound_put h3]
  case slcStr x lo hi => obtain ⟨⟨h1, h2⟩, h3⟩ := h; simp only [ev_put h1, abound_put h2, abound_put h3]
  case pick c a b => obtain ⟨⟨h1, h2⟩, h3⟩ := h; simp only [ev_put h1, ev_put h2, ev_put h3]
  all_goals first
    | simp only [ev_put h.1, ev_put h.2]
    | simp only [ev_put h]
theorem guard_put {T : Tm} {d : Nat} {v : Value} {g : Option (Nat × Bool)} (h : d ∉ (match g with | some g => [g.1] | none => [])) : asGuard (T.put d v) g = asGuard T g := by
  cases g with
  | none => rfl
  | some g =>
    obtain ⟨t, want⟩ := g
    simp only [List.mem_singleton] at h
    simp only [asGuard, Tm.put]
    rw [if_neg (fun e => h e.symm)]
theorem puto_comm (T : Tm) {d : Nat} {e : Option Nat} (v u : Value) (h : e ≠ some d) : (T.put d v).puto e u = (T.puto e u).put d v := by
  cases e with
  | none => rfl
  | some e => exact Tm.put_comm T v u (fun h' => h (by rw [h']))

def cls : AOp → Nat
  | .ld .. => 1
  | .alloc .. | .box .. | .bsl .. | .msl .. => 2
  | .st .. | .app .. | .call .. => 3
  | .chk .. => 4
  | _ => 0

/-- An operation that does not look at d, nor writes it: d may be written ahead of it or behind it. -/
theorem op_step_put {P : Program} {T : Tm} {d : Nat} {v : Value} {H : Hp} {op : AOp} {dst : Option Nat} {K : Tm → Hp → Prop} (h : d ∉ op.tmps) (hd : dst ≠ some d) (hc : cls op ≠ 4) :
    op.step P (T.put d v) H dst K = op.step P T H dst (fun T1 H1 => K (T1.put d v) H1) := by
  have hv := val_put (T := T) (v := v) h
  cases op <;> simp only [AOp.tmps, List.mem_append, not_or] at h <;> simp only [AOp.step, hv, puto_comm T v _ hd] <;> (try rfl)
  case ld g s x => simp only [ev_put h]
  case box ty x => simp only [ev_put h]
  case bsl ty n z ps => simp only [aparts_put ps h]
  case msl ty b z l c => simp only [ev_put h.1, ev_put h.2]
  case st s p x => simp only [ev_put h.1, ev_put h.2]
  case app ty s b x y => simp only [ev_put h.1, ev_put h.2]
  case call f args => simp only [ev_put h.1, map_put args h.2]
  case chk rs => exact absurd rfl hc
theorem ai_step_put {P : Program} {T : Tm} {d : Nat} {v : Value} {H : Hp} {i : AI} {K : Tm → Hp → Prop} (h : d ∉ i.looks) (hd : i.dst ≠ some d) (hc : cls i.op ≠ 4) :
    i.step P (T.put d v) H K = i.step P T H (fun T1 H1 => K (T1.put d v) H1) := by
  simp only [AI.looks, List.mem_append, not_or] at h
  unfold AI.step
  rw [guard_put h.2, op_step_put h.1 hd hc]
  by_cases hg : asGuard T i.guard = true
  · rw [if_pos hg, if_pos hg]
  · rw [if_neg hg, if_neg hg, puto_comm T v _ hd]
/-- The same for a write that may be none. -/
theorem ai_step_puto {P : Program} {T : Tm} {d : Option Nat} {v : Value} {H : Hp} {i : AI} {K : Tm → Hp → Prop} (h : ∀ t, d = some t → t ∉ i.looks) (hd : ∀ t, d = some t → i.dst ≠ some t) (hc : cls i.op ≠ 4) :
    i.step P (T.puto d v) H K = i.step P T H (fun T1 H1 => K (T1.puto d v) H1) := by
  cases d with
  | none => rfl
  | some d => exact ai_step_put (h d rfl) (hd d rfl) hc

/-! ### steps are monotone -/
theorem acalls_mono {P : Program} {f : FuncId} {args : Array Value} {H : Hp} {K K' : Value → Hp → Prop} (h : ACalls P f args H K) (hk : ∀ r H', (∃ w, Sat H' w) → K r H' → K' r H') : ACalls P f args H K' :=
  ⟨h.1, fun w hs => Calls.mono (h.2 w hs) fun e w' ⟨r, H', he, hK, hs', hk'⟩ => ⟨r, H', he, hk r H' ⟨w', hs'⟩ hK, hs', hk'⟩⟩

/-- There is a world of which H tells the truth. -/
def Live (H : Hp) : Prop := ∃ w, Sat H w
theorem Live.fresh {H : Hp} (h : Live H) : ∃ b, H b = none := by obtain ⟨w, hw⟩ := h; exact ⟨_, hw.fresh⟩

def pushes (w : World) : Nat → World
  | 0 => w
  | n + 1 => (pushes w n).alloc default
theorem pushes_size (w : World) (n : Nat) : (pushes w n).heap.size = w.heap.size + n := by
  induction n with
  | zero => rfl
  | succ n ih => simp [pushes, ih]; omega
theorem pushes_old (w : World) (n b : Nat) (h : b < w.heap.size) : (pushes w n).heap[b]? = w.heap[b]? := by
  induction n with
  | zero => rfl
  | succ n ih => rw [pushes, heap_alloc_old _ _ b (by rw [pushes_size]; omega), ih]
theorem fits_of_block {w w' : World} {b : Nat} {o : AObj} (h : o.fits w b) (he : w'.heap[b]? = w.heap[b]?) : o.fits w' b := by
  cases o with
  | row own ty xs tot => obtain ⟨c, fr, sp, h1, h2⟩ := h; exact ⟨c, fr, sp, by rw [he]; exact h1, h2⟩
  | raw o => show _ = _; rw [he]; exact h
theorem Live.set {H : Hp} (h : Live H) (b : Nat) (ty : TypeId) (xs : List Value) (tot : Nat) (hx : xs.length ≤ tot) : Live (H.set b (.row true ty xs tot)) := by
  obtain ⟨w, hw⟩ := h
  let w1 := pushes w (b + 1)
  let c : Array Value := (xs ++ List.replicate (tot - xs.length) undef).toArray
  refine ⟨{ w1 with heap := w1.heap.setIfInBounds b (.cells c ty (0, 0)) }, fun b' o hb => ?_⟩
  have hsz : w1.heap.size = w.heap.size + (b + 1) := pushes_size w (b + 1)
  unfold Hp.set at hb
  split at hb
  · rename_i e
    subst e
    simp only [Option.some.injEq] at hb
    subst hb
    refine ⟨c, (0, 0), List.replicate (tot - xs.length) undef, ?_, by simp [c], by simp [c]; omega, fun _ => rfl⟩
    rw [Array.getElem?_setIfInBounds_self_of_lt (by omega)]
  · rename_i hne
    have hlt : b' < w.heap.size := hw.lt (by rw [hb]; simp)
    refine fits_of_block (hw b' o hb) ?_
    show (w1.heap.setIfInBounds b _)[b']? = _
    rw [Array.getElem?_setIfInBounds_ne (fun e => hne e.symm)]
    exact pushes_old w (b + 1) b' hlt
end Go.Proofs.Ytonmmfjagkgifaa
