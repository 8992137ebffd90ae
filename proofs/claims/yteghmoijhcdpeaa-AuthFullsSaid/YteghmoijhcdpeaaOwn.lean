/- The heap as a list of chunks that a call knows ('Own'), and the walk's steps over it: plain lemmas, used by all proofs of this seat. -/
import Derived.WalkKit
import Derived.WalkLawsBesides
import Derived.WalkSpells
import Derived.BigQuiet
import Derived.BigGuardPart
import Derived.Lib.Hide
set_option linter.unusedSimpArgs false
set_option linter.unusedVariables false
namespace Go.Proofs.Yteghmoijhcdpeaa
open Go.RowKit

/-- A piece of memory: blocks with what they hold. -/
abbrev Chunk := List (Nat × Obj)

/-- The world w holds the chunks C, no block twice; all but the heap is as in w0. -/
structure Own (w0 w : World) (C : List Chunk) : Prop where
  os : w.os = w0.os
  tape : w.tape = w0.tape
  output : w.output = w0.output
  nodup : (C.flatten.map Prod.fst).Nodup
  mem : ∀ p ∈ C.flatten, w.heap[p.1]? = some p.2

inductive Pick : List Chunk → Chunk → List Chunk → Prop
  | here {x C} : Pick (x :: C) x C
  | there {x y C C'} : Pick C x C' → Pick (y :: C) x (y :: C')

inductive Repl : List Chunk → Chunk → Chunk → List Chunk → Prop
  | here {x y C} : Repl (x :: C) x y (y :: C)
  | there {x y z C C'} : Repl C x y C' → Repl (z :: C) x y (z :: C')

theorem Pick.perm {C x C'} (h : Pick C x C') : C.flatten.Perm (x :: C').flatten := by
  induction h with
  | here => exact List.Perm.refl _
  | there _ ih =>
    simp only [List.flatten_cons] at ih ⊢
    refine (List.Perm.append_left _ ih).trans ?_
    rw [← List.append_assoc, ← List.append_assoc]
    exact List.Perm.append_right _ List.perm_append_comm

theorem Repl.picks {C x y C'} (h : Repl C x y C') : ∃ D, Pick C x D ∧ Pick C' y D := by
  induction h with
  | here => exact ⟨_, .here, .here⟩
  | there _ ih => obtain ⟨D, h1, h2⟩ := ih; exact ⟨_, .there h1, .there h2⟩

theorem Pick.mem {C x C'} (h : Pick C x C') : x ∈ C := by
  induction h with
  | here => simp
  | there _ ih => simp [ih]

theorem Pick.repl {C x C'} (h : Pick C x C') (y : Chunk) : ∃ D, Repl C x y D ∧ Pick D y C' := by
  induction h with
  | here => exact ⟨_, .here, .here⟩
  | there _ ih => obtain ⟨D, h1, h2⟩ := ih; exact ⟨_, .there h1, .there h2⟩

section
variable {w0 w w' : World} {C C' D : List Chunk} {x y : Chunk} {b : Nat} {o o' : Obj}

theorem Own.perm (h : Own w0 w C) (p : C.flatten.Perm C'.flatten) : Own w0 w C' :=
  ⟨h.os, h.tape, h.output, (p.map _).nodup_iff.1 h.nodup, fun q hq => h.mem q (p.mem_iff.2 hq)⟩
theorem Own.pick (h : Own w0 w C) (p : Pick C x C') : Own w0 w (x :: C') := h.perm p.perm
theorem Own.unpick (h : Own w0 w (x :: C')) (p : Pick C x C') : Own w0 w C := h.perm p.perm.symm
theorem Own.drop (h : Own w0 w (x :: C)) : Own w0 w C := by
  refine ⟨h.os, h.tape, h.output, ?_, fun q hq => h.mem q (by simp at hq ⊢; exact .inr hq)⟩
  have := h.nodup
  simp only [List.flatten_cons, List.map_append] at this
  exact (List.nodup_append.1 this).2.1
theorem Own.dropAt (h : Own w0 w C) (p : Pick C x C') : Own w0 w C' := (h.pick p).drop
theorem Own.cat (h : Own w0 w (x :: y :: C)) : Own w0 w ((x ++ y) :: C) := h.perm (by simp)
theorem Own.uncat (h : Own w0 w ((x ++ y) :: C)) : Own w0 w (x :: y :: C) := h.perm (by simp)
theorem Own.none_ (h : Own w0 w C) : Own w0 w ([] :: C) := h.perm (by simp)
theorem Own.unnone (h : Own w0 w ([] :: C)) : Own w0 w C := h.perm (by simp)
theorem Own.swap (h : Own w0 w (x :: y :: C)) : Own w0 w (y :: x :: C) := h.pick (.there .here)
theorem Own.uncons {p : Nat × Obj} (h : Own w0 w ((p :: x) :: C)) : Own w0 w ([p] :: x :: C) := h.perm (by simp)
theorem Own.cons_ {p : Nat × Obj} (h : Own w0 w ([p] :: x :: C)) : Own w0 w ((p :: x) :: C) := h.perm (by simp)
theorem Own.block (h : Own w0 w C) (p : Pick C x C') (hm : (b, o) ∈ x) : w.heap[b]? = some o :=
  h.mem (b, o) (by
    have := p.perm.mem_iff (a := (b, o))
    rw [this]
    simp [hm])
theorem Own.block1 (h : Own w0 w C) (p : Pick C [(b, o)] C') : w.heap[b]? = some o := h.block p (by simp)
theorem Own.lt (h : Own w0 w C) (q : Nat × Obj) (hq : q ∈ C.flatten) : q.1 < w.heap.size := by
  have := h.mem q hq
  exact (Array.getElem?_eq_some_iff.1 this).1

theorem Own.alloc (h : Own w0 w C) (o : Obj) : Own w0 (w.alloc o) ([(w.heap.size, o)] :: C) := by
  refine ⟨h.os, h.tape, h.output, ?_, ?_⟩
  · simp only [List.flatten_cons, List.map_append, List.map_cons, List.map_nil, List.cons_append, List.nil_append, List.nodup_cons]
    refine ⟨fun hm => ?_, h.nodup⟩
    obtain ⟨q, hq, he⟩ := List.mem_map.1 hm
    have := h.lt q hq
    omega
  · intro q hq
    simp only [List.flatten_cons, List.cons_append, List.nil_append, List.mem_cons] at hq
    rcases hq with rfl | hq
    · exact heap_alloc_new w o
    · rw [Below.heap_alloc w o _ (h.lt q hq)]; exact h.mem q hq
theorem Own.drew (h : Own w0 w C) : Own w0 w.drew C := ⟨h.os, h.tape, h.output, h.nodup, h.mem⟩
theorem Own.drewN (h : Own w0 w C) (n : Nat) : Own w0 (w.drewN n) C := ⟨h.os, h.tape, h.output, h.nodup, h.mem⟩

/-- One block is written, the others stand. -/
theorem Own.upd (h : Own w0 w C) (r : Repl C [(b, o)] [(b, o')] C') (h1 : w'.os = w.os) (h2 : w'.tape = w.tape) (h3 : w'.output = w.output)
    (hb : w'.heap[b]? = some o') (hk : ∀ k, k ≠ b → w'.heap[k]? = w.heap[k]?) : Own w0 w' C' := by
  obtain ⟨D, p1, p2⟩ := r.picks
  have h' := h.pick p1
  refine Own.unpick ?_ p2
  have hn := h'.nodup
  simp only [List.flatten_cons, List.map_append, List.map_cons, List.map_nil, List.cons_append, List.nil_append, List.nodup_cons] at hn
  refine ⟨h1.trans h.os, h2.trans h.tape, h3.trans h.output, ?_, ?_⟩
  · simp only [List.flatten_cons, List.map_append, List.map_cons, List.map_nil, List.cons_append, List.nil_append, List.nodup_cons]; exact hn
  · intro q hq
    simp only [List.flatten_cons, List.cons_append, List.nil_append, List.mem_cons] at hq
    rcases hq with rfl | hq
    · exact hb
    · rw [hk _ (fun e => hn.1 (e ▸ List.mem_map.2 ⟨q, hq, rfl⟩))]
      exact h'.mem q (by simp [List.mem_flatten] at hq ⊢; exact .inr hq)

theorem Own.setCell {c : Array Value} {T : TypeId} {fr : Nat × Nat} {off : Nat} {v : Value} (h : Own w0 w C) (r : Repl C [(b, .cells c T fr)] [(b, .cells (c.setIfInBounds off v) T fr)] C') :
    Own w0 (w.setCell ⟨b, off, none⟩ v) C' := by
  obtain ⟨D, p1, p2⟩ := r.picks
  have hb := h.block1 p1
  refine h.upd r rfl rfl rfl ?_ ?_
  · simp [World.setCell, Array.getElem?_modify, hb]
  · intro k hk
    exact Below.heap_setCell w _ v k hk
end

/-- Types of one cell. -/
class Scal (P : Program) (t : TypeId) : Prop where
  out : ∃ d i, P.underlying t = some d ∧ (match d with | .struct _ | .array _ _ => true | _ => false) = false ∧ P.info? t = some i ∧ i.size = 1
/-- Structs (and arrays) by their number of cells. -/
class Agg (P : Program) (t : TypeId) (n : outParam Nat) : Prop where
  out : ∃ d i, P.underlying t = some d ∧ (match d with | .struct _ | .array _ _ => true | _ => false) = true ∧ P.info? t = some i ∧ i.size = n
/-- A type's zero value. -/
class Zero (P : Program) (t : TypeId) (z : outParam Value) : Prop where
  out : ∃ i, P.info? t = some i ∧ i.zero = some z
/-- The size in cells and in bytes of a type. -/
class Siz (P : Program) (t : TypeId) (n : outParam Nat) (m : outParam Nat) : Prop where
  out : ∃ i, P.info? t = some i ∧ i.size = n ∧ i.bytes = m

section
variable {P : Program} {w w' : World} {t : TypeId} {n m : Nat} {z : Value}

theorem run_isAgg_no [h : Scal P t] : (isAgg t).run P w = .ok false w := by
  obtain ⟨d, _, hd, hm, _⟩ := h.out
  unfold isAgg
  rw [Sem.run_bind, run_underlying hd w]
  cases d <;> simp_all
theorem run_isAgg_yes [h : Agg P t n] : (isAgg t).run P w = .ok true w := by
  obtain ⟨d, _, hd, hm, _⟩ := h.out
  unfold isAgg
  rw [Sem.run_bind, run_underlying hd w]
  cases d <;> simp_all
theorem run_sizeOf_one [h : Scal P t] : (sizeOf t).run P w = .ok 1 w := by
  obtain ⟨d, i, hd, hm, hi, hs⟩ := h.out
  simp [sizeOf, typeInfo, hi, hs]
theorem run_sizeOf_agg [h : Agg P t n] : (sizeOf t).run P w = .ok n w := by
  obtain ⟨d, i, hd, hm, hi, hs⟩ := h.out
  simp [sizeOf, typeInfo, hi, hs]
theorem run_sizeOf_siz [h : Siz P t n m] : (sizeOf t).run P w = .ok n w := by
  obtain ⟨i, hi, hs, _⟩ := h.out
  simp [sizeOf, typeInfo, hi, hs]
theorem run_zeroValue_ [h : Zero P t z] : (zeroValue t).run P w = .ok z w := by
  obtain ⟨i, hi, hz⟩ := h.out
  simp [zeroValue, typeInfo, hi, hz]

theorem add_at (b off j : Nat) : (⟨b, off, none⟩ : Addr).add j = ⟨b, off + j, none⟩ := by unfold Addr.add; split <;> simp_all

theorem run_loadVar_one [Scal P t] {p : Addr} {v : Value} (hc : w.cell? p = some v) : (loadVar t p).run P w = .ok v w := by
  unfold loadVar
  rw [Sem.run_bind, run_isAgg_no]
  simp [load, Sem.run, hc]
theorem run_loadVar_agg [Agg P t n] {b off : Nat} {l : List Value} (hl : l.length = n) (hc : ∀ j v, l[j]? = some v → w.cell? ⟨b, off + j, none⟩ = some v) :
    (loadVar t ⟨b, off, none⟩).run P w = .ok (.agg l.toArray) w := by
  have h : (loadCells ⟨b, off, none⟩ l.length).run P w = .ok l.toArray w := run_loadCells_list (P := P) w ⟨b, off, none⟩ l (fun j v hv => by rw [add_at]; exact hc j v hv)
  unfold loadVar
  rw [Sem.run_bind, run_isAgg_yes]
  rw [hl] at h
  simp [run_sizeOf_agg, h]
theorem run_storeVar_one [Scal P t] {b off : Nat} {v : Value} (h1 : v.oneCell' = true) (hc : (w.cell? ⟨b, off, none⟩).isSome = true) (hf : w.frozen? ⟨b, off, none⟩ = false) :
    (storeVar t ⟨b, off, none⟩ v).run P w = .ok () (w.setCell ⟨b, off, none⟩ v) := by
  have hv : v.cells = #[v] := by cases v <;> first | rfl | simp [Value.oneCell'] at h1
  obtain ⟨u, hu⟩ := Option.isSome_iff_exists.1 hc
  unfold storeVar
  rw [Sem.run_bind, run_sizeOf_one]
  simp [hv, storeCells, Addr.add_zero', run_store P w _ v _ h1, hu, hf]
theorem run_storeVar_agg [Agg P t n] {b off : Nat} {cs cur : Array Value} {T : TypeId} (hn : cs.size = n) (h1 : ∀ v ∈ cs.toList, v.oneCell' = true) (hg : w.heap[b]? = some (.cells cur T (0, 0))) (hfit : off + cs.size ≤ cur.size) :
    (storeVar t ⟨b, off, none⟩ (.agg cs)).run P w = .ok () (w.setRow b (cur.toList.take off ++ cs.toList ++ cur.toList.drop (off + cs.size)).toArray) := by
  have hs := run_storeCells_at P b off T cs.toList 0 cur w hg (by simpa using hfit) h1
  unfold storeVar
  rw [Sem.run_bind, run_sizeOf_agg]
  simp only [Nat.add_zero, Array.length_toList] at hs
  simp [Value.cells, hn, hs]
end

theorem frozen_none {w : World} {b off : Nat} {c : Array Value} {T : TypeId} (h : w.heap[b]? = some (.cells c T (0, 0))) : w.frozen? ⟨b, off, none⟩ = false := by
  simp [World.frozen?, h]
theorem cell_at {w : World} {b off : Nat} {c : Array Value} {T : TypeId} {fr : Nat × Nat} (h : w.heap[b]? = some (.cells c T fr)) : w.cell? ⟨b, off, none⟩ = c[off]? := by
  simp [World.cell?, h]

theorem Own.cells {w0 w : World} {C C' : List Chunk} {b : Nat} {c : Array Value} {T : TypeId} {fr : Nat × Nat} (h : Own w0 w C) (p : Pick C [(b, .cells c T fr)] C') : ∀ i, w.cell? ⟨b, i, none⟩ = c[i]? :=
  fun i => cell_at (h.block1 p)
theorem Own.free {w0 w : World} {C C' : List Chunk} {b : Nat} {c : Array Value} {T : TypeId} (h : Own w0 w C) (p : Pick C [(b, .cells c T (0, 0))] C') : ∀ i, w.frozen? ⟨b, i, none⟩ = false :=
  fun i => frozen_none (h.block1 p)

/-- The chunk F (among others) has this cell. -/
def FCell (F : Chunk) (p : Addr) (v : Value) : Prop := ∃ c T fr, (p.block, Obj.cells c T fr) ∈ F ∧ p.spot = none ∧ c[p.off]? = some v
theorem Own.fcell {w0 w : World} {C C' : List Chunk} {F : Chunk} {p : Addr} {v : Value} (h : Own w0 w C) (hp : Pick C F C') (hc : FCell F p v) : w.cell? p = some v := by
  obtain ⟨c, T, fr, hm, hs, hv⟩ := hc
  have := h.block hp hm
  simp [World.cell?, this, hs, hv]

section
variable {P : Program} {ops : Array Oper} {rest : List Oper} {o : Oper} {a : Act} {w0 w w' : World} {Q : Exit → Act → World → Prop} {C C' : List Chunk} {b off : Nat} {c : Array Value} {T t : TypeId} {fr : Nat × Nat} {x y : Operand} {v : Value}

theorem st_val (hw : Region.wanted o (yielded ops a.tmps) = true) (hrun : (execOp a.eval o).run P w = .ok (.value v) w')
    (h : wpList P ops Q rest (a.put o.dst v) w') : wpList P ops Q (o :: rest) a w := by
  unfold wpList
  rw [if_pos hw]
  refine .inl ?_
  unfold Oper.wp
  rw [hrun]
  exact h
theorem st_skip (hw : Region.wanted o (yielded ops a.tmps) = true) (hrun : (execOp a.eval o).run P w = .ok .skip w')
    (h : wpList P ops Q rest (a.put o.dst undef) w') : wpList P ops Q (o :: rest) a w := by
  unfold wpList
  rw [if_pos hw]
  refine .inl ?_
  unfold Oper.wp
  rw [hrun]
  exact h

/-- A load of one cell out of a block that is known. -/
theorem st_load (hO : Own w0 w C) (hw : Region.wanted o (yielded ops a.tmps) = true) (ho : o.op = .load t x) (ha : a.eval x = .pointer (some ⟨b, off, none⟩)) (hs : Scal P t)
    (hp : Pick C [(b, .cells c T fr)] C') (hc : c[off]? = some v) (h : wpList P ops Q rest (a.put o.dst v) w) : wpList P ops Q (o :: rest) a w := by
  refine st_val hw ?_ h
  have hb := hO.block1 hp
  simp [execOp, ho, ha, Instr.loadAt, Instr.sureAddr, run_loadVar_one ((cell_at hb).trans hc)]
/-- A load of one cell out of the persistent chunk F. -/
theorem st_loadF {F : Chunk} {p : Addr} (hO : Own w0 w C) (hw : Region.wanted o (yielded ops a.tmps) = true) (ho : o.op = .load t x) (ha : a.eval x = .pointer (some p)) (hs : Scal P t)
    (hc : FCell F p v) (hp : Pick C F C') (h : wpList P ops Q rest (a.put o.dst v) w) : wpList P ops Q (o :: rest) a w := by
  refine st_val hw ?_ h
  simp [execOp, ho, ha, Instr.loadAt, Instr.sureAddr, run_loadVar_one (hO.fcell hp hc)]
/-- A load of a struct that is a whole block. -/
theorem st_loadA {n : Nat} (hO : Own w0 w C) (hw : Region.wanted o (yielded ops a.tmps) = true) (ho : o.op = .load t x) (ha : a.eval x = .pointer (some ⟨b, 0, none⟩)) (hs : Agg P t n)
    (hp : Pick C [(b, .cells c T fr)] C') (hc : c.size = n) (h : wpList P ops Q rest (a.put o.dst (.agg c)) w) : wpList P ops Q (o :: rest) a w := by
  refine st_val hw ?_ h
  have hb := hO.block1 hp
  have := run_loadVar_agg (P := P) (t := t) (w := w) (b := b) (off := 0) (l := c.toList) (by simpa using hc) (fun j v hv => by rw [cell_at hb]; simpa using hv)
  simp [execOp, ho, ha, Instr.loadAt, Instr.sureAddr, this]
/-- A load of a struct that is a part of a block. -/
theorem st_loadP {n : Nat} {l : List Value} (hO : Own w0 w C) (hw : Region.wanted o (yielded ops a.tmps) = true) (ho : o.op = .load t x) (ha : a.eval x = .pointer (some ⟨b, off, none⟩)) (hs : Agg P t n)
    (hp : Pick C [(b, .cells c T fr)] C') (hl : l.length = n) (hc : ∀ j v, l[j]? = some v → c[off + j]? = some v) (h : wpList P ops Q rest (a.put o.dst (.agg l.toArray)) w) : wpList P ops Q (o :: rest) a w := by
  refine st_val hw ?_ h
  have hb := hO.block1 hp
  have := run_loadVar_agg (P := P) (t := t) (w := w) (b := b) (off := off) (l := l) hl (fun j v hv => by rw [cell_at hb]; exact hc j v hv)
  simp [execOp, ho, ha, Instr.loadAt, Instr.sureAddr, this]
/-- A load of a struct out of the persistent chunk. -/
theorem st_loadAF {F : Chunk} {n : Nat} {l : List Value} (hO : Own w0 w C) (hw : Region.wanted o (yielded ops a.tmps) = true) (ho : o.op = .load t x) (ha : a.eval x = .pointer (some ⟨b, off, none⟩)) (hs : Agg P t n)
    (hl : l.length = n) (hc : ∀ j v, l[j]? = some v → FCell F ⟨b, off + j, none⟩ v) (hp : Pick C F C') (h : wpList P ops Q rest (a.put o.dst (.agg l.toArray)) w) : wpList P ops Q (o :: rest) a w := by
  refine st_val hw ?_ h
  have := run_loadVar_agg (P := P) (t := t) (w := w) (b := b) (off := off) (l := l) hl (fun j v hv => hO.fcell hp (hc j v hv))
  simp [execOp, ho, ha, Instr.loadAt, Instr.sureAddr, this]

/-- A store of one cell. -/
theorem st_store (hO : Own w0 w C) (hw : Region.wanted o (yielded ops a.tmps) = true) (ho : o.op = .store t x y) (ha : a.eval x = .pointer (some ⟨b, off, none⟩)) (hs : Scal P t) (hv : a.eval y = v) (h1 : v.oneCell' = true)
    (hp : Repl C [(b, .cells c T (0, 0))] [(b, .cells (c.setIfInBounds off v) T (0, 0))] C') (hlt : off < c.size)
    (h : ∀ w', Own w0 w' C' → wpList P ops Q rest (a.put o.dst undef) w') : wpList P ops Q (o :: rest) a w := by
  obtain ⟨D, p1, p2⟩ := hp.picks
  have hb := hO.block1 p1
  refine st_skip hw (w' := w.setCell ⟨b, off, none⟩ v) ?_ (h _ (hO.setCell hp))
  have := run_storeVar_one (P := P) (t := t) (w := w) (b := b) (off := off) h1 (by rw [cell_at hb]; simp [hlt]) (frozen_none hb)
  simp [execOp, ho, ha, hv, Instr.storeAt, Instr.sureAddr, this]
/-- A store of a struct over a whole block. -/
theorem st_storeA {n : Nat} {cs : Array Value} (hO : Own w0 w C) (hw : Region.wanted o (yielded ops a.tmps) = true) (ho : o.op = .store t x y) (ha : a.eval x = .pointer (some ⟨b, 0, none⟩)) (hs : Agg P t n) (hv : a.eval y = .agg cs)
    (hp : Repl C [(b, .cells c T (0, 0))] [(b, .cells cs T (0, 0))] C') (hn : cs.size = n) (hn' : c.size = n) (h1 : cs.toList.all (·.oneCell') = true)
    (h : ∀ w', Own w0 w' C' → wpList P ops Q rest (a.put o.dst undef) w') : wpList P ops Q (o :: rest) a w := by
  obtain ⟨D, p1, p2⟩ := hp.picks
  have hb := hO.block1 p1
  have := run_storeVar_agg (P := P) (t := t) (w := w) (b := b) (off := 0) hn (fun v hv => List.all_eq_true.1 h1 v hv) hb (by omega)
  have e : (cs.toList ++ c.toList.drop cs.size).toArray = cs := by
    rw [List.drop_eq_nil_of_le (by simp [hn, hn'])]; simp
  simp only [List.take_zero, List.nil_append, Nat.zero_add, e] at this
  refine st_skip hw (w' := w.setRow b cs) ?_ (h _ (hO.upd hp rfl rfl rfl (setRow_heap w b c cs T (0, 0) hb) (fun k hk => ?_)))
  · simp [execOp, ho, ha, hv, Instr.storeAt, Instr.sureAddr, this]
  · simp [World.setRow, Array.getElem?_modify, Ne.symm hk]

theorem own_new (hO : Own w0 w C) (o : Obj) : Own w0 { w with heap := w.heap.push o } ([(w.heap.size, o)] :: C) := hO.alloc o

theorem st_alloc {z : Value} (hO : Own w0 w C) (hw : Region.wanted o (yielded ops a.tmps) = true) (ho : o.op = .alloc t) (hz : Zero P t z)
    (h : ∀ w' b, Own w0 w' ([(b, .cells z.cells t (0, 0))] :: C) → wpList P ops Q rest (a.put o.dst (.pointer (some ⟨b, 0, none⟩))) w') : wpList P ops Q (o :: rest) a w := by
  refine st_val hw (w' := w.alloc (.cells z.cells t)) ?_ (h _ _ (hO.alloc _))
  simp [execOp, ho, Instr.alloc, run_zeroValue_, newVar, newRow]
theorem st_box (hO : Own w0 w C) (hw : Region.wanted o (yielded ops a.tmps) = true) (ho : o.op = .box t x) (hv : a.eval x = v)
    (h : ∀ w' b, Own w0 w' ([(b, .cells v.cells t (0, 0))] :: C) → wpList P ops Q rest (a.put o.dst (.pointer (some ⟨b, 0, none⟩))) w') : wpList P ops Q (o :: rest) a w := by
  refine st_val hw (w' := w.alloc (.cells v.cells t)) ?_ (h _ _ (hO.alloc _))
  simp [execOp, ho, hv, Instr.box, newVar, newRow]
end
end Go.Proofs.Yteghmoijhcdpeaa
