/- How the arguments read, out of all the memory that there is when a law is called, and the law's row. Plain lemmas, used by all proofs of this seat. -/
import Derived.Test.YteghmoijhcdpeaaWc
import Derived.ProofKit
import Derived.OpenShut
import Derived.SizedLaws
import Derived.Carry
import Derived.Deep.Slices
set_option linter.unusedSimpArgs false
set_option linter.unusedVariables false
namespace Go.Proofs.Yteghmoijhcdpeaa
open Go.ChangeShapes Go.WideShapes Go.ChangeAt Go.RowKit

/-- All the memory of a world, as one chunk. -/
def heapC (w : World) : Chunk := (List.range w.heap.size).filterMap fun i => (w.heap[i]?).map fun o => (i, o)
theorem heapC_mem {w : World} {p : Nat × Obj} : p ∈ heapC w ↔ w.heap[p.1]? = some p.2 := by
  unfold heapC
  rw [List.mem_filterMap]
  constructor
  · rintro ⟨i, _, h⟩
    obtain ⟨o, ho, rfl⟩ := Option.map_eq_some_iff.1 h
    exact ho
  · intro h
    refine ⟨p.1, ?_, ?_⟩
    · rw [List.mem_range]; exact (Array.getElem?_eq_some_iff.1 h).1
    · rw [h]; rfl
theorem heapC_own (w : World) : Own w w [heapC w] := by
  refine ⟨rfl, rfl, rfl, ?_, fun p hp => heapC_mem.1 (by simpa using hp)⟩
  have : ∀ l : List Nat, l.Nodup → ((l.filterMap fun i => (w.heap[i]?).map fun o => (i, o)).map Prod.fst).Nodup := by
    intro l
    induction l with
    | nil => intro _; simp
    | cons i l ih =>
      intro h
      obtain ⟨h1, h2⟩ := List.nodup_cons.1 h
      simp only [List.filterMap_cons]
      cases hx : w.heap[i]? with
      | none => simpa using ih h2
      | some o =>
        simp only [Option.map_some, List.map_cons, List.nodup_cons]
        refine ⟨fun hm => ?_, ih h2⟩
        obtain ⟨q, hq, he⟩ := List.mem_map.1 hm
        obtain ⟨j, hj, hjq⟩ := List.mem_filterMap.1 hq
        obtain ⟨o', _, rfl⟩ := Option.map_eq_some_iff.1 hjq
        simp only at he
        subst he
        exact h1 hj
  simpa [heapC] using this _ List.nodup_range
theorem heapC_cell {w : World} {p : Addr} {v : Value} (h : w.cell? p = some v) : FCell (heapC w) p v := by
  unfold World.cell? at h
  split at h
  · rename_i c T fz hb
    split at h
    · cases h
    · rename_i hs
      exact ⟨c, T, fz, heapC_mem.2 hb, by simpa using hs, h⟩
  · cases h
theorem heapC_below {w w' : World} {C : List Chunk} (hO : Own w w' (heapC w :: C)) : Below w.heap.size w w' := by
  have hb : ∀ i, i < w.heap.size → w'.heap[i]? = w.heap[i]? := fun i hi => by
    have h1 : w.heap[i]? = some w.heap[i] := Array.getElem?_eq_getElem hi
    rw [h1]
    exact hO.block .here (heapC_mem.2 h1)
  refine ⟨hO.os, hO.tape, hO.output, ?_, hb⟩
  rcases Nat.eq_zero_or_pos w.heap.size with h0 | h0
  · omega
  · have h1 := hb (w.heap.size - 1) (by omega)
    rw [Array.getElem?_eq_getElem (show w.heap.size - 1 < w.heap.size by omega)] at h1
    have := (Array.getElem?_eq_some_iff.1 h1).1
    omega

section
variable {H : Type} {enc : TypeId × Value → H} {P : Program}
/-- Whatever reads as data at this type is as R says. -/
def Opens (enc : TypeId × Value → H) (P : Program) (w : World) (t : TypeId) {α : Type} (R : List Value → α → Prop) : Prop :=
  ∀ (sp : Nat → Bool) (hd : Bool) (fuel : Nat) (cs : List Value) (x : DataW H × List MemPlace), DataW.trod enc P w 0 sp hd fuel t cs = some x → ∃ a, R cs a
theorem opens_int {w : World} {t : TypeId} {k : IntKind} (ht : P.underlying t = some (.int k)) : Opens enc P w t fun cs (a : Int) => cs = [.int k a] ∧ (Lit.int k a).wf = true := fun _ _ _ _ _ h => by
  obtain ⟨n, h1, _, h2⟩ := DataW.trod_int ht h
  exact ⟨n, h1, h2⟩
theorem opens_bool {w : World} {t : TypeId} (ht : P.underlying t = some .bool) : Opens enc P w t fun cs (a : Bool) => cs = [.bool a] := fun _ _ _ _ _ h => by
  obtain ⟨b, h1, _⟩ := DataW.trod_bool ht h
  exact ⟨b, h1⟩
theorem opens_string {w : World} {t : TypeId} (ht : P.underlying t = some .string) : Opens enc P w t fun cs (a : ByteArray) => cs = [.string a] ∧ a.size ≤ 9223372036854775807 := fun _ _ _ _ _ h => by
  obtain ⟨s, h1, _, h2⟩ := DataW.trod_string ht h
  exact ⟨s, h1, by simpa [maxLen] using h2⟩
/-- Lists whose elements stand in a relation, one by one. -/
def All2 {α β : Type} (R : α → β → Prop) : List α → List β → Prop
  | [], [] => True
  | a :: l, b :: m => R a b ∧ All2 R l m
  | _, _ => False
theorem All2.len {α β : Type} {R : α → β → Prop} : ∀ {l : List α} {m : List β}, All2 R l m → l.length = m.length
  | [], [], _ => rfl
  | _ :: _, _ :: _, h => by simp [All2.len h.2]
  | [], _ :: _, h => h.elim
  | _ :: _, [], h => h.elim
theorem all2_of {α β : Type} {R : α → β → Prop} : ∀ (n : Nat) (f : Nat → α), (∀ i, i < n → ∃ b, R (f i) b) → ∃ m : List β, All2 R ((List.range n).map f) m := by
  intro n
  induction n with
  | zero => intro f _; exact ⟨[], trivial⟩
  | succ n ih =>
    intro f h
    obtain ⟨b, hb⟩ := h 0 (by omega)
    obtain ⟨m, hm⟩ := ih (fun i => f (i + 1)) (fun i hi => h (i + 1) (by omega))
    refine ⟨b :: m, ?_⟩
    rw [List.range_succ_eq_map]
    simp only [List.map_cons, List.map_map]
    exact ⟨hb, hm⟩
/-- A slice's value, its elements' cells, and what these are. -/
structure SlR_ (F : Chunk) (size : Nat) {α : Type} (R : List Value → α → Prop) (cs : List Value) (l : List α) : Prop where
  out : ∃ v xs, cs = [v] ∧ All2 R xs l ∧ (∀ x ∈ xs, x.length = size) ∧ Rd F size v l.length xs.flatten ∧ l.length ≤ 9223372036854775807
theorem flatten_get {α : Type} {size : Nat} : ∀ {xs : List (List α)} (i j : Nat), (∀ x ∈ xs, x.length = size) → j < size → xs.flatten[i * size + j]? = (xs[i]?).bind (·[j]?)
  | [], i, j, _, _ => by simp
  | x :: xs, 0, j, h, hj => by
    have := h x (by simp)
    simp only [List.flatten_cons, Nat.zero_mul, Nat.zero_add]
    rw [List.getElem?_append_left (by omega)]
    simp
  | x :: xs, i + 1, j, h, hj => by
    have hx := h x (by simp)
    simp only [List.flatten_cons]
    rw [List.getElem?_append_right (by rw [hx, Nat.add_mul]; omega), hx, show (i + 1) * size + j - size = i * size + j by rw [Nat.add_mul]; omega]
    rw [flatten_get i j (fun y hy => h y (by simp [hy])) hj]
    simp
theorem flatten_len {α : Type} {size : Nat} : ∀ {xs : List (List α)}, (∀ x ∈ xs, x.length = size) → xs.flatten.length = xs.length * size
  | [], _ => by simp
  | x :: xs, h => by
    rw [List.flatten_cons, List.length_append, h x (by simp), flatten_len (fun y hy => h y (by simp [hy])), List.length_cons, Nat.add_mul]
    omega
theorem opens_slice {w : World} {t e : TypeId} {α : Type} {R : List Value → α → Prop} {size : Nat} (ht : P.underlying t = some (.slice e)) (hc : P.cellsOf e = size) (hpos : 0 < size) (he : Opens enc P w e R) : Opens enc P w t (SlR_ (heapC w) size R) := by
  intro sp hd fuel cs x h
  rcases Go.Deep.open_slice ht h with ⟨rfl, _⟩ | ⟨a, len, cap, m, n, D, Pl, rfl, _, hl, hm, hmm, _, hi⟩
  · exact ⟨[], ⟨_, [], rfl, trivial, by simp, Rd.none_ _ _, by simp⟩⟩
  · have hle : len ≤ m := by rw [hmm]; split <;> omega
    have hcells : ∀ i, i < len → ∃ c, w.cells? 0 (a.add (i * size)) size = some c ∧ ∃ b, R c b := fun i hil => by
      obtain ⟨c, h1, h2⟩ := hi i (by omega)
      rw [hc] at h1
      exact ⟨c, h1, he _ _ _ _ _ h2⟩
    let f : Nat → List Value := fun i => (w.cells? 0 (a.add (i * size)) size).getD []
    have hf : ∀ i, i < len → w.cells? 0 (a.add (i * size)) size = some (f i) ∧ ∃ b, R (f i) b := fun i hil => by
      obtain ⟨c, h1, h2⟩ := hcells i hil
      have : f i = c := by simp [f, h1]
      rw [this]
      exact ⟨h1, h2⟩
    obtain ⟨l, hl2⟩ := all2_of (R := R) len f (fun i hil => (hf i hil).2)
    have hlen : l.length = len := by have := hl2.len; simpa using this.symm
    have hxs : ∀ x ∈ (List.range len).map f, x.length = size := by
      intro x hx
      obtain ⟨i, hir, rfl⟩ := List.mem_map.1 hx
      exact (World.cells?_some (hf i (List.mem_range.1 hir)).1).2.1
    refine ⟨l, ⟨_, (List.range len).map f, rfl, hl2, hxs, ⟨some a, cap, by rw [hlen], by omega, by rw [flatten_len hxs, hlen]; simp, fun h0 => ?_⟩, by simp [maxLen] at hm; omega⟩⟩
    have hsp : a.spot = none := by
      obtain ⟨_, h2, h3⟩ := World.cells?_some (hf 0 (by omega)).1
      have h4 := h3 0 hpos
      have : (f 0)[0]? = some ((f 0)[0]'(by omega)) := List.getElem?_eq_getElem (by omega)
      rw [this] at h4
      have e0 : (a.add (0 * size)).add 0 = a := by simp [Addr.add]
      rw [e0] at h4
      obtain ⟨_, _, _, _, h5, _⟩ := heapC_cell h4
      exact h5
    obtain ⟨ab, ao, as_⟩ := a
    simp only at hsp
    subst hsp
    refine ⟨ab, ao, rfl, fun j u hu => ?_⟩
    have hj : j < len * size := by
      have := (List.getElem?_eq_some_iff.1 hu).1
      rw [flatten_len hxs] at this
      simpa using this
    have hq : j / size < len := Nat.div_lt_of_lt_mul (by rw [Nat.mul_comm]; exact hj)
    have hr : j % size < size := Nat.mod_lt _ hpos
    have hjj : j = j / size * size + j % size := by rw [Nat.mul_comm]; exact (Nat.div_add_mod j size).symm
    rw [hjj, flatten_get _ _ hxs hr] at hu
    have hg : ((List.range len).map f)[j / size]? = some (f (j / size)) := by simp [hq]
    rw [hg, Option.bind_some] at hu
    obtain ⟨_, _, h3⟩ := World.cells?_some (hf _ hq).1
    have h4 := h3 _ hr
    rw [hu, add_at, add_at, Nat.add_assoc, ← hjj] at h4
    exact heapC_cell h4
/-- A struct's field. -/
theorem opens_field {w : World} {t : TypeId} {fs : Array Field} {sp : Nat → Bool} {hd : Bool} {fuel : Nat} {cs : List Value} {x : DataW H × List MemPlace} (ht : P.underlying t = some (.struct fs)) (h : DataW.trod enc P w 0 sp hd fuel t cs = some x) (i : Nat)
    {α : Type} {R : List Value → α → Prop} {tf off size : Nat} (hf : (fs[i]?).map (fun f => (f.type, f.offset, P.cellsOf f.type)) = some (tf, off, size)) (ho : Opens enc P w tf R) : ∃ a, R ((cs.drop off).take size) a := by
  obtain ⟨f, hf1, hf2⟩ := Option.map_eq_some_iff.1 hf
  simp only [Prod.mk.injEq] at hf2
  obtain ⟨rfl, rfl, rfl⟩ := hf2
  obtain ⟨xs, n, _, _, _, hl, hg⟩ := DataW.trod_struct ht h
  have h1 := hg i f hf1
  have hi : i < xs.length := by rw [hl]; exact (Array.getElem?_eq_some_iff.1 hf1).1
  rw [List.getElem?_eq_getElem hi] at h1
  exact ho _ _ _ _ _ h1
theorem opens_len {w : World} {t : TypeId} {fs : Array Field} {sp : Nat → Bool} {hd : Bool} {fuel : Nat} {cs : List Value} {x : DataW H × List MemPlace} (ht : P.underlying t = some (.struct fs)) (h : DataW.trod enc P w 0 sp hd fuel t cs = some x) : cs.length = P.cellsOf t := by
  obtain ⟨xs, n, _, _, hl, _⟩ := DataW.trod_struct ht h
  exact hl

/-- What was read reads the same where all the old memory has stayed. -/
theorem trodAll_stays {W W' : World} (hl : laidOutB P = true) (hb : Below W.heap.size W W') {sp : Nat → Bool} : ∀ {ts : List TypeId} {vs : List Value} {ds : List (DataW H)} {ps : List MemPlace}, ts.all (fun t => P.readableRec t && decide (t < P.types.size)) = true →
    DataW.TrodAll enc P W 0 (fun _ => true) true ts vs ds ps → (∀ x ∈ ps, x.block < W.heap.size) → (∀ x ∈ ps, sp x.block = true) → DataW.TrodAll enc P W' 0 sp true ts vs ds ps
  | [], [], [], _, _, h, _, _ => h
  | t :: ts, v :: vs, d :: ds, ps, ht, h, hlt, hsp => by
    obtain ⟨p, q, h1, h2, rfl⟩ := h
    simp only [List.all_cons, Bool.and_eq_true, decide_eq_true_eq] at ht
    exact ⟨p, q, WideElems.Trod_stays hl ht.1.1 ht.1.2 h1 (fun x hx => hb.same (hlt x (by simp [hx]))) (fun x hx => hsp x (by simp [hx])),
      trodAll_stays hl hb ht.2 h2 (fun x hx => hlt x (by simp [hx])) (fun x hx => hsp x (by simp [hx])), rfl⟩
  | [], [], _ :: _, _, _, h, _, _ => h.elim
  | [], _ :: _, _, _, _, h, _, _ => h.elim
  | _ :: _, [], _, _, _, h, _, _ => h.elim
  | _ :: _, _ :: _, [], _, _, h, _, _ => h.elim

/-- The row's last step where the call has left what there was. -/
theorem post_of_below {f : Func} {s : ChangeSpec} {apart fresh handsOn again : Bool} {W W' : World} {args : Array Value} {v : Value} {ds gs : List (DataW H)} {before pa pv : List MemPlace}
    (hW : DataW.Whole enc P f.params.toList s.vars apart W args.toList ds gs before)
    (hres : ∀ (b : Nat) (sp : Nat → Bool) (hd : Bool), DataW.TrodAll enc P W' b sp hd f.resultTypes.toList (v.resultList f.resultTypes.size) (s.fn H (ds ++ gs)).results [])
    (hargs : ∀ sp : Nat → Bool, (∀ p ∈ before, sp p.block = true) → DataW.TrodAll enc P W' 0 sp true f.params.toList args.toList (s.fn H (ds ++ gs)).args pa)
    (hvars : ∀ sp : Nat → Bool, (∀ p ∈ before, sp p.block = true) → DataW.TrodVars enc P W' sp s.vars (s.fn H (ds ++ gs)).vars pv)
    (hps : before = pa ++ pv) (hb : Below W.heap.size W W')
    (hok : ∀ (j : Nat) (t : TypeId) (r : Value), f.resultTypes[j]? = some t → (v.resultList f.resultTypes.size)[j]? = some r → Value.okWide P W' .any 0 t r) :
    s.post enc P f apart fresh handsOn again W args v W' := by
  have hlt : ∀ p ∈ before, p.block < W.heap.size := fun p hp => hW.lt p hp
  have hold : ∀ p ∈ before, (fun b => decide (b < W.heap.size)) p.block = true := fun p hp => by simpa using hlt p hp
  refine ⟨ds, gs, before, [], pa, pv, hW, hres _ _ _, hargs _ hold, hvars _ hold, World.keptBut_mono (fun p hp => ⟨hp, ?_⟩) (hb.frame (· ∈ before)), fun _ => ?_⟩
  · rw [hps, List.mem_append] at hp
    exact Or.inr hp
  · obtain ⟨_, _, _, _, _, hz, hn⟩ := hW
    refine ⟨hok, _, _, ([] ++ pa) ++ pv, ⟨[] ++ pa, pv, trodAll_append (hargs _ (fun _ _ => rfl)) (hres _ _ _), hvars _ (fun _ _ => rfl), rfl, ?_, ?_⟩, ?_⟩
    · intro b off hp
      have hin : MemPlace.cell b off ∈ before := by rw [hps]; simpa using hp
      rw [hb.frozen (hlt _ hin)]
      exact hz b off hin
    · intro ha
      have := hn ha
      rw [hps] at this
      simpa using this
    · intro p hp _
      rw [hps]
      simpa using hp
end
/-- A law's contract, as its row wants it. -/
theorem law_calls {P : Program} {f : FuncId} {args : List Value} {W : World} (h : Spec P f args [heapC W] fun v B => v = .bool true ∧ B = [heapC W]) :
    Calls P f args.toArray W fun e W' => e = .returned (.bool true) ∧ Below W.heap.size W W' :=
  (h W W [] (heapC_own W)).mono fun _ _ ⟨_, _, h1, ⟨h2, h3⟩, h4⟩ => by
    subst h3
    exact ⟨by rw [h1, h2], heapC_below h4⟩
end Go.Proofs.Yteghmoijhcdpeaa
