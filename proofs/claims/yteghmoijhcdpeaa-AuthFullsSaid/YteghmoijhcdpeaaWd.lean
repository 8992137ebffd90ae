/- More of the walk's rules: lengths, places in strings, pieces, values that are built, appends, maps. Plain lemmas, used by all proofs of this seat. -/
import Derived.Test.YteghmoijhcdpeaaWb
set_option linter.unusedSimpArgs false
set_option linter.unusedVariables false
namespace Go.Proofs.Yteghmoijhcdpeaa
open Go.RowKit

/-- A string's byte. -/
def sb (s : ByteArray) (i : Nat) : Nat := (s.data.toList.getD i 0).toNat
theorem sb_lt (s : ByteArray) (i : Nat) : sb s i < 256 := by unfold sb; exact UInt8.toNat_lt _
section
variable {P : Program} {E : Env} {n : Nat} {k : List K} {fr fr' : Fr} {S S' : List Chunk} {all rest : List Oper} {o : Oper} {d : Option Nat} {op : Op} {ty : TypeId} {pos : String} {after : Array Edge} {g : Option (Nat × Bool)}
  {t : TypeId} {x y : Operand} {b off : Nat} {v : Value} {c : Array Value} {T : TypeId} {fz : Nat × Nat}

theorem W.lenS {e : TypeId} {A : Option Addr} {m cp : Nat} [h : SlOf P t e] (k' : W P E n k (fput d (.int .i64 (m : Int)) fr) S) (hx : ev fr x = some (.slice A m cp) := by rfl)
    (hg : wants all fr ⟨d, .call ⟨.builtin .len, #[x], #[t]⟩, ty, pos, after, g⟩ = some true := by rfl) (hd : okD d n = true := by rfl) : W P E n (.op all ⟨d, .call ⟨.builtin .len, #[x], #[t]⟩, ty, pos, after, g⟩ :: k) fr S :=
  W.val (v := .int .i64 (m : Int)) k' hg hd fun a w ha hO => ⟨w, by simp [execOp, resolve, invoke, builtin, ha.evv hx, Builtin.len_, run_underlying h.out, goInt], hO⟩
theorem W.lenT {s : ByteArray} [h : Str P t] (k' : W P E n k (fput d (.int .i64 (s.size : Int)) fr) S) (hx : ev fr x = some (.string s) := by rfl)
    (hg : wants all fr ⟨d, .call ⟨.builtin .len, #[x], #[t]⟩, ty, pos, after, g⟩ = some true := by rfl) (hd : okD d n = true := by rfl) : W P E n (.op all ⟨d, .call ⟨.builtin .len, #[x], #[t]⟩, ty, pos, after, g⟩ :: k) fr S :=
  W.val (v := .int .i64 (s.size : Int)) k' hg hd fun a w ha hO => ⟨w, by simp [execOp, resolve, invoke, builtin, ha.evv hx, Builtin.len_, run_underlying h.out, goInt], hO⟩
theorem W.lenM {es : Array MapEntry} {ck kt et : Nat} [h : MapT P t kt et] (k' : W P E n k (fput d (.int .i64 (es.size : Int)) fr) S) (hx : ev fr x = some (.map (some b)) := by rfl) (hp : PickB S b (.map es ck) S' := by infer_instance)
    (hg : wants all fr ⟨d, .call ⟨.builtin .len, #[x], #[t]⟩, ty, pos, after, g⟩ = some true := by rfl) (hd : okD d n = true := by rfl) : W P E n (.op all ⟨d, .call ⟨.builtin .len, #[x], #[t]⟩, ty, pos, after, g⟩ :: k) fr S :=
  W.val (v := .int .i64 (es.size : Int)) k' hg hd fun a w ha hO => ⟨w, by
    have hb := (hO.pickB (h := hp)).block1 .here
    simp [execOp, resolve, invoke, builtin, ha.evv hx, Builtin.len_, run_underlying h.out, goInt, getObj, Sem.run, hb], hO⟩
theorem W.lenM0 {kt et : Nat} [h : MapT P t kt et] (k' : W P E n k (fput d (.int .i64 0) fr) S) (hx : ev fr x = some (.map none) := by rfl)
    (hg : wants all fr ⟨d, .call ⟨.builtin .len, #[x], #[t]⟩, ty, pos, after, g⟩ = some true := by rfl) (hd : okD d n = true := by rfl) : W P E n (.op all ⟨d, .call ⟨.builtin .len, #[x], #[t]⟩, ty, pos, after, g⟩ :: k) fr S :=
  W.val (v := .int .i64 0) k' hg hd fun a w ha hO => ⟨w, by simp [execOp, resolve, invoke, builtin, ha.evv hx, Builtin.len_, run_underlying h.out, goInt], hO⟩
theorem W.indexT {s : ByteArray} {i' : Nat} {kd : IntKind} {i : Int} [h : Str P t] (k' : W P E n k (fput d (.int .u8 (sb s i' : Int)) fr) S) (hx : ev fr x = some (.string s) := by rfl) (hy : ev fr y = some (.int kd i) := by rfl) (hi : ToNat i i' := by infer_instance) (hlt : i' < s.size := by omega)
    (hg : wants all fr ⟨d, .index t x y, ty, pos, after, g⟩ = some true := by rfl) (hd : okD d n = true := by rfl) : W P E n (.op all ⟨d, .index t x y, ty, pos, after, g⟩ :: k) fr S :=
  W.val (v := .int .u8 (sb s i' : Int)) k' hg hd fun a w ha hO => ⟨w, by
    have h1 := hi.out
    subst h1
    have h2 : s[i']? = some (s.data.toList.getD i' 0) := by
      have h3 : s[i']? = some s[i'] := getElem?_pos s i' hlt
      rw [h3]
      have h4 : s.data.toList[i']? = some s[i'] := by rw [Array.getElem?_toList, Array.getElem?_eq_getElem (show i' < s.data.size from hlt)]; rfl
      simp [List.getD, h4]
    simp [execOp, ha.evv hx, ha.evv hy, Instr.index, asIntOf, run_underlying h.out, h2, sb], hO⟩

/-- A piece of a slice. -/
theorem W.sliceS {lo hi : Option Operand} {e sz m' : Nat} {A : Option Addr} {m cp l h : Nat} {lv hv : Option Int} [hs : SlOf P t e] [hz : Siz P e sz m']
    (k' : W P E n k (fput d (.slice (if cp = l then A else A.map (·.add (l * sz))) (h - l) (cp - l)) fr) S)
    (hx : ev fr x = some (.slice A m cp)) (hlo : ∀ a, Fits n fr a → lo.map a.eval = (if lo.isSome then some (.int .i64 (l : Int)) else none)) (hlo0 : lo = none → l = 0)
    (hhi : ∀ a, Fits n fr a → hi.map a.eval = (if hi.isSome then some (.int .i64 (h : Int)) else none)) (hhi0 : hi = none → h = m) (h1 : l ≤ h) (h2 : h ≤ cp)
    (hg : wants all fr ⟨d, .slice t x lo hi none, ty, pos, after, g⟩ = some true := by rfl) (hd : okD d n = true := by rfl) : W P E n (.op all ⟨d, .slice t x lo hi none, ty, pos, after, g⟩ :: k) fr S :=
  W.val (v := .slice (if cp = l then A else A.map (·.add (l * sz))) (h - l) (cp - l)) k' hg hd fun a w ha hO => ⟨w, by
    have e1 := hlo a ha
    have e2 := hhi a ha
    have b1 : ∀ c : BoundsCode, (Instr.sliceBound (.int .i64 (h : Int)) cp c).run P w = .ok h w := fun c => by
      have : ((h : Int) ≤ (cp : Int)) := by omega
      simp [Instr.sliceBound, asIntOf, h2]
    have b2 : ∀ c : BoundsCode, (Instr.sliceBound (.int .i64 (l : Int)) h c).run P w = .ok l w := fun c => by simp [Instr.sliceBound, asIntOf, h1]
    have b3 : (Instr.sliceBounds true m cp (lo.map a.eval) (hi.map a.eval) none).run P w = .ok (l, h, cp) w := by
      rw [e1, e2]
      cases lo with
      | none =>
        have := hlo0 rfl
        subst this
        cases hi with
        | none => have := hhi0 rfl; subst this; simp [Instr.sliceBounds]
        | some hi => simp [Instr.sliceBounds, b1]
      | some lo =>
        cases hi with
        | none => have := hhi0 rfl; subst this; simp [Instr.sliceBounds, b2]
        | some hi => simp [Instr.sliceBounds, b1, b2]
    simp only [execOp, Option.map_none, Instr.sliceAt, Sem.run_bind, run_underlying hs.out, ha.evv hx]
    simp [Instr.slice, run_underlying hs.out, b3, run_sizeOf_siz], hO⟩

/-- What is built of parts. -/
def evsP (fr : Fr) : List (Nat × Operand) → Option (List (Nat × Value))
  | [] => some []
  | (i, x) :: l => match ev fr x, evsP fr l with
    | some v, some vs => some ((i, v) :: vs)
    | _, _ => none
theorem evsP_eq {a : Act} (ha : Fits n fr a) : ∀ (l : List (Nat × Operand)) (vs : List (Nat × Value)), evsP fr l = some vs → l.map (fun p => (p.1, a.eval p.2)) = vs := by
  intro l
  induction l with
  | nil => intro vs h; simpa [evsP] using h
  | cons p l ih =>
    intro vs h
    unfold evsP at h
    split at h
    · rename_i v us h1 h2
      simp only [Option.some.injEq] at h
      subst h
      simp [ha.evv h1, ih _ h2]
    · cases h
def cellsO : Value → Option (List Value)
  | .agg cs => some cs.toList
  | .tuple _ => none
  | v => some [v]
theorem cellsO_eq {v : Value} {l : List Value} (h : cellsO v = some l) : v.cells = l.toArray := by
  cases v <;> simp [cellsO, Value.cells] at h ⊢ <;> (subst h; first | rfl | simp)
def forceO {α : Type} : List α → Option (List α)
  | [] => some []
  | x :: l => match forceO l with
    | some l' => some (x :: l')
    | none => none
theorem forceO_eq {α : Type} : ∀ (l : List α), forceO l = some l := by
  intro l
  induction l with
  | nil => rfl
  | cons x l ih => simp [forceO, ih]
def fillO (pl : List (Nat × Nat)) : List Value → List (Nat × Value) → Option (List Value)
  | cs, [] => forceO cs
  | cs, (i, v) :: rest => match nth pl i, cellsO v with
    | some (off, size), some l => if l.length = size ∧ 0 < size then (match putO cs off l with
      | some cs' => fillO pl cs' rest
      | none => none) else none
    | _, _ => none
theorem foldl_put (l : List Value) : ∀ (s o : Nat) (cs : Array Value), o + s + l.length ≤ cs.size →
    ((l.zipIdx s).foldl (fun (cs : Array Value) (p : Value × Nat) => cs.setIfInBounds (o + p.2) p.1) cs).toList = cs.toList.take (o + s) ++ l ++ cs.toList.drop (o + s + l.length) := by
  induction l with
  | nil => intro s o cs h; simp
  | cons x l ih =>
    intro s o cs h
    simp only [List.zipIdx_cons, List.foldl_cons, List.length_cons] at h ⊢
    rw [ih (s + 1) o (cs.setIfInBounds (o + s) x) (by simp; omega)]
    have hlt : o + s < cs.toList.length := by simp; omega
    have e1 : (cs.setIfInBounds (o + s) x).toList = cs.toList.take (o + s) ++ x :: cs.toList.drop (o + s + 1) := by
      rw [Array.toList_setIfInBounds, List.set_eq_take_append_cons_drop, if_pos hlt]
    rw [e1]
    have hl : (cs.toList.take (o + s)).length = o + s := by simp at hlt ⊢; omega
    have e4 : cs.toList.drop (o + s + (l.length + 1)) = (cs.toList.drop (o + s + 1)).drop l.length := by
      rw [List.drop_drop]; congr 1; omega
    rw [e4]
    generalize hA : cs.toList.take (o + s) = A at *
    generalize cs.toList.drop (o + s + 1) = R
    have e2 : o + (s + 1) = A.length + 1 := by omega
    rw [e2]
    have a1 : (A ++ x :: R).take (A.length + 1) = A ++ [x] := by rw [List.take_append, List.take_of_length_le (by omega)]; simp
    have a2 : (A ++ x :: R).drop (A.length + 1 + l.length) = R.drop l.length := by
      have : A.length + 1 + l.length = A.length + (l.length + 1) := by omega
      rw [this, List.drop_append]; simp
    rw [a1, a2]
    simp
theorem fillO_eq {pl : List (Nat × Nat)} : ∀ (parts : List (Nat × Value)) (cs l : List Value), fillO pl cs parts = some l → Instr.fill (pl.toArray[·]?) cs.toArray parts = some l.toArray := by
  intro parts
  induction parts with
  | nil => intro cs l h; simp [fillO, forceO_eq] at h; subst h; rfl
  | cons p parts ih =>
    intro cs l h
    obtain ⟨i, v⟩ := p
    unfold fillO at h
    split at h
    · rename_i off size vs h1 h2
      split at h
      · rename_i hs
        split at h
        · rename_i cs' h3
          have h4 := cellsO_eq h2
          obtain ⟨h5, h6⟩ := putO_eq _ _ _ _ h3
          rw [nth_eq] at h1
          have hle : off + v.cells.size ≤ cs.toArray.size := by
            rw [h4]
            rcases h6 with rfl | h6
            · have := hs.1; have := hs.2; simp at *; omega
            · simpa using h6
          unfold Instr.fill
          have h1' : pl.toArray[i]? = some (off, size) := by simpa using h1
          simp only [h1']
          rw [if_neg (by have h7 := hle; rw [h4] at h7 ⊢; simp at h7 ⊢; have := hs.1; omega)]
          have key := foldl_put vs 0 off cs.toArray (by simpa [h4] using hle)
          have e : (vs.toArray.zipIdx.foldl (fun (cs : Array Value) (p : Value × Nat) => cs.setIfInBounds (off + p.2) p.1) cs.toArray) = cs'.toArray := by
            rw [← Array.toList_inj, ← Array.foldl_toList, Array.toList_zipIdx]
            simp only [Nat.add_zero] at key
            rw [h5]
            simpa using key
          rw [h4]
          have := ih cs' l h
          rw [← this]
          congr 1
        · cases h
      · cases h
    · cases h
theorem W.build {parts : Array (Nat × Operand)} {z : List Value} {pl : List (Nat × Nat)} {ps : List (Nat × Value)} {l : List Value} [hz : Zero P t (.agg ⟨z⟩)] [hp : Plc P t pl] (k' : W P E n k (fput d (.agg ⟨l⟩) fr) S)
    (hv : evsP fr parts.toList = some ps := by rfl) (hl : fillO pl z ps = some l := by rfl)
    (hg : wants all fr ⟨d, .build t parts, ty, pos, after, g⟩ = some true := by rfl) (hd : okD d n = true := by rfl) : W P E n (.op all ⟨d, .build t parts, ty, pos, after, g⟩ :: k) fr S :=
  W.val (v := .agg ⟨l⟩) k' hg hd fun a w ha hO => ⟨w, by
    have h1 := evsP_eq ha _ _ hv
    obtain ⟨fs, hf, hm⟩ := hp.out
    obtain ⟨i, hi, hzz⟩ := hz.out
    have h2 : P.built t (parts.map fun p => (p.1, a.eval p.2)).toList = some ⟨l⟩ := by
      have := fillO_eq (pl := pl) ps z l hl
      simp only [Array.toList_map]
      rw [h1]
      unfold Program.built
      simp only [hi, hf, hzz, hm]
      exact this
    have := run_build (P := P) w t _ _ h2
    simp only [execOp, Sem.run_bind]
    rw [this]
    simp, hO⟩
def repO : Nat → List Value → List Value
  | 0, _ => []
  | n + 1, z => z ++ repO n z
theorem repO_get (z : List Value) (hz : 0 < z.length) : ∀ (m i : Nat), i < m * z.length → (repO m z)[i]? = z[i % z.length]? := by
  intro m
  induction m with
  | zero => intro i h; simp at h
  | succ m ih =>
    intro i h
    unfold repO
    by_cases hi : i < z.length
    · rw [List.getElem?_append_left hi, Nat.mod_eq_of_lt hi]
    · have e : i = (i - z.length) + z.length := by omega
      rw [List.getElem?_append_right (by omega), ih (i - z.length) (by rw [Nat.add_mul] at h; omega)]
      conv => rhs; rw [e, Nat.add_mod_right]
theorem repO_len (z : List Value) : ∀ m, (repO m z).length = m * z.length := by
  intro m
  induction m with
  | zero => simp [repO]
  | succ m ih => simp [repO, ih, Nat.add_mul, Nat.add_comm]
def plN : Nat → Nat → Nat → List (Nat × Nat)
  | 0, _, _ => []
  | n + 1, o, s => (o, s) :: plN n (o + s) s
theorem plN_get : ∀ (m o s i : Nat), i < m → (plN m o s)[i]? = some (o + i * s, s) := by
  intro m
  induction m with
  | zero => intro o s i h; omega
  | succ m ih =>
    intro o s i h
    cases i with
    | zero => simp [plN]
    | succ i => simp [plN, ih (o + s) s i (by omega), Nat.add_mul]; omega
/-- What a literal's slice holds. -/
def litO (m : Nat) (z : List Value) (ps : List (Nat × Value)) : Option (List Value) :=
  if ps.all (fun p => Nat.blt p.1 m) = true then fillO (plN m 0 z.length) (repO m z) ps else none
theorem fill_congr {p q : Nat → Option (Nat × Nat)} : ∀ (l : List (Nat × Value)) (cs : Array Value), (∀ x ∈ l, p x.1 = q x.1) → Instr.fill p cs l = Instr.fill q cs l := by
  intro l
  induction l with
  | nil => intro cs h; rfl
  | cons x l ih =>
    intro cs h
    obtain ⟨i, v⟩ := x
    have e : p i = q i := h (i, v) (by simp)
    unfold Instr.fill
    rw [e]
    cases q i with
    | none => rfl
    | some y =>
      obtain ⟨off, size⟩ := y
      simp only
      split
      · rfl
      · exact ih _ (fun y hy => h y (by simp [hy]))
theorem W.buildSlice {m : Nat} {parts : Array (Nat × Operand)} {e sz bt : Nat} {zv : Value} {z l : List Value} {ps : List (Nat × Value)} [hs : SlOf P t e] [hz : Zero P e zv] [hsz : Siz P e sz bt]
    (k' : ∀ b, W P E n k (fput d (.slice (some ⟨b, 0, none⟩) m m) fr) ([(b, .cells ⟨l⟩ e (0, 0))] :: S)) (hc : cellsO zv = some z := by rfl) (h0 : z.length = sz := by rfl) (hpos : Nat.blt 0 sz = true := by rfl) (hm : Nat.ble (m * sz) 16777216 = true := by rfl)
    (hv : evsP fr parts.toList = some ps := by rfl) (hl : litO m z ps = some l := by rfl)
    (hg : wants all fr ⟨d, .buildSlice t m parts, ty, pos, after, g⟩ = some true := by rfl) (hd : okD d n = true := by rfl) : W P E n (.op all ⟨d, .buildSlice t m parts, ty, pos, after, g⟩ :: k) fr S := by
  refine ⟨fun hn a w ha hO => ?_⟩
  have h1 := evsP_eq ha _ _ hv
  have hzc := cellsO_eq hc
  have hm' := Nat.le_of_ble_eq_true hm
  have hpos' : 0 < sz := Nat.le_of_ble_eq_true hpos
  unfold litO at hl
  split at hl
  case isFalse => cases hl
  rename_i hall
  have h2 := fillO_eq _ _ _ hl
  have hcells : ((Array.range (m * sz)).map (fun i => (zv.cells)[i % zv.cells.size]!)) = (repO m z).toArray := by
    apply Array.ext
    · simp [repO_len, h0]
    · intro i hi1 hi2
      simp only [Array.getElem_map, Array.getElem_range]
      have hi : i < m * z.length := by simpa [repO_len] using hi2
      have h3 := repO_get z (by omega) m i hi
      have hlt : i % z.length < z.length := Nat.mod_lt _ (by omega)
      rw [hzc]
      have h5 : z.toArray[i % z.length]! = z[i % z.length] := by simp [hlt]
      have h4 : (repO m z)[i]? = some z[i % z.length] := by rw [h3]; simp [hlt]
      have h6 := (List.getElem?_eq_some_iff.1 h4).2
      simp only [List.size_toArray, h5]
      rw [← h6]
      simp
  have hfill : Instr.fill (fun i => some (i * sz, sz)) (repO m z).toArray (parts.map fun p => (p.1, a.eval p.2)).toList = some l.toArray := by
    rw [Array.toList_map, h1, ← h2]
    refine fill_congr _ _ fun x hx => ?_
    have h3 := List.all_eq_true.1 hall x hx
    have h4 : x.1 < m := Nat.le_of_ble_eq_true h3
    have := plN_get m 0 z.length x.1 h4
    rw [h0] at this ⊢
    simp [this]
  have hrun : (Instr.buildSlice t m (parts.map fun p => (p.1, a.eval p.2))).run P w = .ok (.slice (some ⟨w.heap.size, 0, none⟩) m m) (w.alloc (.cells l.toArray e (0, 0))) := by
    have hsz' : (sizeOf e).run P w = .ok sz w := run_sizeOf_siz
    by_cases hm0 : m * sz = 0
    · have hz : m = 0 := by
        rcases Nat.mul_eq_zero.1 hm0 with h | h
        · exact h
        · omega
      subst hz
      have hl0 : l = [] := by
        have hps : ps = [] := by
          cases ps with
          | nil => rfl
          | cons x xs => have := List.all_eq_true.1 hall x (by simp); simp at this
        subst hps
        simp [fillO, repO, forceO_eq] at hl
        exact hl
      subst hl0
      have hp0 : (parts.map fun p => (p.1, a.eval p.2)).toList = [] := by
        rw [Array.toList_map, h1]
        cases ps with
        | nil => rfl
        | cons x xs => have := List.all_eq_true.1 hall x (by simp); simp at this
      have hr0 : Array.range 0 = #[] := rfl
      rw [Array.toList_map] at hp0
      simp [Instr.buildSlice, run_underlying hs.out, hsz', hp0, Instr.fill, newRow, hr0]
    · have hz' : (zeroValue e).run P w = .ok zv w := run_zeroValue_
      have hfill' := hfill
      rw [← hcells] at hfill'
      simp [Instr.buildSlice, run_underlying hs.out, hsz', Nat.not_lt.2 hm', hm0, hz', newRow]
      rw [Array.toList_map] at hfill'
      simp only [Array.getElem!_eq_getD] at hfill' ⊢
      rw [hfill']
      simp
  refine op_val (wants_eq ha hg) (w' := w.alloc (.cells l.toArray e (0, 0))) ?_ ((k' _).out hn _ _ (ha.putf hd _) (own_alloc hO _))
  simp only [execOp, Sem.run_bind]
  rw [hrun]
  simp

theorem run_append2 {w0 w : World} {C : List Chunk} {K0 X : Chunk} {e size ty m1 m2 : Nat} {z s v : Value} {bytes : Nat} {xs news : List Value} [h1 : SlOf P t e] [h2 : Zero P e z] [h3 : Siz P e size bytes] (hzs : z.cells.size = size) (hsz : 0 < size)
    (hs : Sl e size s m1 xs K0) (hO : Own w0 w (K0 :: C)) (hr : Rd X size v m2 news) (hX : ∀ p u, FCell X p u → w.cell? p = some u) (hone : ∀ u ∈ news, u.oneCell' = true) (h63 : m1 + m2 ≤ maxLen) (hbytes : (m1 + m2) * bytes ≤ 140737488355328) :
    ∃ v' w' K', (Builtin.append_ #[t, t] ty #[s, v]).run P w = .ok v' w' ∧ Sl e size v' (m1 + m2) (xs ++ news) K' ∧ Own w0 w' (K' :: C) := by
  obtain ⟨i, hi, hz⟩ := h2.out
  obtain ⟨i', hi', hs1, hs2⟩ := h3.out
  obtain rfl : i = i' := by rw [hi] at hi'; injection hi'
  obtain ⟨A, c, rfl, hc, hl, hf⟩ := hr
  have hown := hs.owns hO
  rcases Nat.eq_zero_or_pos m2 with h0 | h0
  · subst h0
    have : news = [] := by simpa using hl
    subst this
    cases A with
    | none => exact ⟨s, w, K0, run_append_none h1.out hi hs1 c hown, by simpa using hs, hO⟩
    | some ad =>
      obtain ⟨v', w', hrun, ho', hg, hn, hb⟩ := run_append_own_at (P := P) w 0 t ty e i z size bytes h1.out hi hz hs1 hs2 hzs hsz s m1 xs hown ad 0 c [] (by simp) (by simp) (by simp) h63 hbytes (Nat.zero_le _)
      obtain ⟨K', k1, k2⟩ := Own.grown hs hO ho' hg hb
      exact ⟨v', w', K', hrun, k1, k2⟩
  · obtain ⟨b, off, rfl, hcell⟩ := hf h0
    obtain ⟨v', w', hrun, ho', hg, hn, hb⟩ := run_append_own_at (P := P) w 0 t ty e i z size bytes h1.out hi hz hs1 hs2 hzs hsz s m1 xs hown ⟨b, off, none⟩ m2 c news hl
      (fun j u hu => by rw [add_at]; exact hX _ _ (hcell j u hu)) hone h63 hbytes (Nat.zero_le _)
    obtain ⟨K', k1, k2⟩ := Own.grown hs hO ho' hg hb
    exact ⟨v', w', K', hrun, k1, k2⟩
/-- append to a slice that is the only way to its memory. -/
theorem W.append {K0 X : Chunk} {S1 S2 : List Chunk} {e size bytes m1 m2 : Nat} {z s v : Value} {xs news : List Value} (hs : Sl e size s m1 xs K0) (hr : Rd X size v m2 news)
    (k' : ∀ A' c' K', Sl e size (.slice A' (m1 + m2) c') (m1 + m2) (xs ++ news) K' → W P E n k (fput d (.slice A' (m1 + m2) c') fr) (K' :: S1))
    [h1 : SlOf P t e] [h2 : Zero P e z] [h3 : Siz P e size bytes] [hp : PickC S K0 S1] [hX : PickC S X S2] (hone : ∀ u ∈ news, u.oneCell' = true) (hb : (m1 + m2) * bytes ≤ 140737488355328) (hzs : z.cells.size = size := by rfl) (hsz : 0 < size := by decide) (hbp : 0 < bytes := by decide)
    (hx : ev fr x = some s := by rfl) (hy : ev fr y = some v := by rfl) 
    (hg : wants all fr ⟨d, .call ⟨.builtin .append, #[x, y], #[t, t]⟩, ty, pos, after, g⟩ = some true := by rfl) (hd : okD d n = true := by rfl) : W P E n (.op all ⟨d, .call ⟨.builtin .append, #[x, y], #[t, t]⟩, ty, pos, after, g⟩ :: k) fr S := by
  refine ⟨fun hn a w ha hO => ?_⟩
  have hO1 : Own E.w0 w (K0 :: (S1 ++ E.C)) := hO.perm (by simpa using List.Perm.append_right E.C.flatten hp.out)
  have hO2 : Own E.w0 w (X :: (S2 ++ E.C)) := hO.perm (by simpa using List.Perm.append_right E.C.flatten hX.out)
  have hm : m1 + m2 ≤ maxLen := by
    have h5 : (m1 + m2) * 1 ≤ (m1 + m2) * bytes := Nat.mul_le_mul_left _ hbp
    simp only [maxLen]; omega
  obtain ⟨v', w', K', hrun, k1, k2⟩ := run_append2 (P := P) (t := t) (ty := ty) (z := z) (bytes := bytes) hzs hsz hs hO1 hr (fun p u h => hO2.fcell .here h) hone hm hb
  obtain ⟨A', c', rfl⟩ : ∃ A' c', v' = .slice A' (m1 + m2) c' := by obtain ⟨A', c', hv, _⟩ := k1.rd; exact ⟨A', c', hv⟩
  refine op_val (wants_eq ha hg) (w' := w') ?_ ((k' A' c' K' k1).out hn _ _ (ha.putf hd _) k2)
  simp only [execOp, resolve, invoke, builtin, Sem.run_bind, Sem.run_pure, Result.andThen_ok, List.map_toArray, List.map_cons, List.map_nil, ha.evv hx, ha.evv hy, hrun]

/-- Maps, by what the instruction does. -/
theorem W.lookup {co : Bool} {m kv v : Value} (hx : ev fr x = some m) (hy : ev fr y = some kv) (hrun : ∀ w, Own E.w0 w (S ++ E.C) → (Instr.lookup t m kv co).run P w = .ok v w) (k' : W P E n k (fput d v fr) S)
    (hg : wants all fr ⟨d, .lookup t x y co, ty, pos, after, g⟩ = some true := by rfl) (hd : okD d n = true := by rfl) : W P E n (.op all ⟨d, .lookup t x y co, ty, pos, after, g⟩ :: k) fr S :=
  W.val (v := v) k' hg hd fun a w ha hO => ⟨w, by simp [execOp, ha.evv hx, ha.evv hy, hrun w hO], hO⟩
theorem W.mapUpdate {z : Operand} {m kv v : Value} (hx : ev fr x = some m) (hy : ev fr y = some kv) (hz : ev fr z = some v) (hrun : ∀ w, Own E.w0 w (S ++ E.C) → ∃ w', (Instr.mapUpdate t m kv v).run P w = .ok () w' ∧ Own E.w0 w' (S' ++ E.C)) (k' : W P E n k (fput d undef fr) S')
    (hg : wants all fr ⟨d, .mapUpdate t x y z, ty, pos, after, g⟩ = some true := by rfl) (hd : okD d n = true := by rfl) : W P E n (.op all ⟨d, .mapUpdate t x y z, ty, pos, after, g⟩ :: k) fr S :=
  W.eff k' hg hd fun a w ha hO => by
    obtain ⟨w', h1, h2⟩ := hrun w hO
    exact ⟨w', by simp [execOp, ha.evv hx, ha.evv hy, ha.evv hz, h1], h2⟩
theorem W.delete {kt : Nat} {m kv : Value} (hx : ev fr x = some m) (hy : ev fr y = some kv) (hrun : ∀ w, Own E.w0 w (S ++ E.C) → ∃ w', (Builtin.delete_ #[t, kt] ty #[m, kv]).run P w = .ok (.tuple #[]) w' ∧ Own E.w0 w' (S' ++ E.C)) (k' : W P E n k (fput d (.tuple #[]) fr) S')
    (hg : wants all fr ⟨d, .call ⟨.builtin .delete, #[x, y], #[t, kt]⟩, ty, pos, after, g⟩ = some true := by rfl) (hd : okD d n = true := by rfl) : W P E n (.op all ⟨d, .call ⟨.builtin .delete, #[x, y], #[t, kt]⟩, ty, pos, after, g⟩ :: k) fr S :=
  W.val (v := .tuple #[]) k' hg hd fun a w ha hO => by
    obtain ⟨w', h1, h2⟩ := hrun w hO
    exact ⟨w', by simp only [execOp, resolve, invoke, builtin, Sem.run_bind, Sem.run_pure, Result.andThen_ok, List.map_toArray, List.map_cons, List.map_nil, ha.evv hx, ha.evv hy, h1], h2⟩
theorem W.makeMap (k' : ∀ b, W P E n k (fput d (.map (some b)) fr) ([(b, .map #[] 0)] :: S))
    (hg : wants all fr ⟨d, .makeMap t none, ty, pos, after, g⟩ = some true := by rfl) (hd : okD d n = true := by rfl) : W P E n (.op all ⟨d, .makeMap t none, ty, pos, after, g⟩ :: k) fr S := by
  refine ⟨fun hn a w ha hO => ?_⟩
  refine op_val (wants_eq ha hg) (w' := w.alloc (.map #[] 0)) ?_ ((k' _).out hn _ _ (ha.putf hd _) (own_alloc hO _))
  simp [execOp, Instr.makeMap]
/-- Whole numbers of another kind. -/
theorem W.conv {t1 t2 : TypeId} {kd k2 : IntKind} {z lo hi : Int} [h1 : IntT P t1 k2] [h2 : IntT P t2 kd] [hr : Rng kd lo hi] (k' : W P E n k (fput d (.int kd z) fr) S)
    (hx : ev fr x = some (.int k2 z) := by rfl) (hlo : lo ≤ z := by omega) (hhi : z ≤ hi := by omega)
    (hg : wants all fr ⟨d, .convert t1 t2 x, ty, pos, after, g⟩ = some true := by rfl) (hd : okD d n = true := by rfl) : W P E n (.op all ⟨d, .convert t1 t2 x, ty, pos, after, g⟩ :: k) fr S :=
  W.val (v := .int kd z) k' hg hd fun a w ha hO => ⟨w, by simp [execOp, ha.evv hx, convert, run_underlying h1.out, run_underlying h2.out, Conv.intToInt, hr.out z hlo hhi], hO⟩
/-- A field of a struct by value. -/
theorem W.fieldS {s f o : Nat} {cs : Array Value} [hf : FldS P s f o] (k' : W P E n k (fput d v fr) S) (hx : ev fr x = some (.agg cs) := by rfl) (hv : nth cs.toList o = some v := by rfl)
    (hg : wants all fr ⟨d, .field s x f, ty, pos, after, g⟩ = some true := by rfl) (hd : okD d n = true := by rfl) : W P E n (.op all ⟨d, .field s x f, ty, pos, after, g⟩ :: k) fr S :=
  W.val (v := v) k' hg hd fun a w ha hO => ⟨w, by
    obtain ⟨fs, fd, h1, h2, h3, h4⟩ := hf.out
    rw [nth_eq] at hv
    have hv' : cs[o]? = some v := by simpa using hv
    have h5 : (isAgg fd.type).run P w = .ok false w := run_isAgg_no
    simp [execOp, ha.evv hx, Instr.field, run_underlying h1, h2, asAgg, part, h5, h3, hv'], hO⟩
theorem W.fieldA {s f o m : Nat} {cs : Array Value} {l : List Value} [hf : FldA P s f o m] (k' : W P E n k (fput d (.agg ⟨l⟩) fr) S) (hx : ev fr x = some (.agg cs) := by rfl) (hl : sliceO cs.toList o m = some l := by rfl)
    (hg : wants all fr ⟨d, .field s x f, ty, pos, after, g⟩ = some true := by rfl) (hd : okD d n = true := by rfl) : W P E n (.op all ⟨d, .field s x f, ty, pos, after, g⟩ :: k) fr S :=
  W.val (v := .agg ⟨l⟩) k' hg hd fun a w ha hO => ⟨w, by
    obtain ⟨fs, fd, h1, h2, h3, h4⟩ := hf.out
    obtain ⟨rfl, hle⟩ := sliceO_eq _ _ _ _ hl
    have h5 : (isAgg fd.type).run P w = .ok true w := run_isAgg_yes
    have h6 : (sizeOf fd.type).run P w = .ok m w := run_sizeOf_agg
    have h7 : cs.extract o (o + m) = ((cs.toList.drop o).take m).toArray := by
      apply Array.toList_inj.1
      simp [List.extract_eq_take_drop]
    simp [execOp, ha.evv hx, Instr.field, run_underlying h1, h2, asAgg, part, h5, h6, h3, h7], hO⟩
end
end Go.Proofs.Yteghmoijhcdpeaa
