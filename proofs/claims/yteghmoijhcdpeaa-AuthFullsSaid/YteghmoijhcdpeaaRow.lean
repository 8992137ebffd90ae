/- Slices over chunks: rows that are read, rows that grow, bytes and strings: plain lemmas, used by all proofs of this seat. -/
import Derived.Test.YteghmoijhcdpeaaOwn
import Derived.Laws.IdiomStrings
import Derived.Maps.AppendAt
import Derived.Laws.BytesArg
set_option linter.unusedSimpArgs false
set_option linter.unusedVariables false
namespace Go.Proofs.Yteghmoijhcdpeaa
open Go.RowKit

/-- The slice v of n elements reads as the cells xs, out of the chunk X. -/
def Rd (X : Chunk) (size : Nat) (v : Value) (n : Nat) (xs : List Value) : Prop :=
  ∃ A c, v = .slice A n c ∧ n ≤ c ∧ xs.length = n * size ∧ (0 < n → ∃ b off, A = some ⟨b, off, none⟩ ∧ ∀ j u, xs[j]? = some u → FCell X ⟨b, off + j, none⟩ u)
/-- The slice v of n elements is the only way to the chunk K, whose row it is from the start. -/
def Sl (T size : Nat) (v : Value) (n : Nat) (xs : List Value) (K : Chunk) : Prop :=
  xs.length = n * size ∧ ((v = .slice none 0 0 ∧ n = 0 ∧ K = []) ∨
    ∃ g cap cur, v = .slice (some ⟨g, 0, none⟩) n cap ∧ K = [(g, .cells cur T (0, 0))] ∧ n ≤ cap ∧ cap ≤ maxLen ∧ cur.size = cap * size ∧ cur.toList.take (n * size) = xs)

theorem Rd.split {X : Chunk} {size : Nat} {v : Value} {n : Nat} {xs : List Value} (h : Rd X size v n xs) : ∃ A c, v = .slice A n c ∧ n ≤ c ∧ Hid (Rd X size (.slice A n c) n xs) := by
  obtain ⟨A, c, rfl, hc, hl, hf⟩ := h
  exact ⟨A, c, rfl, hc, A, c, rfl, hc, hl, hf⟩
theorem Sl.none_ (T size : Nat) : Sl T size (.slice none 0 0) 0 [] [] := ⟨by simp, .inl ⟨rfl, rfl, rfl⟩⟩
theorem Sl.new {T size n b : Nat} {cells : Array Value} (h : cells.size = n * size) (hm : n ≤ maxLen) : Sl T size (.slice (some ⟨b, 0, none⟩) n n) n cells.toList [(b, .cells cells T (0, 0))] :=
  ⟨by simpa using h, .inr ⟨b, n, cells, rfl, rfl, Nat.le_refl _, hm, h, List.take_of_length_le (by simp [h])⟩⟩

theorem Rd.none_ (X : Chunk) (size : Nat) : Rd X size (.slice none 0 0) 0 [] := ⟨none, 0, rfl, Nat.le_refl _, by simp, fun h => absurd h (by omega)⟩
theorem Rd.mono {X Y : Chunk} {size n : Nat} {v : Value} {xs : List Value} (h : Rd X size v n xs) (hs : ∀ p ∈ X, p ∈ Y) : Rd Y size v n xs := by
  obtain ⟨A, c, hv, hc, hl, hr⟩ := h
  refine ⟨A, c, hv, hc, hl, fun hn => ?_⟩
  obtain ⟨b, off, hA, hf⟩ := hr hn
  refine ⟨b, off, hA, fun j u hu => ?_⟩
  obtain ⟨cc, T, fr, hm, h1, h2⟩ := hf j u hu
  exact ⟨cc, T, fr, hs _ hm, h1, h2⟩
theorem FCell.mono {X Y : Chunk} {p : Addr} {v : Value} (h : FCell X p v) (hs : ∀ q ∈ X, q ∈ Y) : FCell Y p v := by
  obtain ⟨cc, T, fr, hm, h1, h2⟩ := h
  exact ⟨cc, T, fr, hs _ hm, h1, h2⟩

theorem Sl.rd {T size n : Nat} {v : Value} {xs : List Value} {K : Chunk} (h : Sl T size v n xs K) : Rd K size v n xs := by
  obtain ⟨hl, h⟩ := h
  rcases h with ⟨rfl, rfl, rfl⟩ | ⟨g, cap, cur, rfl, rfl, hc, hm, hs, rfl⟩
  · have : xs = [] := by simpa using hl
    subst this
    exact Rd.none_ _ _
  · refine ⟨_, _, rfl, hc, hl, fun hn => ⟨g, 0, rfl, fun j u hu => ⟨cur, T, (0, 0), by simp, rfl, ?_⟩⟩⟩
    rw [List.getElem?_take] at hu
    split at hu
    · simpa using hu
    · cases hu

/-- The empty slice made by a literal. -/
theorem Sl.lit0 {T size b : Nat} : Sl T size (.slice (some ⟨b, 0, none⟩) 0 0) 0 [] [(b, .cells #[] T (0, 0))] := by
  have := Sl.new (T := T) (size := size) (n := 0) (b := b) (cells := #[]) (by simp) (by simp [maxLen])
  simpa using this

class SlOf (P : Program) (t : TypeId) (e : outParam TypeId) : Prop where
  out : P.underlying t = some (.slice e)
class Byt (P : Program) (e : TypeId) : Prop where
  out : P.underlying e = some (.int .u8)
class Str (P : Program) (t : TypeId) : Prop where
  out : P.underlying t = some .string

section
variable {w0 w : World} {C C' D : List Chunk} {K X : Chunk} {T size : Nat} {s : Value} {n m : Nat} {xs news : List Value}

theorem Sl.owns (h : Sl T size s n xs K) (hO : Own w0 w (K :: C)) : w.ownsRow 0 T size s n xs := by
  obtain ⟨hl, h⟩ := h
  refine ⟨hl, ?_⟩
  rcases h with ⟨rfl, rfl, rfl⟩ | ⟨g, cap, cur, rfl, rfl, hc, hm, hs, he⟩
  · exact .inl ⟨rfl, rfl⟩
  · exact .inr ⟨g, cap, cur, rfl, Nat.zero_le _, hO.block1 .here, hc, hm, hs, he⟩

theorem Own.grown {w' : World} {v' : Value} (hs : Sl T size s n xs K) (hO : Own w0 w (K :: C)) (hown : w'.ownsRow 0 T size v' m news) (hg : w.grownBy w' s.ownBlock)
    (hb : v'.ownBlock = s.ownBlock ∨ v'.ownBlock = some w.heap.size) : ∃ K', Sl T size v' m news K' ∧ Own w0 w' (K' :: C) := by
  obtain ⟨hl, h⟩ := hown
  have hC := hO.drop
  have hstay : ∀ p ∈ C.flatten, some p.1 ≠ s.ownBlock := by
    intro p hp he
    rcases hs.2 with ⟨rfl, _, _⟩ | ⟨g, cap, cur, rfl, rfl, _⟩
    · simp [Value.ownBlock] at he
    · simp only [Value.ownBlock, Option.some.injEq] at he
      have hn := hO.nodup
      simp only [List.flatten_cons, List.map_append, List.map_cons, List.map_nil, List.cons_append, List.nil_append, List.nodup_cons] at hn
      exact hn.1 (List.mem_map.2 ⟨p, hp, he⟩)
  have hmem : ∀ p ∈ C.flatten, w'.heap[p.1]? = some p.2 := fun p hp => by rw [hg.block p.1 (hC.lt p hp) (hstay p hp)]; exact hC.mem p hp
  rcases h with ⟨rfl, rfl⟩ | ⟨g, cap, cur, rfl, _, hh, hc, hm, hsz, he⟩
  · have : news = [] := by simpa using hl
    subst this
    exact ⟨[], Sl.none_ T size, Own.none_ ⟨hg.os.trans hO.os, hg.tape.trans hO.tape, hg.output.trans hO.output, hC.nodup, hmem⟩⟩
  · refine ⟨[(g, .cells cur T (0, 0))], ⟨hl, .inr ⟨g, cap, cur, rfl, rfl, hc, hm, hsz, he⟩⟩, hg.os.trans hO.os, hg.tape.trans hO.tape, hg.output.trans hO.output, ?_, ?_⟩
    · simp only [List.flatten_cons, List.map_append, List.map_cons, List.map_nil, List.cons_append, List.nil_append, List.nodup_cons]
      refine ⟨fun hin => ?_, hC.nodup⟩
      obtain ⟨p, hp, hpe⟩ := List.mem_map.1 hin
      rcases hb with hb | hb
      · exact hstay p hp (by rw [hpe]; exact hb)
      · have := hC.lt p hp
        simp only [Value.ownBlock, Option.some.injEq] at hb
        omega
    · intro q hq
      simp only [List.flatten_cons, List.cons_append, List.nil_append, List.mem_cons] at hq
      rcases hq with rfl | hq
      · exact hh
      · exact hmem q hq

theorem run_append_none {P : Program} {t ty e : TypeId} {i : TypeInfo} (ht : P.underlying t = some (.slice e)) (hi : P.info? e = some i) (hsize : i.size = size) (c : Nat)
    (hown : w.ownsRow 0 e size s n xs) : (Builtin.append_ #[t, t] ty #[s, .slice none 0 c]).run P w = .ok s w := by
  rcases hown.2 with ⟨rfl, rfl⟩ | ⟨g, cap, cur, rfl, _, _, hnc, _⟩
  · simp [Builtin.append_, run_underlying ht, sizeOf, typeInfo, hi, Builtin.lenOf, Builtin.firstCells]
  · simp [Builtin.append_, run_underlying ht, sizeOf, typeInfo, hi, Builtin.lenOf, Builtin.firstCells, hnc, storeCells]

theorem run_append_ {P : Program} {t ty : TypeId} {z : Value} {bytes : Nat} {v : Value} {CX : List Chunk} [h1 : SlOf P t T] [h2 : Zero P T z] [h3 : Siz P T size bytes] (hzs : z.cells.size = size) (hsz : 0 < size)
    (hs : Sl T size s n xs K) (hO : Own w0 w C) (hp : Pick C K C') (hr : Rd X size v m news) (hX : Pick C X CX) (hone : ∀ u ∈ news, u.oneCell' = true)
    (h63 : n + m ≤ maxLen) (hbytes : (n + m) * bytes ≤ 140737488355328) :
    ∃ v' w' K', (Builtin.append_ #[t, t] ty #[s, v]).run P w = .ok v' w' ∧ Sl T size v' (n + m) (xs ++ news) K' ∧ Own w0 w' (K' :: C') ∧ (v' = .slice none 0 0 ↔ s = .slice none 0 0 ∧ m = 0) := by
  obtain ⟨i, hi, hz⟩ := h2.out
  obtain ⟨i', hi', hs1, hs2⟩ := h3.out
  obtain rfl : i = i' := by rw [hi] at hi'; injection hi'
  obtain ⟨A, c, rfl, hc, hl, hf⟩ := hr
  have hO' := hO.pick hp
  have hown := hs.owns hO'
  rcases Nat.eq_zero_or_pos m with h0 | h0
  · subst h0
    have : news = [] := by simpa using hl
    subst this
    cases A with
    | none => exact ⟨s, w, K, run_append_none h1.out hi hs1 c hown, by simpa using hs, hO', by simp⟩
    | some ad =>
      obtain ⟨v', w', hrun, ho', hg, hn, hb⟩ := run_append_own_at (P := P) w 0 t ty T i z size bytes h1.out hi hz hs1 hs2 hzs hsz s n xs hown ad 0 c [] (by simp) (by simp) (by simp) h63 hbytes (Nat.zero_le _)
      obtain ⟨K', k1, k2⟩ := Own.grown hs hO' ho' hg hb
      exact ⟨v', w', K', hrun, k1, k2, hn⟩
  · obtain ⟨b, off, rfl, hcell⟩ := hf h0
    obtain ⟨v', w', hrun, ho', hg, hn, hb⟩ := run_append_own_at (P := P) w 0 t ty T i z size bytes h1.out hi hz hs1 hs2 hzs hsz s n xs hown ⟨b, off, none⟩ m c news hl
      (fun j u hu => by rw [add_at]; exact hO.fcell hX (hcell j u hu)) hone h63 hbytes (Nat.zero_le _)
    obtain ⟨K', k1, k2⟩ := Own.grown hs hO' ho' hg hb
    exact ⟨v', w', K', hrun, k1, k2, hn⟩
end

theorem arr_cat (a b : Array Value) : (a.toList ++ b.toList).toArray = a ++ b := by simp
theorem arr_cat3 (a b c : Array Value) : (a.toList ++ (b.toList ++ c.toList)).toArray = a ++ b ++ c := by simp
/-- What a literal of elements lays. -/
def flat (vs : List Value) : Array Value := (vs.flatMap fun v => v.cells.toList).toArray

theorem foldl_set (off : Nat) : ∀ (xs : List Value) (k : Nat) (pre mid post : List Value), pre.length = off → mid.length = k → 
    ∀ (old : List Value), old.length = xs.length → 
    (xs.zipIdx k).foldl (fun (cs : Array Value) (p : Value × Nat) => cs.setIfInBounds (off + p.2) p.1) (pre ++ mid ++ old ++ post).toArray = (pre ++ mid ++ xs ++ post).toArray
  | [], k, pre, mid, post, _, _, old, ho => by
    have : old = [] := by simpa using ho
    subst this
    simp
  | x :: xs, k, pre, mid, post, h1, h2, old, ho => by
    cases old with
    | nil => simp at ho
    | cons y old =>
      simp only [List.zipIdx_cons, List.foldl_cons]
      have e : (pre ++ mid ++ (y :: old) ++ post).toArray.setIfInBounds (off + k) x = (pre ++ (mid ++ [x]) ++ old ++ post).toArray := by
        rw [List.setIfInBounds_toArray]
        congr 1
        rw [show pre ++ mid ++ (y :: old) ++ post = (pre ++ mid) ++ (y :: (old ++ post)) by simp]
        rw [List.set_append_right _ _ (by simp; omega)]
        simp [h1, h2]
      rw [e, foldl_set off xs (k + 1) pre (mid ++ [x]) post h1 (by simp [h2]) old (by simpa using ho)]
      simp

theorem fill_flat (size : Nat) : ∀ (vs : List Value) (k : Nat) (pre post : List Value), (∀ v ∈ vs, v.cells.size = size) → pre.length = k * size → post.length = vs.length * size →
    Instr.fill (fun i => some (i * size, size)) (pre ++ post).toArray ((vs.zipIdx k).map fun p => (p.2, p.1)) = some (pre.toArray ++ flat vs)
  | [], k, pre, post, _, _, h => by
    have : post = [] := by simpa using h
    subst this
    simp [Instr.fill, flat]
  | v :: vs, k, pre, post, hv, hp, h => by
    have hv0 : v.cells.size = size := hv v (by simp)
    have hlen : post.length = size + vs.length * size := by rw [h, List.length_cons, Nat.add_mul, Nat.one_mul, Nat.add_comm]
    simp only [List.zipIdx_cons, List.map_cons, Instr.fill]
    have hc : ¬ (v.cells.size ≠ size ∨ k * size + v.cells.size > (pre ++ post).toArray.size) := by
      simp [hv0, hp]
      omega
    simp only [hv0, ne_eq, not_true_eq_false, decide_false, Bool.false_or]
    rw [if_neg (by simp [hp]; omega)]
    have hsplit : pre ++ post = pre ++ [] ++ post.take size ++ post.drop size := by simp
    have hf := foldl_set (k * size) v.cells.toList 0 pre [] (post.drop size) hp rfl (post.take size) (by simp [hlen, hv0])
    rw [← hsplit] at hf
    have hz : v.cells.zipIdx.foldl (fun (cs : Array Value) (p : Value × Nat) => cs.setIfInBounds (k * size + p.2) p.1) (pre ++ post).toArray = (pre ++ v.cells.toList ++ post.drop size).toArray := by
      rw [← Array.foldl_toList]
      simpa using hf
    have hz' : v.cells.zipIdx.foldl (fun (cs : Array Value) x => match x with | (c, j) => cs.setIfInBounds (k * size + j) c) (pre ++ post).toArray = (pre ++ v.cells.toList ++ post.drop size).toArray := hz
    rw [hz']
    rw [fill_flat size vs (k + 1) (pre ++ v.cells.toList) (post.drop size) (fun u hu => hv u (by simp [hu])) (by simp [hp, hv0, Nat.add_mul]) (by simp [hlen])]
    simp [flat]

section
variable {P : Program} {ops : Array Oper} {rest : List Oper} {o : Oper} {a : Act} {w0 w w' : World} {Q : Exit → Act → World → Prop} {C C' CX : List Chunk} {b off : Nat} {c : Array Value} {T t : TypeId} {fr : Nat × Nat} {x y : Operand} {v : Value}

theorem st_append {size bytes n m : Nat} {z s : Value} {xs news : List Value} {K X : Chunk} (hO : Own w0 w C) (hw : Region.wanted o (yielded ops a.tmps) = true)
    (ho : o.op = .call { callee := .builtin .append, args := #[x, y], argTypes := #[t, t] }) 
    (h1 : SlOf P t T) (h2 : Zero P T z) (h3 : Siz P T size bytes) (hzs : z.cells.size = size) (hsz : 0 < size) (hx : a.eval x = s) (hy : a.eval y = v) (hs : Sl T size s n xs K) (hp : Pick C K C') (hr : Rd X size v m news) (hX : Pick C X CX) (hone : ∀ u ∈ news, u.oneCell' = true) (h63 : n + m ≤ maxLen) (hbytes : (n + m) * bytes ≤ 140737488355328)
    (h : ∀ w' A' c' K', Sl T size (.slice A' (n + m) c') (n + m) (xs ++ news) K' → Own w0 w' (K' :: C') → wpList P ops Q rest (a.put o.dst (.slice A' (n + m) c')) w') : wpList P ops Q (o :: rest) a w := by
  obtain ⟨v', w', K', hrun, k1, k2, k3⟩ := run_append_ (P := P) (t := t) (ty := o.type) (z := z) (bytes := bytes) hzs hsz hs hO hp hr hX hone h63 hbytes
  obtain ⟨A', c', rfl⟩ : ∃ A' c', v' = .slice A' (n + m) c' := by obtain ⟨A', c', hv, _⟩ := k1.rd; exact ⟨A', c', hv⟩
  refine st_val hw (w' := w') ?_ (h _ _ _ _ k1 k2)
  simp only [execOp, ho, resolve, invoke, builtin, Sem.run_bind, Sem.run_pure, Result.andThen_ok, List.map_toArray, List.map_cons, List.map_nil, hx, hy, hrun]

theorem st_buildSlice {size bytes n : Nat} {z : Value} {parts : Array (Nat × Operand)} {cells : Array Value} (hO : Own w0 w C) (hw : Region.wanted o (yielded ops a.tmps) = true) (ho : o.op = .buildSlice t n parts)
    (h1 : SlOf P t T) (h2 : Zero P T z) (h3 : Siz P T size bytes) (hn : n * size ≤ 16777216)
    (hf : Instr.fill (fun i => some (i * size, size)) ((Array.range (n * size)).map (z.cells[· % z.cells.size]!)) (parts.map fun (i, x) => (i, a.eval x)).toList = some cells)
    (h : ∀ w' b, Own w0 w' ([(b, .cells cells T (0, 0))] :: C) → wpList P ops Q rest (a.put o.dst (.slice (some ⟨b, 0, none⟩) n n)) w') : wpList P ops Q (o :: rest) a w := by
  refine st_val hw (w' := w.alloc (.cells cells T)) ?_ (h _ _ (hO.alloc _))
  obtain ⟨i, hi, hz⟩ := h2.out
  by_cases h0 : n * size = 0
  · have hf' : Instr.fill (fun i => some (i * size, size)) #[] (parts.map fun (i, x) => (i, a.eval x)).toList = some cells := by simpa [h0, Array.range_zero'] using hf
    simp only [Array.toList_map] at hf'
    simp [execOp, ho, Instr.buildSlice, run_underlying h1.out, run_sizeOf_siz, h0, hf', newRow, Array.range_zero']
  · simp only [Array.toList_map] at hf
    simp [execOp, ho, Instr.buildSlice, run_underlying h1.out, run_sizeOf_siz, h0, Nat.not_lt.2 hn, run_zeroValue_, hf, newRow]

/-- A literal of elements: all of them are given, in order. -/
theorem st_lit {size bytes n : Nat} {z : Value} {parts : Array (Nat × Operand)} {vs : List Value} (hO : Own w0 w C) (hw : Region.wanted o (yielded ops a.tmps) = true) (ho : o.op = .buildSlice t n parts)
    (h1 : SlOf P t T) (h2 : Zero P T z) (h3 : Siz P T size bytes) (hn : n * size ≤ 16777216) (hzs : z.cells.size = size) (hp : (parts.map fun (i, x) => (i, a.eval x)).toList = (vs.zipIdx).map fun p => (p.2, p.1)) (hl : vs.length = n)
    (hv : vs.all (fun v => v.cells.size == size) = true)
    (h : ∀ w' b, Own w0 w' ([(b, .cells (flat vs) T (0, 0))] :: C) → wpList P ops Q rest (a.put o.dst (.slice (some ⟨b, 0, none⟩) n n)) w') : wpList P ops Q (o :: rest) a w := by
  refine st_buildSlice hO hw ho h1 h2 h3 hn ?_ h
  rw [hp]
  have := fill_flat size vs 0 [] ((Array.range (n * size)).map (z.cells[· % z.cells.size]!)).toList (fun v hv' => by simpa using List.all_eq_true.1 hv v hv') (by simp) (by simp [hl])
  rw [List.nil_append, Array.toArray_toList] at this
  rw [this]
  simp

theorem st_lit0 {size bytes : Nat} {z : Value} (hO : Own w0 w C) (hw : Region.wanted o (yielded ops a.tmps) = true) (ho : o.op = .buildSlice t 0 #[])
    (h1 : SlOf P t T) (h2 : Zero P T z) (h3 : Siz P T size bytes) (hzs : z.cells.size = size)
    (h : ∀ w' b, Sl T size (.slice (some ⟨b, 0, none⟩) 0 0) 0 [] [(b, .cells #[] T (0, 0))] → Own w0 w' ([(b, .cells #[] T (0, 0))] :: C) → wpList P ops Q rest (a.put o.dst (.slice (some ⟨b, 0, none⟩) 0 0)) w') : wpList P ops Q (o :: rest) a w :=
  st_lit (vs := []) hO hw ho h1 h2 h3 (by omega) hzs (by simp) rfl rfl (fun w' b hO' => h w' b Sl.lit0 (by simpa [flat] using hO'))
theorem st_lit1 {size bytes : Nat} {z v0 : Value} {x0 : Operand} (hO : Own w0 w C) (hw : Region.wanted o (yielded ops a.tmps) = true) (ho : o.op = .buildSlice t 1 #[(0, x0)])
    (h1 : SlOf P t T) (h2 : Zero P T z) (h3 : Siz P T size bytes) (hzs : z.cells.size = size) (hn : size ≤ 16) (he0 : a.eval x0 = v0) (hv0 : v0.cells.size = size)
    (h : ∀ w' b, Sl T size (.slice (some ⟨b, 0, none⟩) 1 1) 1 (v0.cells.toList) [(b, .cells (v0.cells) T (0, 0))] → Own w0 w' ([(b, .cells (v0.cells) T (0, 0))] :: C) → wpList P ops Q rest (a.put o.dst (.slice (some ⟨b, 0, none⟩) 1 1)) w') : wpList P ops Q (o :: rest) a w :=
  st_lit (vs := [v0]) hO hw ho h1 h2 h3 (by omega) hzs (by simp [he0]) rfl (by simp [hv0]) (fun w' b hO' => h w' b
    (by have := Sl.new (T := T) (size := size) (n := 1) (b := b) (cells := v0.cells) (by simp [hv0]; try omega) (by simp [maxLen]); simpa only [Array.toList_append] using this)
    (by simpa [flat] using hO'))
theorem st_lit2 {size bytes : Nat} {z v0 v1 : Value} {x0 x1 : Operand} (hO : Own w0 w C) (hw : Region.wanted o (yielded ops a.tmps) = true) (ho : o.op = .buildSlice t 2 #[(0, x0), (1, x1)])
    (h1 : SlOf P t T) (h2 : Zero P T z) (h3 : Siz P T size bytes) (hzs : z.cells.size = size) (hn : size ≤ 16) (he0 : a.eval x0 = v0) (he1 : a.eval x1 = v1) (hv0 : v0.cells.size = size) (hv1 : v1.cells.size = size)
    (h : ∀ w' b, Sl T size (.slice (some ⟨b, 0, none⟩) 2 2) 2 (v0.cells.toList ++ v1.cells.toList) [(b, .cells (v0.cells ++ v1.cells) T (0, 0))] → Own w0 w' ([(b, .cells (v0.cells ++ v1.cells) T (0, 0))] :: C) → wpList P ops Q rest (a.put o.dst (.slice (some ⟨b, 0, none⟩) 2 2)) w') : wpList P ops Q (o :: rest) a w :=
  st_lit (vs := [v0, v1]) hO hw ho h1 h2 h3 (by omega) hzs (by simp [he0, he1]) rfl (by simp [hv0, hv1]) (fun w' b hO' => h w' b
    (by have := Sl.new (T := T) (size := size) (n := 2) (b := b) (cells := v0.cells ++ v1.cells) (by simp [hv0, hv1]; try omega) (by simp [maxLen]); simpa only [Array.toList_append] using this)
    (by simpa only [flat, List.flatMap_cons, List.flatMap_nil, List.append_nil, arr_cat] using hO'))
theorem st_lit3 {size bytes : Nat} {z v0 v1 v2 : Value} {x0 x1 x2 : Operand} (hO : Own w0 w C) (hw : Region.wanted o (yielded ops a.tmps) = true) (ho : o.op = .buildSlice t 3 #[(0, x0), (1, x1), (2, x2)])
    (h1 : SlOf P t T) (h2 : Zero P T z) (h3 : Siz P T size bytes) (hzs : z.cells.size = size) (hn : size ≤ 16) (he0 : a.eval x0 = v0) (he1 : a.eval x1 = v1) (he2 : a.eval x2 = v2) (hv0 : v0.cells.size = size) (hv1 : v1.cells.size = size) (hv2 : v2.cells.size = size)
    (h : ∀ w' b, Sl T size (.slice (some ⟨b, 0, none⟩) 3 3) 3 (v0.cells.toList ++ v1.cells.toList ++ v2.cells.toList) [(b, .cells (v0.cells ++ v1.cells ++ v2.cells) T (0, 0))] → Own w0 w' ([(b, .cells (v0.cells ++ v1.cells ++ v2.cells) T (0, 0))] :: C) → wpList P ops Q rest (a.put o.dst (.slice (some ⟨b, 0, none⟩) 3 3)) w') : wpList P ops Q (o :: rest) a w :=
  st_lit (vs := [v0, v1, v2]) hO hw ho h1 h2 h3 (by omega) hzs (by simp [he0, he1, he2]) rfl (by simp [hv0, hv1, hv2]) (fun w' b hO' => h w' b
    (by have := Sl.new (T := T) (size := size) (n := 3) (b := b) (cells := v0.cells ++ v1.cells ++ v2.cells) (by simp [hv0, hv1, hv2]; try omega) (by simp [maxLen]); simpa only [Array.toList_append] using this)
    (by simpa only [flat, List.flatMap_cons, List.flatMap_nil, List.append_nil, arr_cat3] using hO'))
end

theorem Rd.sub {X : Chunk} {size : Nat} {A : Option Addr} {n c : Nat} {xs : List Value} (h : Rd X size (.slice A n c) n xs) {l k m : Nat} (hlk : l ≤ k) (hk : k ≤ n) (hkm : k ≤ m) (hm : m ≤ c) :
    Rd X size (.slice (if m = l then A else A.map (·.add (l * size))) (k - l) (m - l)) (k - l) ((xs.drop (l * size)).take ((k - l) * size)) := by
  obtain ⟨A', c', hv, hc, hl, hf⟩ := h
  injection hv with h1 h2 h3
  subst h1
  refine ⟨_, _, rfl, by omega, ?_, fun hn => ?_⟩
  · rw [List.length_take, List.length_drop, hl]
    have : (k - l) * size ≤ n * size - l * size := by rw [← Nat.sub_mul]; exact Nat.mul_le_mul_right _ (by omega)
    omega
  · obtain ⟨b, off, rfl, hcell⟩ := hf (by omega)
    rw [if_neg (by omega)]
    refine ⟨b, off + l * size, by simp [add_at], fun j u hu => ?_⟩
    rw [List.getElem?_take] at hu
    split at hu
    · rw [List.getElem?_drop] at hu
      rw [Nat.add_assoc]
      exact hcell _ u hu
    · cases hu

section
variable {P : Program} {ops : Array Oper} {rest : List Oper} {o : Oper} {a : Act} {w0 w w' : World} {Q : Exit → Act → World → Prop} {C C' CX : List Chunk} {T t : TypeId} {x y xl xh xm : Operand} {v : Value} {X : Chunk} {size bytes n : Nat} {xs : List Value}

theorem st_subFrom {k : IntKind} {i : Int} (hw : Region.wanted o (yielded ops a.tmps) = true) (ho : o.op = .slice t x (some xl) none none) (h1 : SlOf P t T) (h3 : Siz P T size bytes) (hx : a.eval x = v) (hr : Rd X size v n xs)
    (hl : a.eval xl = .int k i) (h0 : 0 ≤ i) (hi : i ≤ n) (h : ∀ A' c', Rd X size (.slice A' (n - i.toNat) c') (n - i.toNat) (xs.drop (i.toNat * size)) → wpList P ops Q rest (a.put o.dst (.slice A' (n - i.toNat) c')) w) : wpList P ops Q (o :: rest) a w := by
  obtain ⟨A, c, rfl, hc, hlen, hf⟩ := id hr
  have hs := Rd.sub hr (l := i.toNat) (k := n) (m := c) (by omega) (Nat.le_refl _) hc (Nat.le_refl _)
  rw [List.take_of_length_le (by rw [List.length_drop, hlen, ← Nat.sub_mul]; exact Nat.le_refl _)] at hs
  refine st_val hw ?_ (h _ _ hs)
  simp [execOp, ho, hx, hl, Instr.sliceAt, run_underlying h1.out, Instr.slice, Instr.sliceBounds, run_sliceBound (P := P) (w := w) k i n .sliceB h0 hi, run_sizeOf_siz]
theorem st_sub3 {k kh km : IntKind} {i j m : Int} (hw : Region.wanted o (yielded ops a.tmps) = true) (ho : o.op = .slice t x (some xl) (some xh) (some xm)) (h1 : SlOf P t T) (h3 : Siz P T size bytes) (hx : a.eval x = v) (hr : Rd X size v n xs)
    (hl : a.eval xl = .int k i) (hh : a.eval xh = .int kh j) (hm : a.eval xm = .int km m) (h0 : 0 ≤ i) (hij : i ≤ j) (hjm : j ≤ m) (hmn : m ≤ n)
    (h : ∀ A' c', Rd X size (.slice A' (j.toNat - i.toNat) c') (j.toNat - i.toNat) ((xs.drop (i.toNat * size)).take ((j.toNat - i.toNat) * size)) → wpList P ops Q rest (a.put o.dst (.slice A' (j.toNat - i.toNat) c')) w) : wpList P ops Q (o :: rest) a w := by
  obtain ⟨A, c, rfl, hc, hlen, hf⟩ := id hr
  have hs := Rd.sub hr (l := i.toNat) (k := j.toNat) (m := m.toNat) (by omega) (by omega) (by omega) (by omega)
  refine st_val hw ?_ (h _ _ hs)
  simp [execOp, ho, hx, hl, hh, hm, Instr.sliceAt, run_underlying h1.out, Instr.slice, Instr.sliceBounds, run_sliceBound (P := P) (w := w) km m c .slice3Acap (by omega) (by omega),
    run_sliceBound (P := P) (w := w) kh j m.toNat .slice3B (by omega) (by omega), run_sliceBound (P := P) (w := w) k i j.toNat .slice3C h0 (by omega), run_sizeOf_siz]
theorem st_subTo {kh : IntKind} {j : Int} (hw : Region.wanted o (yielded ops a.tmps) = true) (ho : o.op = .slice t x none (some xh) none) (h1 : SlOf P t T) (h3 : Siz P T size bytes) (hx : a.eval x = v) (hr : Rd X size v n xs)
    (hh : a.eval xh = .int kh j) (h0 : 0 ≤ j) (hjn : j ≤ n)
    (h : ∀ A' c', Rd X size (.slice A' j.toNat c') j.toNat (xs.take (j.toNat * size)) → wpList P ops Q rest (a.put o.dst (.slice A' j.toNat c')) w) : wpList P ops Q (o :: rest) a w := by
  obtain ⟨A, c, rfl, hc, hlen, hf⟩ := id hr
  have hs := Rd.sub hr (l := 0) (k := j.toNat) (m := c) (by omega) (by omega) (by omega) (by omega)
  simp only [Nat.zero_mul, List.drop_zero, Nat.sub_zero] at hs
  refine st_val hw ?_ (h _ _ hs)
  simp [execOp, ho, hx, hh, Instr.sliceAt, run_underlying h1.out, Instr.slice, Instr.sliceBounds,
    run_sliceBound (P := P) (w := w) kh j c .sliceAcap (by omega) (by omega), run_sizeOf_siz]
end

/-- The cells of a list of bytes. -/
def bys (l : List UInt8) : List Value := l.map fun b => .int .u8 (b.toNat : Int)
def strs (l : List ByteArray) : List Value := l.map fun s => .string s
theorem bys_length (l : List UInt8) : (bys l).length = l.length := by simp [bys]
theorem strs_length (l : List ByteArray) : (strs l).length = l.length := by simp [strs]
theorem bys_one (l : List UInt8) : ∀ u ∈ bys l, u.oneCell' = true := by
  intro u hu; obtain ⟨b, _, rfl⟩ := List.mem_map.1 hu; rfl
theorem strs_one (l : List ByteArray) : ∀ u ∈ strs l, u.oneCell' = true := by
  intro u hu; obtain ⟨b, _, rfl⟩ := List.mem_map.1 hu; rfl
theorem bys_append (l m : List UInt8) : bys (l ++ m) = bys l ++ bys m := by simp [bys]
theorem strs_append (l m : List ByteArray) : strs (l ++ m) = strs l ++ strs m := by simp [strs]
/-- A slice of bytes that reads as a list. -/
def RdB (X : Chunk) (v : Value) (l : List UInt8) : Prop := Rd X 1 v l.length (bys l)
def RdS (X : Chunk) (v : Value) (l : List ByteArray) : Prop := Rd X 1 v l.length (strs l)

theorem RdB.split {X : Chunk} {v : Value} {l : List UInt8} (h : RdB X v l) : ∃ A c, v = .slice A l.length c ∧ l.length ≤ c ∧ Hid (RdB X (.slice A l.length c) l) := Rd.split h
theorem RdS.split {X : Chunk} {v : Value} {l : List ByteArray} (h : RdS X v l) : ∃ A c, v = .slice A l.length c ∧ l.length ≤ c ∧ Hid (RdS X (.slice A l.length c) l) := Rd.split h

section
variable {P : Program} {ops : Array Oper} {rest : List Oper} {o : Oper} {a : Act} {w0 w w' : World} {Q : Exit → Act → World → Prop} {C C' CX : List Chunk} {T t t' : TypeId} {x y : Operand} {v : Value} {X : Chunk}

theorem st_bytesToStr {l : List UInt8} (hO : Own w0 w C) (hw : Region.wanted o (yielded ops a.tmps) = true) (ho : o.op = .convert t t' x) (h1 : SlOf P t T) (h2 : Byt P T) (h3 : Str P t') (hx : a.eval x = v) (hr : RdB X v l) (hX : Pick C X CX)
    (h : wpList P ops Q rest (a.put o.dst (.string ⟨l.toArray⟩)) w) : wpList P ops Q (o :: rest) a w := by
  refine st_val hw ?_ h
  obtain ⟨A, c, rfl, hc, hl, hf⟩ := hr
  have hrun : (convert t t' (.slice A l.length c)).run P w = .ok (.string ⟨l.toArray⟩) w := by
    rcases Nat.eq_zero_or_pos l.length with h0 | h0
    · have : l = [] := List.eq_nil_of_length_eq_zero h0
      subst this
      cases A with
      | none => exact run_convert_bytes_nil w t T h1.out h2.out 0 c t' h3.out
      | some ad => exact run_convert_bytes_back w t t' T ad c [] h1.out h2.out h3.out (by simp)
    · obtain ⟨b, off, rfl, hcell⟩ := hf h0
      refine run_convert_bytes_back w t t' T ⟨b, off, none⟩ c l h1.out h2.out h3.out (fun j hj => ?_)
      rw [add_at]
      exact hO.fcell hX (hcell j _ (by simp [bys, List.getElem?_eq_getElem hj]))
  simp [execOp, ho, hx, hrun]

theorem st_strToBytes {s : ByteArray} (hO : Own w0 w C) (hw : Region.wanted o (yielded ops a.tmps) = true) (ho : o.op = .convert t t' x) (h1 : Str P t) (h2 : SlOf P t' T) (h3 : Byt P T) (hx : a.eval x = .string s)
    (h : ∀ w' A' c' X, RdB X (.slice A' s.size c') s.data.toList → Own w0 w' (X :: C) → wpList P ops Q rest (a.put o.dst (.slice A' s.size c')) w') : wpList P ops Q (o :: rest) a w := by
  have hrun := run_bytes_of_string w t t' T s h1.out h2.out h3.out
  refine st_val hw (v := .slice (some ⟨w.heap.size, 0, none⟩) s.size (grownCap w s.size 0 T)) (w' := w.drew.alloc (.cells (bytesRow s (grownCap w s.size 0 T)) T ((bytesRow s (grownCap w s.size 0 T)).size, (bytesRow s (grownCap w s.size 0 T)).size + 1))) ?_ (h _ _ _ _ ?_ (hO.drew.alloc _))
  · simp [execOp, ho, hx, hrun]
  · refine ⟨_, _, rfl, grownCap_ge w s.size 0 T, by simp [bys_length], fun hn => ⟨w.heap.size, 0, rfl, fun j u hu => ⟨_, _, _, List.mem_singleton.2 rfl, rfl, ?_⟩⟩⟩
    simp only [bys, List.getElem?_map, Option.map_eq_some_iff] at hu
    obtain ⟨b, hb, rfl⟩ := hu
    have hj : j < s.data.size := by simpa using (List.getElem?_eq_some_iff.1 hb).1
    have hb' : s.data[j]? = some b := by simpa using hb
    simp [bytesRow, Array.getElem?_append, hj, Array.getElem?_eq_getElem hj] at hb' ⊢
    rw [if_pos (show j < s.size from hj), hb']
end

theorem rdB_bytes (b T : Nat) (s : ByteArray) (cap : Nat) (fr : Nat × Nat) (hc : s.size ≤ cap) : RdB [(b, .cells (bytesRow s cap) T fr)] (.slice (some ⟨b, 0, none⟩) s.size cap) s.data.toList := by
  refine ⟨_, _, rfl, hc, by simp [bys_length], fun hn => ⟨b, 0, rfl, fun j u hu => ⟨_, _, _, List.mem_singleton.2 rfl, rfl, ?_⟩⟩⟩
  simp only [bys, List.getElem?_map, Option.map_eq_some_iff] at hu
  obtain ⟨b, hb, rfl⟩ := hu
  have hj : j < s.data.size := by simpa using (List.getElem?_eq_some_iff.1 hb).1
  have hb' : s.data[j]? = some b := by simpa using hb
  simp [bytesRow, Array.getElem?_append, hj, Array.getElem?_eq_getElem hj] at hb' ⊢
  rw [if_pos (show j < s.size from hj), hb']
end Go.Proofs.Yteghmoijhcdpeaa
