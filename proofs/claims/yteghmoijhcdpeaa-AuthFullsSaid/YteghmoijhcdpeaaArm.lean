/- The walk's steps over chunks, each with the tactics that find what it needs: plain lemmas, used by all proofs of this seat. -/
import Derived.Test.YteghmoijhcdpeaaRow
set_option linter.unusedSimpArgs false
set_option linter.unusedVariables false
namespace Go.Proofs.Yteghmoijhcdpeaa
open Go.RowKit

/-! The kind of the next operation, told cheaply. -/
section
variable {P : Program} {ops : Array Oper} {Q : Exit → Act → World → Prop} {rest : List Oper} {a : Act} {w : World} {d : Option Tmp} {ty : TypeId} {p : String} {af : Array Edge} {g : Option (Nat × Bool)} {t u : TypeId} {x y : Operand} {n : Nat}
theorem is_load (h : wpList P ops Q (Oper.mk d (.load t x) ty p af g :: rest) a w) : wpList P ops Q (Oper.mk d (.load t x) ty p af g :: rest) a w := h
theorem is_store (h : wpList P ops Q (Oper.mk d (.store t x y) ty p af g :: rest) a w) : wpList P ops Q (Oper.mk d (.store t x y) ty p af g :: rest) a w := h
theorem is_alloc (h : wpList P ops Q (Oper.mk d (.alloc t) ty p af g :: rest) a w) : wpList P ops Q (Oper.mk d (.alloc t) ty p af g :: rest) a w := h
theorem is_box (h : wpList P ops Q (Oper.mk d (.box t x) ty p af g :: rest) a w) : wpList P ops Q (Oper.mk d (.box t x) ty p af g :: rest) a w := h
theorem is_lit {ps : Array (Nat × Operand)} (h : wpList P ops Q (Oper.mk d (.buildSlice t n ps) ty p af g :: rest) a w) : wpList P ops Q (Oper.mk d (.buildSlice t n ps) ty p af g :: rest) a w := h
theorem is_bin {bo : BinOp} (h : wpList P ops Q (Oper.mk d (.binOp bo t x y u) ty p af g :: rest) a w) : wpList P ops Q (Oper.mk d (.binOp bo t x y u) ty p af g :: rest) a w := h
theorem is_conv (h : wpList P ops Q (Oper.mk d (.convert t u x) ty p af g :: rest) a w) : wpList P ops Q (Oper.mk d (.convert t u x) ty p af g :: rest) a w := h
theorem is_sl {l h m : Option Operand} (H : wpList P ops Q (Oper.mk d (.slice t x l h m) ty p af g :: rest) a w) : wpList P ops Q (Oper.mk d (.slice t x l h m) ty p af g :: rest) a w := H
theorem is_call {c : Go.Call} (h : wpList P ops Q (Oper.mk d (.call c) ty p af g :: rest) a w) : wpList P ops Q (Oper.mk d (.call c) ty p af g :: rest) a w := h
theorem is_make (h : wpList P ops Q (Oper.mk d (.makeSlice t x y) ty p af g :: rest) a w) : wpList P ops Q (Oper.mk d (.makeSlice t x y) ty p af g :: rest) a w := h
theorem is_look {co : Bool} (h : wpList P ops Q (Oper.mk d (.lookup t x y co) ty p af g :: rest) a w) : wpList P ops Q (Oper.mk d (.lookup t x y co) ty p af g :: rest) a w := h
end
section
variable {P : Program} {ops : Array Oper} {rest : List Oper} {o : Oper} {a : Act} {w0 w w' : World} {Q : Exit → Act → World → Prop} {C C0 C' : List Chunk} {b off : Nat} {c c' : Array Value} {T t : TypeId} {fr : Nat × Nat} {x y : Operand} {v : Value}
theorem a_load (hO : Own w0 w C) (h : wpList P ops Q rest (a.put o.dst v) w) (hw : Region.wanted o (yielded ops a.tmps) = true := by rfl) (ho : o.op = .load t x := by rfl) (ha : a.eval x = .pointer (some ⟨b, off, none⟩) := by rfl) (hs : Scal P t := by infer_instance)
    (hp : Pick C [(b, .cells c T fr)] C' := by (focus (repeat (first | exact Pick.here | assumption | apply Pick.there))))
    (hc : c[off]? = some v := by (first | (simp only [List.getElem?_toArray, List.getElem?_cons_succ, List.getElem?_cons_zero]; rfl) | assumption | exact get_set_self (by assumption))) : wpList P ops Q (o :: rest) a w := st_load hO hw ho ha hs hp hc h
theorem a_loadA {n : Nat} (hO : Own w0 w C) (h : wpList P ops Q rest (a.put o.dst (.agg c)) w) (hw : Region.wanted o (yielded ops a.tmps) = true := by rfl) (ho : o.op = .load t x := by rfl) (ha : a.eval x = .pointer (some ⟨b, 0, none⟩) := by rfl) (hs : Agg P t n := by infer_instance)
    (hp : Pick C [(b, .cells c T fr)] C' := by (focus (repeat (first | exact Pick.here | assumption | apply Pick.there)))) (hc : c.size = n := by rfl) : wpList P ops Q (o :: rest) a w := st_loadA hO hw ho ha hs hp hc h
theorem a_store (hO : Own w0 w C) (h : ∀ w', Own w0 w' C' → wpList P ops Q rest (a.put o.dst undef) w') (hw : Region.wanted o (yielded ops a.tmps) = true := by rfl) (ho : o.op = .store t x y := by rfl) (ha : a.eval x = .pointer (some ⟨b, off, none⟩) := by rfl) (hs : Scal P t := by infer_instance)
    (hv : a.eval y = v := by (simp only [Act.eval, Array.getD_eq_getD_getElem?, List.getElem?_toArray, List.getElem?_cons_succ, List.getElem?_cons_zero, Option.getD_some]; rfl)) (h1 : v.oneCell' = true := by rfl)
    (hp0 : Pick C [(b, .cells c T (0, 0))] C0 := by (focus (repeat (first | exact Pick.here | apply Pick.there))))
    (hcc : c.setIfInBounds off v = c' := by (first | (simp only [List.setIfInBounds_toArray, List.set_cons_succ, List.set_cons_zero]; rfl) | rfl))
    (hp : Repl C [(b, .cells c T (0, 0))] [(b, .cells c' T (0, 0))] C' := by (focus (repeat (first | exact Repl.here | apply Repl.there)))) (hlt : off < c.size := by (first | assumption | decide | simp)) : wpList P ops Q (o :: rest) a w := by
  subst hcc
  exact st_store hO hw ho ha hs hv h1 hp hlt h
theorem a_storeA {n : Nat} {cs : Array Value} (hO : Own w0 w C) (h : ∀ w', Own w0 w' C' → wpList P ops Q rest (a.put o.dst undef) w') (hw : Region.wanted o (yielded ops a.tmps) = true := by rfl) (ho : o.op = .store t x y := by rfl) (ha : a.eval x = .pointer (some ⟨b, 0, none⟩) := by rfl) (hs : Agg P t n := by infer_instance)
    (hv : a.eval y = .agg cs := by (simp only [Act.eval, Array.getD_eq_getD_getElem?, List.getElem?_toArray, List.getElem?_cons_succ, List.getElem?_cons_zero, Option.getD_some]; rfl))
    (hp : Repl C [(b, .cells c T (0, 0))] [(b, .cells cs T (0, 0))] C' := by (focus (repeat (first | exact Repl.here | apply Repl.there)))) (hn : cs.size = n := by rfl) (hn' : c.size = n := by rfl) (h1 : cs.toList.all (·.oneCell') = true := by rfl) : wpList P ops Q (o :: rest) a w := st_storeA hO hw ho ha hs hv hp hn hn' h1 h
theorem a_alloc {z : Value} (hO : Own w0 w C) (h : ∀ w' b, Own w0 w' ([(b, .cells c' t (0, 0))] :: C) → wpList P ops Q rest (a.put o.dst (.pointer (some ⟨b, 0, none⟩))) w') (hw : Region.wanted o (yielded ops a.tmps) = true := by rfl) (ho : o.op = .alloc t := by rfl) (hz : Zero P t z := by infer_instance)
    (hcc : z.cells = c' := by (first | (simp only [Value.cells]; rfl) | rfl)) : wpList P ops Q (o :: rest) a w := by
  subst hcc
  exact st_alloc hO hw ho hz h
theorem a_box (hO : Own w0 w C) (h : ∀ w' b, Own w0 w' ([(b, .cells c' t (0, 0))] :: C) → wpList P ops Q rest (a.put o.dst (.pointer (some ⟨b, 0, none⟩))) w') (hw : Region.wanted o (yielded ops a.tmps) = true := by rfl) (ho : o.op = .box t x := by rfl)
    (hv : a.eval x = v := by (simp only [Act.eval, Array.getD_eq_getD_getElem?, List.getElem?_toArray, List.getElem?_cons_succ, List.getElem?_cons_zero, Option.getD_some]; rfl)) (hcc : v.cells = c' := by (first | (simp only [Value.cells]; rfl) | rfl)) : wpList P ops Q (o :: rest) a w := by
  subst hcc
  exact st_box hO hw ho hv h
theorem a_lit0 {size bytes : Nat} {z : Value} (hO : Own w0 w C) (h : ∀ w' b, Sl T size (.slice (some ⟨b, 0, none⟩) 0 0) 0 [] [(b, .cells #[] T (0, 0))] → Own w0 w' ([(b, .cells #[] T (0, 0))] :: C) → wpList P ops Q rest (a.put o.dst (.slice (some ⟨b, 0, none⟩) 0 0)) w')
    (hw : Region.wanted o (yielded ops a.tmps) = true := by rfl) (ho : o.op = .buildSlice t 0 #[] := by rfl) (h1 : SlOf P t T := by infer_instance) (h2 : Zero P T z := by infer_instance) (h3 : Siz P T size bytes := by infer_instance) (hzs : z.cells.size = size := by rfl) : wpList P ops Q (o :: rest) a w :=
  st_lit0 hO hw ho h1 h2 h3 hzs h
theorem a_lit1 {size bytes : Nat} {z v0 : Value} {x0 : Operand} {l : List Value} (hO : Own w0 w C) (h : ∀ w' b, Sl T size (.slice (some ⟨b, 0, none⟩) 1 1) 1 l [(b, .cells c' T (0, 0))] → Own w0 w' ([(b, .cells c' T (0, 0))] :: C) → wpList P ops Q rest (a.put o.dst (.slice (some ⟨b, 0, none⟩) 1 1)) w')
    (hw : Region.wanted o (yielded ops a.tmps) = true := by rfl) (ho : o.op = .buildSlice t 1 #[(0, x0)] := by rfl) (h1 : SlOf P t T := by infer_instance) (h2 : Zero P T z := by infer_instance) (h3 : Siz P T size bytes := by infer_instance) (hzs : z.cells.size = size := by rfl) (hn : size ≤ 16 := by decide)
    (he0 : a.eval x0 = v0 := by (simp only [Act.eval, Array.getD_eq_getD_getElem?, List.getElem?_toArray, List.getElem?_cons_succ, List.getElem?_cons_zero, Option.getD_some]; rfl)) (hv0 : v0.cells.size = size := by rfl)
    (hcc : v0.cells = c' := by (first | (simp only [Value.cells]; rfl) | rfl)) (hll : v0.cells.toList = l := by (first | (simp only [Value.cells]; rfl) | rfl)) : wpList P ops Q (o :: rest) a w := by
  subst hcc hll
  exact st_lit1 hO hw ho h1 h2 h3 hzs hn he0 hv0 h
theorem a_lit2 {size bytes : Nat} {z v0 v1 : Value} {x0 x1 : Operand} {l : List Value} (hO : Own w0 w C) (h : ∀ w' b, Sl T size (.slice (some ⟨b, 0, none⟩) 2 2) 2 l [(b, .cells c' T (0, 0))] → Own w0 w' ([(b, .cells c' T (0, 0))] :: C) → wpList P ops Q rest (a.put o.dst (.slice (some ⟨b, 0, none⟩) 2 2)) w')
    (hw : Region.wanted o (yielded ops a.tmps) = true := by rfl) (ho : o.op = .buildSlice t 2 #[(0, x0), (1, x1)] := by rfl) (h1 : SlOf P t T := by infer_instance) (h2 : Zero P T z := by infer_instance) (h3 : Siz P T size bytes := by infer_instance) (hzs : z.cells.size = size := by rfl) (hn : size ≤ 16 := by decide)
    (he0 : a.eval x0 = v0 := by (simp only [Act.eval, Array.getD_eq_getD_getElem?, List.getElem?_toArray, List.getElem?_cons_succ, List.getElem?_cons_zero, Option.getD_some]; rfl)) (he1 : a.eval x1 = v1 := by (simp only [Act.eval, Array.getD_eq_getD_getElem?, List.getElem?_toArray, List.getElem?_cons_succ, List.getElem?_cons_zero, Option.getD_some]; rfl)) (hv0 : v0.cells.size = size := by rfl) (hv1 : v1.cells.size = size := by rfl)
    (hcc : v0.cells ++ v1.cells = c' := by (first | (simp only [Value.cells, List.append_toArray, List.cons_append, List.nil_append]; rfl) | rfl)) (hll : v0.cells.toList ++ v1.cells.toList = l := by (first | (simp only [Value.cells, List.cons_append, List.nil_append]; rfl) | rfl)) : wpList P ops Q (o :: rest) a w := by
  subst hcc hll
  exact st_lit2 hO hw ho h1 h2 h3 hzs hn he0 he1 hv0 hv1 h
theorem a_lit3 {size bytes : Nat} {z v0 v1 v2 : Value} {x0 x1 x2 : Operand} {l : List Value} (hO : Own w0 w C) (h : ∀ w' b, Sl T size (.slice (some ⟨b, 0, none⟩) 3 3) 3 l [(b, .cells c' T (0, 0))] → Own w0 w' ([(b, .cells c' T (0, 0))] :: C) → wpList P ops Q rest (a.put o.dst (.slice (some ⟨b, 0, none⟩) 3 3)) w')
    (hw : Region.wanted o (yielded ops a.tmps) = true := by rfl) (ho : o.op = .buildSlice t 3 #[(0, x0), (1, x1), (2, x2)] := by rfl) (h1 : SlOf P t T := by infer_instance) (h2 : Zero P T z := by infer_instance) (h3 : Siz P T size bytes := by infer_instance) (hzs : z.cells.size = size := by rfl) (hn : size ≤ 16 := by decide)
    (he0 : a.eval x0 = v0 := by (simp only [Act.eval, Array.getD_eq_getD_getElem?, List.getElem?_toArray, List.getElem?_cons_succ, List.getElem?_cons_zero, Option.getD_some]; rfl)) (he1 : a.eval x1 = v1 := by (simp only [Act.eval, Array.getD_eq_getD_getElem?, List.getElem?_toArray, List.getElem?_cons_succ, List.getElem?_cons_zero, Option.getD_some]; rfl)) (he2 : a.eval x2 = v2 := by (simp only [Act.eval, Array.getD_eq_getD_getElem?, List.getElem?_toArray, List.getElem?_cons_succ, List.getElem?_cons_zero, Option.getD_some]; rfl))
    (hv0 : v0.cells.size = size := by rfl) (hv1 : v1.cells.size = size := by rfl) (hv2 : v2.cells.size = size := by rfl)
    (hcc : v0.cells ++ v1.cells ++ v2.cells = c' := by (first | (simp only [Value.cells, List.append_toArray, List.cons_append, List.nil_append]; rfl) | rfl)) (hll : v0.cells.toList ++ v1.cells.toList ++ v2.cells.toList = l := by (first | (simp only [Value.cells, List.cons_append, List.nil_append]; rfl) | rfl)) : wpList P ops Q (o :: rest) a w := by
  subst hcc hll
  exact st_lit3 hO hw ho h1 h2 h3 hzs hn he0 he1 he2 hv0 hv1 hv2 h
end
end Go.Proofs.Yteghmoijhcdpeaa
