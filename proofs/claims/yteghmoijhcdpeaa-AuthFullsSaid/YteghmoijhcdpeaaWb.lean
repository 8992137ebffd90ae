/- The walk's rules for the operations on memory and on typed values: plain lemmas, used by all proofs of this seat. -/
import Derived.Test.YteghmoijhcdpeaaWa
set_option linter.unusedSimpArgs false
set_option linter.unusedVariables false
namespace Go.Proofs.Yteghmoijhcdpeaa
open Go.RowKit

/-- A block out of the memory by its number; what is left. -/
class PickB (S : List Chunk) (b : Nat) (o : outParam Obj) (S' : outParam (List Chunk)) : Prop where
  out : S.flatten.Perm ((b, o) :: S'.flatten)
instance (priority := high) {S : List Chunk} {b : Nat} {o : Obj} : PickB ([(b, o)] :: S) b o S := ⟨by simp⟩
instance (priority := high) {S : List Chunk} {x : Chunk} {b : Nat} {o : Obj} : PickB (((b, o) :: x) :: S) b o (x :: S) := ⟨by simp⟩
theorem perm_in {α : Type} {A B : List α} {a p : α} (h : A.Perm (a :: B)) : (p :: A).Perm (a :: p :: B) := (h.cons p).trans (List.Perm.swap a p B)
instance {S S' : List Chunk} {x : Chunk} {p : Nat × Obj} {b : Nat} {o : Obj} [h : PickB (x :: S) b o S'] : PickB ((p :: x) :: S) b o ([p] :: S') := ⟨by
  have := perm_in (p := p) h.out
  simpa using this⟩
theorem perm_app {α : Type} {A B : List α} {a : α} (x : List α) (h : A.Perm (a :: B)) : (x ++ A).Perm (a :: (x ++ B)) :=
  (List.Perm.append_left x h).trans List.perm_middle
instance (priority := low) {S S' : List Chunk} {x : Chunk} {b : Nat} {o : Obj} [h : PickB S b o S'] : PickB (x :: S) b o (x :: S') := ⟨by
  have := perm_app x h.out
  simpa using this⟩
/-- A chunk out of the memory. -/
class PickC (S : List Chunk) (x : Chunk) (S' : outParam (List Chunk)) : Prop where
  out : S.flatten.Perm (x ++ S'.flatten)
instance (priority := high) {S : List Chunk} {x : Chunk} : PickC (x :: S) x S := ⟨by simp⟩
instance (priority := low) {S S' : List Chunk} {x y : Chunk} [h : PickC S x S'] : PickC (y :: S) x (y :: S') := ⟨by
  have h1 := List.Perm.append_left y h.out
  have h2 : (y ++ (x ++ S'.flatten)).Perm (x ++ (y ++ S'.flatten)) := by
    rw [← List.append_assoc, ← List.append_assoc]
    exact List.Perm.append_right _ List.perm_append_comm
  simpa using h1.trans h2⟩
instance (priority := high) {A B : List Chunk} {x : Chunk} : PickC ((x :: A) ++ B) x (A ++ B) := ⟨by simp⟩
instance {A B S' : List Chunk} {x y : Chunk} [h : PickC (A ++ B) x S'] : PickC ((y :: A) ++ B) x (y :: S') := ⟨(inferInstance : PickC (y :: (A ++ B)) x (y :: S')).out⟩
instance {B S' : List Chunk} {x : Chunk} [h : PickC B x S'] : PickC ([] ++ B) x S' := h
instance (priority := high) {A B : List Chunk} {b : Nat} {o : Obj} : PickB (([(b, o)] :: A) ++ B) b o (A ++ B) := ⟨by simp⟩
instance (priority := high) {A B : List Chunk} {x : Chunk} {b : Nat} {o : Obj} : PickB ((((b, o) :: x) :: A) ++ B) b o ((x :: A) ++ B) := ⟨by simp⟩
instance {A B S' : List Chunk} {x : Chunk} {p : Nat × Obj} {b : Nat} {o : Obj} [h : PickB ((x :: A) ++ B) b o S'] : PickB (((p :: x) :: A) ++ B) b o ([p] :: S') := ⟨by
  have := perm_in (p := p) h.out
  simpa using this⟩
instance (priority := low) {A B S' : List Chunk} {x : Chunk} {b : Nat} {o : Obj} [h : PickB (A ++ B) b o S'] : PickB ((x :: A) ++ B) b o (x :: S') := ⟨(inferInstance : PickB (x :: (A ++ B)) b o (x :: S')).out⟩
instance {B S' : List Chunk} {b : Nat} {o : Obj} [h : PickB B b o S'] : PickB ([] ++ B) b o S' := h
/-- Some chunks out of the memory. -/
class Sub (S A : List Chunk) (B : outParam (List Chunk)) : Prop where
  out : S.flatten.Perm (A.flatten ++ B.flatten)
instance {S : List Chunk} : Sub S [] S := ⟨by simp⟩
instance (priority := high) {S S' A B : List Chunk} {x : Chunk} [h1 : PickC S x S'] [h2 : Sub S' A B] : Sub S (x :: A) B := ⟨by
  have := h1.out.trans (List.Perm.append_left x h2.out)
  simpa using this⟩
instance {S A B : List Chunk} [h : Sub S A B] : Sub S ([] :: A) B := ⟨by simpa using h.out⟩
instance {S S' A B : List Chunk} {b : Nat} {o : Obj} {x : Chunk} [h1 : PickB S b o S'] [h2 : Sub S' (x :: A) B] : Sub S (((b, o) :: x) :: A) B := ⟨by
  have := h1.out.trans (List.Perm.cons (b, o) h2.out)
  simpa using this⟩

instance {S A B : List Chunk} {x y : Chunk} [h : Sub S (x :: y :: A) B] : Sub S ((x ++ y) :: A) B := ⟨by simpa using h.out⟩
instance (priority := low) {S S' : List Chunk} {x y z : Chunk} [h : PickC (x :: y :: S) z S'] : PickC ((x ++ y) :: S) z S' := ⟨by simpa using h.out⟩
theorem Own.pickB {w0 w : World} {S S' C : List Chunk} {b : Nat} {o : Obj} (hO : Own w0 w (S ++ C)) [h : PickB S b o S'] : Own w0 w ([(b, o)] :: (S' ++ C)) :=
  hO.perm (by simpa using List.Perm.append_right C.flatten h.out)
theorem Own.sub {w0 w : World} {S A B C : List Chunk} (hO : Own w0 w (S ++ C)) [h : Sub S A B] : Own w0 w (A ++ (B ++ C)) :=
  hO.perm (by simpa using List.Perm.append_right C.flatten h.out)

theorem Own.one {w0 w : World} {S S' C : List Chunk} {x : Chunk} (hO : Own w0 w (S ++ C)) [h : PickC S x S'] : Own w0 w (x :: (S' ++ C)) :=
  hO.perm (by simpa using List.Perm.append_right C.flatten h.out)
theorem Own.obj {w0 w : World} {S S' C : List Chunk} {b : Nat} {o : Obj} (hO : Own w0 w (S ++ C)) [h : PickB S b o S'] : w.heap[b]? = some o := (hO.pickB (h := h)).block1 .here
/-- A list with one place written. -/
def setO {α : Type} : List α → Nat → α → Option (List α)
  | [], _, _ => none
  | _ :: l, 0, v => some (v :: l)
  | x :: l, i + 1, v => match setO l i v with
    | some l' => some (x :: l')
    | none => none
theorem setO_eq {α : Type} {v : α} : ∀ {l l' : List α} {i : Nat}, setO l i v = some l' → l.set i v = l' ∧ i < l.length := by
  intro l
  induction l with
  | nil => intro l' i h; cases h
  | cons x l ih =>
    intro l' i h
    cases i with
    | zero => simp [setO] at h; simp [h]
    | succ i =>
      unfold setO at h
      split at h
      · rename_i l2 h2
        simp only [Option.some.injEq] at h
        subst h
        obtain ⟨h3, h4⟩ := ih h2
        simp [h3, h4]
      · cases h

/-- A field's place. -/
class FldO (P : Program) (s f : Nat) (off : outParam Nat) : Prop where
  out : ∃ fs fd i, P.underlying s = some (.struct fs) ∧ fs[f]? = some fd ∧ fd.offset = off ∧ P.info? fd.type = some i ∧ i.size ≠ 0
def fldB (P : Program) (s f off : Nat) : Bool := match P.underlying s with
  | some (.struct fs) => match fs[f]? with
    | some fd => fd.offset == off && (match P.info? fd.type with | some i => i.size != 0 | none => false)
    | none => false
  | _ => false
theorem FldO.of {P : Program} {s f off : Nat} (h : fldB P s f off = true) : FldO P s f off := by
  unfold fldB at h
  split at h
  · rename_i fs hs
    split at h
    · rename_i fd hf
      simp only [Bool.and_eq_true, beq_iff_eq] at h
      obtain ⟨h1, h2⟩ := h
      split at h2
      · rename_i i hi
        exact ⟨fs, fd, i, hs, hf, h1, hi, by simpa using h2⟩
      · cases h2
    · cases h
  · cases h
theorem run_fieldAt {P : Program} {s f off : Nat} [h : FldO P s f off] (b o : Nat) (w : World) : (Instr.fieldAt s (.pointer (some ⟨b, o, none⟩)) f).run P w = .ok (.pointer (some ⟨b, o + off, none⟩)) w := by
  obtain ⟨fs, fd, i, h1, h2, h3, h4, h5⟩ := h.out
  simp [Instr.fieldAt, run_underlying h1, h2, Instr.sureAddr, fieldPlace, sizeOf, typeInfo, h4, h5, add_at, h3]

/-- A field's place and size, of one cell or of several. -/
class FldS (P : Program) (s f : Nat) (off : outParam Nat) : Prop where
  out : ∃ fs fd, P.underlying s = some (.struct fs) ∧ fs[f]? = some fd ∧ fd.offset = off ∧ Scal P fd.type
class FldA (P : Program) (s f : Nat) (off m : outParam Nat) : Prop where
  out : ∃ fs fd, P.underlying s = some (.struct fs) ∧ fs[f]? = some fd ∧ fd.offset = off ∧ Agg P fd.type m
def fldT (P : Program) (s f : Nat) : Option (TypeId × Nat) := match P.underlying s with
  | some (.struct fs) => (fs[f]?).map fun fd => (fd.type, fd.offset)
  | _ => none
theorem fldT_out {P : Program} {s f t off : Nat} (h : fldT P s f = some (t, off)) : ∃ fs fd, P.underlying s = some (.struct fs) ∧ fs[f]? = some fd ∧ fd.offset = off ∧ fd.type = t := by
  unfold fldT at h
  split at h
  · rename_i fs hs
    obtain ⟨fd, h1, h2⟩ := Option.map_eq_some_iff.1 h
    simp only [Prod.mk.injEq] at h2
    exact ⟨fs, fd, hs, h1, h2.2, h2.1⟩
  · cases h
theorem FldS.of {P : Program} {s f t off : Nat} (h : fldT P s f = some (t, off)) [hs : Scal P t] : FldS P s f off := by
  obtain ⟨fs, fd, h1, h2, h3, rfl⟩ := fldT_out h
  exact ⟨fs, fd, h1, h2, h3, hs⟩
theorem FldA.of {P : Program} {s f t off m : Nat} (h : fldT P s f = some (t, off)) [hs : Agg P t m] : FldA P s f off m := by
  obtain ⟨fs, fd, h1, h2, h3, rfl⟩ := fldT_out h
  exact ⟨fs, fd, h1, h2, h3, hs⟩
/-- The places of a struct's fields. -/
class Plc (P : Program) (t : TypeId) (pl : outParam (List (Nat × Nat))) : Prop where
  out : ∃ fs, P.underlying t = some (.struct fs) ∧ fs.toList.mapM (fun f => (P.info? f.type).map fun i => (f.offset, i.size)) = some pl
def plcB (P : Program) (t : TypeId) : Option (List (Nat × Nat)) := match P.underlying t with
  | some (.struct fs) => fs.toList.mapM (fun f => (P.info? f.type).map fun i => (f.offset, i.size))
  | _ => none
theorem Plc.of {P : Program} {t : TypeId} {pl : List (Nat × Nat)} (h : plcB P t = some pl) : Plc P t pl := by
  unfold plcB at h
  split at h
  · rename_i fs hs; exact ⟨fs, hs, h⟩
  · cases h

class PtrT (P : Program) (t : TypeId) : Prop where
  out : ∃ e, P.underlying t = some (.pointer e)
class MapT (P : Program) (t : TypeId) (k e : outParam TypeId) : Prop where
  out : P.underlying t = some (.map k e)
class IntT (P : Program) (t : TypeId) (k : outParam IntKind) : Prop where
  out : P.underlying t = some (.int k)

/-- Whole numbers as natural ones. -/
class ToNat (i : Int) (k : outParam Nat) : Prop where
  out : i = (k : Int)
instance {k : Nat} : ToNat (k : Int) k := ⟨rfl⟩
instance {k : Nat} : ToNat (OfNat.ofNat k : Int) k := ⟨rfl⟩
instance {i : Int} {k : Nat} [h : ToNat i k] : ToNat (i + 1) (k + 1) := ⟨by simp [h.out]⟩
instance {i j : Int} {k l : Nat} [h : ToNat i k] [h' : ToNat j l] : ToNat (i + j) (k + l) := ⟨by simp [h.out, h'.out]⟩

/-- A piece of a list; a list with a piece put over it. -/
def takeO {α : Type} : List α → Nat → Option (List α)
  | _, 0 => some []
  | [], _ + 1 => none
  | x :: l, n + 1 => match takeO l n with
    | some l' => some (x :: l')
    | none => none
def sliceO {α : Type} : List α → Nat → Nat → Option (List α)
  | l, 0, n => takeO l n
  | [], _ + 1, _ => none
  | _ :: l, o + 1, n => sliceO l o n
def putO {α : Type} : List α → Nat → List α → Option (List α)
  | l, _, [] => some l
  | [], _, _ :: _ => none
  | _ :: l, 0, v :: vs => match putO l 0 vs with
    | some l' => some (v :: l')
    | none => none
  | x :: l, o + 1, v :: vs => match putO l o (v :: vs) with
    | some l' => some (x :: l')
    | none => none
theorem takeO_eq {α : Type} : ∀ (l : List α) (n : Nat) (l' : List α), takeO l n = some l' → l' = l.take n ∧ n ≤ l.length := by
  intro l
  induction l with
  | nil => intro n l' h; cases n <;> simp [takeO] at h ⊢; exact h
  | cons x l ih =>
    intro n l' h
    cases n with
    | zero => simp [takeO] at h ⊢; exact h
    | succ n =>
      unfold takeO at h
      split at h
      · rename_i l2 h2
        simp only [Option.some.injEq] at h
        obtain ⟨rfl, h4⟩ := ih n l2 h2
        subst h
        simp [h4]
      · cases h
theorem sliceO_eq {α : Type} : ∀ (l : List α) (o n : Nat) (l' : List α), sliceO l o n = some l' → l' = (l.drop o).take n ∧ o + n ≤ l.length := by
  intro l
  induction l with
  | nil =>
    intro o n l' h
    cases o with
    | zero => have := takeO_eq _ _ _ h; simpa using this
    | succ o => cases h
  | cons x l ih =>
    intro o n l' h
    cases o with
    | zero => have := takeO_eq _ _ _ h; simpa using this
    | succ o =>
      obtain ⟨h1, h2⟩ := ih o n l' h
      exact ⟨by simpa using h1, by simp; omega⟩
theorem putO_eq {α : Type} : ∀ (l : List α) (o : Nat) (vs l' : List α), putO l o vs = some l' → l' = l.take o ++ vs ++ l.drop (o + vs.length) ∧ (vs = [] ∨ o + vs.length ≤ l.length) := by
  intro l
  induction l with
  | nil =>
    intro o vs l' h
    cases vs with
    | nil => simp [putO] at h ⊢; first | exact h | exact h.symm
    | cons v vs => cases h
  | cons x l ih =>
    intro o vs l' h
    cases vs with
    | nil => simp [putO] at h ⊢; first | exact h | exact h.symm
    | cons v vs =>
      cases o with
      | zero =>
        unfold putO at h
        split at h
        · rename_i l2 h2
          simp only [Option.some.injEq] at h
          obtain ⟨rfl, h4⟩ := ih 0 vs l2 h2
          subst h
          refine ⟨by simp, .inr ?_⟩
          rcases h4 with rfl | h4
          · simp
          · simp at h4 ⊢; omega
        · cases h
      | succ o =>
        unfold putO at h
        split at h
        · rename_i l2 h2
          simp only [Option.some.injEq] at h
          obtain ⟨rfl, h4⟩ := ih o (v :: vs) l2 h2
          subst h
          refine ⟨by
            have e : o + 1 + (v :: vs).length = (o + (v :: vs).length) + 1 := by omega
            rw [e]; simp, .inr ?_⟩
          rcases h4 with h4 | h4
          · cases h4
          · simp at h4 ⊢; omega
        · cases h

def isOne : Value → Bool
  | .agg _ => false
  | .tuple _ => false
  | _ => true
theorem isOne_one {v : Value} (h : isOne v = true) : v.oneCell' = true := by cases v <;> first | rfl | cases h
theorem isOne_cells {v : Value} (h : isOne v = true) : v.cells = #[v] := by cases v <;> first | rfl | cases h

section
variable {P : Program} {E : Env} {n : Nat} {k : List K} {fr fr' : Fr} {S S' : List Chunk} {all rest : List Oper} {o : Oper} {d : Option Nat} {op : Op} {ty : TypeId} {pos : String} {after : Array Edge} {g : Option (Nat × Bool)}
  {t : TypeId} {x y : Operand} {b off : Nat} {v : Value} {c : Array Value} {T : TypeId} {fz : Nat × Nat}

theorem W.load [hs : Scal P t] (k' : W P E n k (fput d v fr) S) (hx : ev fr x = some (.pointer (some ⟨b, off, none⟩)) := by rfl) (hp : PickB S b (.cells c T fz) S' := by infer_instance) (hc : nth c.toList off = some v := by rfl)
    (hg : wants all fr ⟨d, .load t x, ty, pos, after, g⟩ = some true := by rfl) (hd : okD d n = true := by rfl) : W P E n (.op all ⟨d, .load t x, ty, pos, after, g⟩ :: k) fr S :=
  W.val (v := v) k' hg hd fun a w ha hO => ⟨w, by
    have hb := (hO.pickB (h := hp)).block1 .here
    have hc' : c[off]? = some v := by rw [nth_eq] at hc; simpa using hc
    simp [execOp, ha.evv hx, Instr.loadAt, Instr.sureAddr, run_loadVar_one ((cell_at hb).trans hc')], hO⟩
theorem W.loadA {m : Nat} [hs : Agg P t m] (k' : W P E n k (fput d (.agg c) fr) S) (hx : ev fr x = some (.pointer (some ⟨b, 0, none⟩)) := by rfl) (hp : PickB S b (.cells c T fz) S' := by infer_instance) (hc : c.size = m := by rfl)
    (hg : wants all fr ⟨d, .load t x, ty, pos, after, g⟩ = some true := by rfl) (hd : okD d n = true := by rfl) : W P E n (.op all ⟨d, .load t x, ty, pos, after, g⟩ :: k) fr S :=
  W.val (v := .agg c) k' hg hd fun a w ha hO => ⟨w, by
    have hb := (hO.pickB (h := hp)).block1 .here
    have := run_loadVar_agg (P := P) (t := t) (w := w) (b := b) (off := 0) (l := c.toList) (by simpa using hc) (fun j v hv => by rw [cell_at hb]; simpa using hv)
    simp [execOp, ha.evv hx, Instr.loadAt, Instr.sureAddr, this], hO⟩
theorem W.loadP {m : Nat} {l : List Value} [hs : Agg P t m] (k' : W P E n k (fput d (.agg ⟨l⟩) fr) S) (hx : ev fr x = some (.pointer (some ⟨b, off, none⟩)) := by rfl) (hp : PickB S b (.cells c T fz) S' := by infer_instance) (hc : sliceO c.toList off m = some l := by rfl)
    (hg : wants all fr ⟨d, .load t x, ty, pos, after, g⟩ = some true := by rfl) (hd : okD d n = true := by rfl) : W P E n (.op all ⟨d, .load t x, ty, pos, after, g⟩ :: k) fr S :=
  W.val (v := .agg ⟨l⟩) k' hg hd fun a w ha hO => ⟨w, by
    have hb := (hO.pickB (h := hp)).block1 .here
    obtain ⟨rfl, hle⟩ := sliceO_eq _ _ _ _ hc
    have := run_loadVar_agg (P := P) (t := t) (w := w) (b := b) (off := off) (l := (c.toList.drop off).take m) (by simp at hle ⊢; omega) (fun j v hv => by
      rw [cell_at hb]
      rw [List.getElem?_take] at hv
      split at hv
      · simpa using hv
      · cases hv)
    simp [execOp, ha.evv hx, Instr.loadAt, Instr.sureAddr, this], hO⟩
/-- Two loads out of memory that is only known by its cells. -/
theorem W.loadF {F : Chunk} {p : Addr} (hc : FCell F p v) [hs : Scal P t] [hp : PickC S F S'] (k' : W P E n k (fput d v fr) S) (hx : ev fr x = some (.pointer (some p)) := by rfl)
    (hg : wants all fr ⟨d, .load t x, ty, pos, after, g⟩ = some true := by rfl) (hd : okD d n = true := by rfl) : W P E n (.op all ⟨d, .load t x, ty, pos, after, g⟩ :: k) fr S :=
  W.val (v := v) k' hg hd fun a w ha hO => ⟨w, by
    have hO' : Own E.w0 w (F :: (S' ++ E.C)) := hO.perm (by simpa using List.Perm.append_right E.C.flatten hp.out)
    simp [execOp, ha.evv hx, Instr.loadAt, Instr.sureAddr, run_loadVar_one (hO'.fcell .here hc)], hO⟩
theorem W.loadAF {F : Chunk} {m : Nat} {l : List Value} (hc : ∀ j v, l[j]? = some v → FCell F ⟨b, off + j, none⟩ v) [hs : Agg P t m] [hp : PickC S F S'] (k' : W P E n k (fput d (.agg l.toArray) fr) S) (hx : ev fr x = some (.pointer (some ⟨b, off, none⟩)) := by rfl) (hl : l.length = m := by rfl)
    (hg : wants all fr ⟨d, .load t x, ty, pos, after, g⟩ = some true := by rfl) (hd : okD d n = true := by rfl) : W P E n (.op all ⟨d, .load t x, ty, pos, after, g⟩ :: k) fr S :=
  W.val (v := .agg l.toArray) k' hg hd fun a w ha hO => ⟨w, by
    have hO' : Own E.w0 w (F :: (S' ++ E.C)) := hO.perm (by simpa using List.Perm.append_right E.C.flatten hp.out)
    have := run_loadVar_agg (P := P) (t := t) (w := w) (b := b) (off := off) (l := l) hl (fun j v hv => hO'.fcell .here (hc j v hv))
    simp [execOp, ha.evv hx, Instr.loadAt, Instr.sureAddr, this], hO⟩

theorem Own.set1 {w0 w : World} {C : List Chunk} {l : List Value} (hO : Own w0 w ([(b, .cells ⟨l⟩ T fz)] :: C)) : Own w0 (w.setCell ⟨b, off, none⟩ v) ([(b, .cells ⟨l.set off v⟩ T fz)] :: C) := by
  have := hO.setCell (off := off) (v := v) (.here : Repl ([(b, .cells ⟨l⟩ T fz)] :: C) _ _ _)
  simpa using this
theorem W.store {l l' : List Value} [hs : Scal P t] (k' : W P E n k (fput d undef fr) ([(b, .cells ⟨l'⟩ T (0, 0))] :: S'))
    (hx : ev fr x = some (.pointer (some ⟨b, off, none⟩)) := by rfl) (hy : ev fr y = some v := by rfl) (hp : PickB S b (.cells ⟨l⟩ T (0, 0)) S' := by infer_instance) (hl : setO l off v = some l' := by rfl) (h1 : isOne v = true := by first | rfl | assumption)
    (hg : wants all fr ⟨d, .store t x y, ty, pos, after, g⟩ = some true := by rfl) (hd : okD d n = true := by rfl) : W P E n (.op all ⟨d, .store t x y, ty, pos, after, g⟩ :: k) fr S :=
  W.eff k' hg hd fun a w ha hO => ⟨w.setCell ⟨b, off, none⟩ v, by
    have hb := (hO.pickB (h := hp)).block1 .here
    have := run_storeVar_one (P := P) (t := t) (w := w) (b := b) (off := off) (isOne_one h1) (by rw [cell_at hb]; simp [(setO_eq hl).2]) (frozen_none hb)
    simp [execOp, ha.evv hx, ha.evv hy, Instr.storeAt, Instr.sureAddr, this], by
    have := (hO.pickB (h := hp)).set1 (off := off) (v := v)
    rw [(setO_eq hl).1] at this
    simpa using this⟩
/-- A store into a block whose cells aren't written out. -/
theorem W.storeX [hs : Scal P t] (k' : W P E n k (fput d undef fr) ([(b, .cells (c.setIfInBounds off v) T (0, 0))] :: S'))
    (hx : ev fr x = some (.pointer (some ⟨b, off, none⟩)) := by rfl) (hy : ev fr y = some v := by rfl) (hp : PickB S b (.cells c T (0, 0)) S' := by infer_instance) (h1 : isOne v = true := by first | rfl | assumption) (hlt : off < c.size := by first | omega | (simp; omega))
    (hg : wants all fr ⟨d, .store t x y, ty, pos, after, g⟩ = some true := by rfl) (hd : okD d n = true := by rfl) : W P E n (.op all ⟨d, .store t x y, ty, pos, after, g⟩ :: k) fr S :=
  W.eff k' hg hd fun a w ha hO => ⟨w.setCell ⟨b, off, none⟩ v, by
    have hb := (hO.pickB (h := hp)).block1 .here
    have := run_storeVar_one (P := P) (t := t) (w := w) (b := b) (off := off) (isOne_one h1) (by rw [cell_at hb]; simp [hlt]) (frozen_none hb)
    simp [execOp, ha.evv hx, ha.evv hy, Instr.storeAt, Instr.sureAddr, this], by
    have := (hO.pickB (h := hp)).setCell (off := off) (v := v) .here
    simpa using this⟩
theorem W.storeA {m : Nat} {cs : Array Value} [hs : Agg P t m] (k' : W P E n k (fput d undef fr) ([(b, .cells cs T (0, 0))] :: S'))
    (hx : ev fr x = some (.pointer (some ⟨b, 0, none⟩)) := by rfl) (hy : ev fr y = some (.agg cs) := by rfl) (hp : PickB S b (.cells c T (0, 0)) S' := by infer_instance) (hn : cs.size = m := by first | rfl | assumption) (hn' : c.size = m := by first | rfl | assumption) (h1 : cs.toList.all isOne = true := by first | rfl | assumption)
    (hg : wants all fr ⟨d, .store t x y, ty, pos, after, g⟩ = some true := by rfl) (hd : okD d n = true := by rfl) : W P E n (.op all ⟨d, .store t x y, ty, pos, after, g⟩ :: k) fr S :=
  W.eff k' hg hd fun a w ha hO => by
    have hO' := hO.pickB (h := hp)
    have hb := hO'.block1 .here
    have := run_storeVar_agg (P := P) (t := t) (w := w) (b := b) (off := 0) hn (fun v hv => isOne_one (List.all_eq_true.1 h1 v hv)) hb (by omega)
    have e : (cs.toList ++ c.toList.drop cs.size).toArray = cs := by
      rw [List.drop_eq_nil_of_le (by simp [hn, hn'])]; simp
    simp only [List.take_zero, List.nil_append, Nat.zero_add, e] at this
    refine ⟨w.setRow b cs, ?_, ?_⟩
    · simp [execOp, ha.evv hx, ha.evv hy, Instr.storeAt, Instr.sureAddr, this]
    · exact hO'.upd .here rfl rfl rfl (setRow_heap w b c cs T (0, 0) hb) (fun k hk => by simp [World.setRow, Array.getElem?_modify, Ne.symm hk])
theorem own_alloc {w0 w : World} {S C : List Chunk} (hO : Own w0 w (S ++ C)) (o : Obj) : Own w0 (w.alloc o) (([(w.heap.size, o)] :: S) ++ C) := hO.alloc o
theorem W.new {o : Oper} {ob : Nat → Obj} (k' : ∀ b, W P E n k (fput o.dst (.pointer (some ⟨b, 0, none⟩)) fr) ([(b, ob b)] :: S)) (hg : wants all fr o = some true) (hd : okD o.dst n = true)
    (hrun : ∀ a w, Fits n fr a → (execOp a.eval o).run P w = .ok (.value (.pointer (some ⟨w.heap.size, 0, none⟩))) (w.alloc (ob w.heap.size))) : W P E n (.op all o :: k) fr S := by
  refine ⟨fun hn a w ha hO => ?_⟩
  exact op_val (wants_eq ha hg) (hrun a w ha) ((k' _).out hn _ _ (ha.putf hd _) (own_alloc hO _))
theorem W.alloc {z : Value} [hz : Zero P t z] (k' : ∀ b, W P E n k (fput d (.pointer (some ⟨b, 0, none⟩)) fr) ([(b, .cells z.cells t (0, 0))] :: S))
    (hg : wants all fr ⟨d, .alloc t, ty, pos, after, g⟩ = some true := by rfl) (hd : okD d n = true := by rfl) : W P E n (.op all ⟨d, .alloc t, ty, pos, after, g⟩ :: k) fr S :=
  W.new (ob := fun _ => .cells z.cells t (0, 0)) k' hg hd fun a w ha => by simp [execOp, Instr.alloc, run_zeroValue_, newVar, newRow]
theorem W.alloc1 [hz : Zero P t v] [hs : Scal P t] (k' : ∀ b, W P E n k (fput d (.pointer (some ⟨b, 0, none⟩)) fr) ([(b, .cells #[v] t (0, 0))] :: S)) (h1 : isOne v = true := by rfl)
    (hg : wants all fr ⟨d, .alloc t, ty, pos, after, g⟩ = some true := by rfl) (hd : okD d n = true := by rfl) : W P E n (.op all ⟨d, .alloc t, ty, pos, after, g⟩ :: k) fr S :=
  W.alloc (z := v) (by rw [isOne_cells h1]; exact k') hg hd
theorem W.allocA {cs : Array Value} [hz : Zero P t (.agg cs)] (k' : ∀ b, W P E n k (fput d (.pointer (some ⟨b, 0, none⟩)) fr) ([(b, .cells cs t (0, 0))] :: S))
    (hg : wants all fr ⟨d, .alloc t, ty, pos, after, g⟩ = some true := by rfl) (hd : okD d n = true := by rfl) : W P E n (.op all ⟨d, .alloc t, ty, pos, after, g⟩ :: k) fr S :=
  W.alloc (z := .agg cs) k' hg hd
theorem W.boxA {cs : Array Value} (k' : ∀ b, W P E n k (fput d (.pointer (some ⟨b, 0, none⟩)) fr) ([(b, .cells cs t (0, 0))] :: S)) (hx : ev fr x = some (.agg cs) := by rfl)
    (hg : wants all fr ⟨d, .box t x, ty, pos, after, g⟩ = some true := by rfl) (hd : okD d n = true := by rfl) : W P E n (.op all ⟨d, .box t x, ty, pos, after, g⟩ :: k) fr S :=
  W.new (ob := fun _ => .cells cs t (0, 0)) k' hg hd fun a w ha => by simp [execOp, ha.evv hx, Instr.box, newVar, newRow, Value.cells]
theorem W.box (k' : ∀ b, W P E n k (fput d (.pointer (some ⟨b, 0, none⟩)) fr) ([(b, .cells #[v] t (0, 0))] :: S)) (hx : ev fr x = some v := by rfl) (h1 : isOne v = true := by first | rfl | assumption)
    (hg : wants all fr ⟨d, .box t x, ty, pos, after, g⟩ = some true := by rfl) (hd : okD d n = true := by rfl) : W P E n (.op all ⟨d, .box t x, ty, pos, after, g⟩ :: k) fr S :=
  W.new (ob := fun _ => .cells #[v] t (0, 0)) k' hg hd fun a w ha => by simp [execOp, ha.evv hx, Instr.box, newVar, newRow, isOne_cells h1]
theorem W.fieldAddr {s f o : Nat} [hf : FldO P s f o] (k' : W P E n k (fput d (.pointer (some ⟨b, off + o, none⟩)) fr) S) (hx : ev fr x = some (.pointer (some ⟨b, off, none⟩)) := by rfl)
    (hg : wants all fr ⟨d, .fieldAddr s x f, ty, pos, after, g⟩ = some true := by rfl) (hd : okD d n = true := by rfl) : W P E n (.op all ⟨d, .fieldAddr s x f, ty, pos, after, g⟩ :: k) fr S :=
  W.val (v := .pointer (some ⟨b, off + o, none⟩)) k' hg hd fun a w ha hO => ⟨w, by simp [execOp, ha.evv hx, run_fieldAt], hO⟩
theorem W.indexAddr {e i' len cap : Nat} {kd : IntKind} {i : Int} [hs : SlOf P t e] [hz : Scal P e] (k' : W P E n k (fput d (.pointer (some ⟨b, off + i', none⟩)) fr) S)
    (hx : ev fr x = some (.slice (some ⟨b, off, none⟩) len cap) := by rfl) (hy : ev fr y = some (.int kd i) := by rfl) (hi : ToNat i i' := by infer_instance) (hlt : i' < len := by omega)
    (hg : wants all fr ⟨d, .indexAddr t x y, ty, pos, after, g⟩ = some true := by rfl) (hd : okD d n = true := by rfl) : W P E n (.op all ⟨d, .indexAddr t x y, ty, pos, after, g⟩ :: k) fr S :=
  W.val (v := .pointer (some ⟨b, off + i', none⟩)) k' hg hd fun a w ha hO => ⟨w, by
    have h1 := hi.out
    subst h1
    have h2 : ((i' : Int) < (len : Int)) := by omega
    simp [execOp, ha.evv hx, ha.evv hy, Instr.indexAt, run_underlying hs.out, asIntOf, run_sizeOf_one, add_at, hlt], hO⟩
theorem W.indexAddrN {e m i' len cap sz : Nat} {kd : IntKind} {i : Int} [hs : SlOf P t e] [hz : Siz P e sz m] (k' : W P E n k (fput d (.pointer (some ⟨b, off + i' * sz, none⟩)) fr) S)
    (hx : ev fr x = some (.slice (some ⟨b, off, none⟩) len cap) := by rfl) (hy : ev fr y = some (.int kd i) := by rfl) (hi : ToNat i i' := by infer_instance) (hlt : i' < len := by omega)
    (hg : wants all fr ⟨d, .indexAddr t x y, ty, pos, after, g⟩ = some true := by rfl) (hd : okD d n = true := by rfl) : W P E n (.op all ⟨d, .indexAddr t x y, ty, pos, after, g⟩ :: k) fr S :=
  W.val (v := .pointer (some ⟨b, off + i' * sz, none⟩)) k' hg hd fun a w ha hO => ⟨w, by
    have h1 := hi.out
    subst h1
    have h2 : ((i' : Int) < (len : Int)) := by omega
    simp [execOp, ha.evv hx, ha.evv hy, Instr.indexAt, run_underlying hs.out, asIntOf, run_sizeOf_siz, add_at, hlt], hO⟩

/-- Whole numbers of a kind. -/
class Rng (kd : IntKind) (lo hi : outParam Int) : Prop where
  out : ∀ z, lo ≤ z → z ≤ hi → kd.wrap z = z
instance : Rng .i64 (-9223372036854775808) 9223372036854775807 := ⟨fun z h1 h2 => by rw [IntKind.wrap_i64]; omega⟩
instance : Rng .u64 0 18446744073709551615 := ⟨fun z h1 h2 => by rw [IntKind.wrap_u64]; omega⟩
theorem wrap_u32' (z : Int) : IntKind.u32.wrap z = z % 4294967296 := by simp [IntKind.wrap, IntKind.bits, IntKind.signed]
theorem wrap_u16' (z : Int) : IntKind.u16.wrap z = z % 65536 := by simp [IntKind.wrap, IntKind.bits, IntKind.signed]
instance : Rng .u32 0 4294967295 := ⟨fun z h1 h2 => by rw [wrap_u32']; omega⟩
instance : Rng .u16 0 65535 := ⟨fun z h1 h2 => by rw [wrap_u16']; omega⟩
instance : Rng .u8 0 255 := ⟨fun z h1 h2 => by rw [IntKind.wrap_u8]; omega⟩

/-- Sums, differences and products. -/
def arith (op : BinOp) (a b : Int) : Option Int := match op with
  | .add => some (a + b)
  | .sub => some (a - b)
  | .mul => some (a * b)
  | _ => none
theorem run_arith {op : BinOp} {kd : IntKind} {a b z : Int} (h : arith op a b = some z) (t : TypeId) (w : World) : (binOp op t (.int kd a) (.int kd b)).run P w = .ok (.int kd (kd.wrap z)) w := by
  cases op <;> first | (simp only [arith, Option.some.injEq] at h; subst h; simp [binOp_add, binOp_sub, binOp_mul, Op.intArith]; done) | cases h
theorem W.arith {bo : BinOp} {kd : IntKind} {a b z lo hi : Int} {t' : TypeId} (k' : W P E n k (fput d (.int kd z) fr) S)
    (hx : ev fr x = some (.int kd a) := by rfl) (hy : ev fr y = some (.int kd b) := by rfl) (hr : Rng kd lo hi := by infer_instance) (hz : Go.Proofs.Yteghmoijhcdpeaa.arith bo a b = some z := by rfl) (h1 : lo ≤ z := by omega) (h2 : z ≤ hi := by omega)
    (hg : wants all fr ⟨d, .binOp bo t x y t', ty, pos, after, g⟩ = some true := by rfl) (hd : okD d n = true := by rfl) : W P E n (.op all ⟨d, .binOp bo t x y t', ty, pos, after, g⟩ :: k) fr S :=
  W.val (v := .int kd z) k' hg hd fun a' w ha hO => ⟨w, by
    have he : ∀ w, (eqGuard bo t x y (.int kd a) (.int kd b)).run P w = .ok () w := by intro w; cases bo <;> simp [eqGuard]
    simp [execOp, ha.evv hx, ha.evv hy, he, run_arith hz, hr.out z h1 h2], hO⟩
theorem W.arithW {bo : BinOp} {kd : IntKind} {a b z : Int} {t' : TypeId} (k' : W P E n k (fput d (.int kd (kd.wrap z)) fr) S)
    (hx : ev fr x = some (.int kd a) := by rfl) (hy : ev fr y = some (.int kd b) := by rfl) (hz : Go.Proofs.Yteghmoijhcdpeaa.arith bo a b = some z := by rfl)
    (hg : wants all fr ⟨d, .binOp bo t x y t', ty, pos, after, g⟩ = some true := by rfl) (hd : okD d n = true := by rfl) : W P E n (.op all ⟨d, .binOp bo t x y t', ty, pos, after, g⟩ :: k) fr S :=
  W.val (v := .int kd (kd.wrap z)) k' hg hd fun a' w ha hO => ⟨w, by
    have he : ∀ w, (eqGuard bo t x y (.int kd a) (.int kd b)).run P w = .ok () w := by intro w; cases bo <;> simp [eqGuard]
    simp [execOp, ha.evv hx, ha.evv hy, he, run_arith hz], hO⟩
/-- A pointer held against nil. -/
def ptrNil (op : BinOp) (p q : Value) : Option Bool := match op, p, q with
  | .eql, .pointer none, .pointer b => some b.isNone
  | .neq, .pointer none, .pointer b => some !b.isNone
  | .eql, .pointer (some _), .pointer none => some false
  | .neq, .pointer (some _), .pointer none => some true
  | _, _, _ => none
theorem run_ptrNil {op : BinOp} {p q : Value} {r : Bool} [h : PtrT P t] (hr : ptrNil op p q = some r) (w : World) : (binOp op t p q).run P w = .ok (.bool r) w ∧ (eqGuard op t x y p q).run P w = .ok () w := by
  obtain ⟨e, he⟩ := h.out
  have q0 : ∀ d q, (Op.equalIn (d + 1) t (.pointer none) (.pointer q)).run P w = .ok q.isNone w := fun d q => by cases q <;> simp [Op.equalIn, run_underlying he]
  have q1 : ∀ d p, (Op.equalIn (d + 1) t (.pointer (some p)) (.pointer none)).run P w = .ok false w := fun d p => by simp [Op.equalIn, run_underlying he]
  have q0 := q0 9999
  have q1 := q1 9999
  have b1 : ∀ p q, binOp .eql t (.pointer p) (.pointer q) = (do pure (.bool (← Op.equal t (.pointer p) (.pointer q)))) := fun _ _ => by simp [binOp]
  have b2 : ∀ p q, binOp .neq t (.pointer p) (.pointer q) = (do pure (.bool (!(← Op.equal t (.pointer p) (.pointer q))))) := fun _ _ => by simp [binOp]
  unfold ptrNil at hr
  split at hr
  all_goals first
    | (simp only [Option.some.injEq] at hr; subst hr; rw [eqGuard_at_pointer, b1]; simp [Op.equal, Op.maxDepth, q0, q1]; done)
    | (simp only [Option.some.injEq] at hr; subst hr; rw [eqGuard_at_pointer, b2]; simp [Op.equal, Op.maxDepth, q0, q1]; done)
    | cases hr
theorem W.ptrNil {bo : BinOp} {p q : Value} {r : Bool} {t' : TypeId} [h : PtrT P t] (k' : W P E n k (fput d (.bool r) fr) S)
    (hx : ev fr x = some p := by rfl) (hy : ev fr y = some q := by rfl) (hr : Go.Proofs.Yteghmoijhcdpeaa.ptrNil bo p q = some r := by rfl)
    (hg : wants all fr ⟨d, .binOp bo t x y t', ty, pos, after, g⟩ = some true := by rfl) (hd : okD d n = true := by rfl) : W P E n (.op all ⟨d, .binOp bo t x y t', ty, pos, after, g⟩ :: k) fr S :=
  W.val (v := .bool r) k' hg hd fun a' w ha hO => ⟨w, by
    obtain ⟨h1, h2⟩ := run_ptrNil (P := P) (t := t) (x := x) (y := y) hr w
    simp [execOp, ha.evv hx, ha.evv hy, h1, h2], hO⟩

/-- A call of a function of the program. -/
theorem W.call {f : FuncId} {args : Array Operand} {at_ : Array TypeId} {vs : List Value} {A B : List Chunk} {R : Value → List Chunk → Prop} (hc : Spec P f vs A R) [hA : Sub S A B]
    (k' : ∀ v D, R v D → W P E n k (fput d v fr) (D ++ B)) (hv : evs fr args.toList = some vs := by rfl)
    (hf : ∀ w, (callFunc f vs.toArray).run P w = .ok (.enter f vs.toArray) w := by exact fun _ => rfl)
    (hg : wants all fr ⟨d, .call ⟨.value (.func f), args, at_⟩, ty, pos, after, g⟩ = some true := by rfl) (hd : okD d n = true := by rfl) : W P E n (.op all ⟨d, .call ⟨.value (.func f), args, at_⟩, ty, pos, after, g⟩ :: k) fr S := by
  refine ⟨fun hn a w ha hO => ?_⟩
  have hl := ha.evl _ _ hv
  have hm : args.map a.eval = vs.toArray := by
    rw [← hl]
    exact (Array.toList_inj.1 (by simp))
  show OpW P all _ (wk P E k) a w
  unfold OpW
  rw [if_pos (wants_eq ha hg)]
  refine .inl ?_
  unfold Oper.wp
  have hrun : (execOp a.eval ⟨d, .call ⟨.value (.func f), args, at_⟩, ty, pos, after, g⟩).run P w = .ok (.enter f vs.toArray) w := by
    simp [execOp, resolve, Deferred.ofValue, Act.eval, invoke, hm, hf]
  rw [hrun]
  have hO' : Own E.w0 w (A ++ (B ++ E.C)) := hO.sub
  refine (hc E.w0 w (B ++ E.C) hO').mono ?_
  rintro e w' ⟨v, D, rfl, hR, hO2⟩
  exact (k' v D hR).out hn _ _ (ha.putf hd v) (by simpa using hO2)
/-- A branch. -/
class BP (b : Bool) (p q : outParam Prop) : Prop where
  t : b = true → p
  f : b = false → q
instance (priority := low) {b : Bool} : BP b (b = true) (b = false) := ⟨id, id⟩
instance {p : Prop} [Decidable p] : BP (decide p) p (¬ p) := ⟨of_decide_eq_true, of_decide_eq_false⟩
instance {b : Bool} {p q : Prop} [h : BP b p q] : BP (!b) q p := ⟨fun e => h.f (by simpa using e), fun e => h.t (by simpa using e)⟩
theorem W.cond {th el : Code} {c : Operand} {q : Bool} {p1 p2 : Prop} (hc : ev fr c = some (.bool q)) [h : BP q p1 p2] (h1 : p1 → W P E n (.code th :: k) fr S) (h2 : p2 → W P E n (.code el :: k) fr S) : W P E n (.code (.cond c th el) :: k) fr S := by
  refine ⟨fun hn a w ha hO => ?_⟩
  cases hq : q
  · subst hq; exact wp_cond_false (ha.evv hc) ((h2 (h.f rfl)).out hn a w ha hO)
  · subst hq; exact wp_cond_true (ha.evv hc) ((h1 (h.t rfl)).out hn a w ha hO)
theorem W.condT {th el : Code} {c : Operand} (k' : W P E n (.code th :: k) fr S) (hc : ev fr c = some (.bool true) := by rfl) : W P E n (.code (.cond c th el) :: k) fr S := ⟨fun hn a w ha hO => wp_cond_true (ha.evv hc) (k'.out hn a w ha hO)⟩
theorem W.condF {th el : Code} {c : Operand} (k' : W P E n (.code el :: k) fr S) (hc : ev fr c = some (.bool false) := by rfl) : W P E n (.code (.cond c th el) :: k) fr S := ⟨fun hn a w ha hO => wp_cond_false (ha.evv hc) (k'.out hn a w ha hO)⟩

/-- A guard that isn't known. -/
theorem W.gd {t : Nat} {b q : Bool} {p1 p2 : Prop} (hg : guardOf all o = some (t, b)) (hc : fr.get t = some (.bool q)) [h : BP q p1 p2] (h1 : p1 → W P E n (.op all o :: k) ((t, .bool true) :: fr) S)
    (h2 : p2 → W P E n (.op all o :: k) ((t, .bool false) :: fr) S) : W P E n (.op all o :: k) fr S := W.guard hg hc (fun e => h1 (h.t e)) (fun e => h2 (h.f e))
/-- What a function hands back. -/
def resV (fr : Fr) : List ResultVar → Option (List Value)
  | [] => some []
  | .tmp t :: l => match fr.get t, resV fr l with
    | some v, some vs => some (v :: vs)
    | _, _ => none
  | _ => none
def retV (fr : Fr) (rs : Array ResultVar) : Option Value := match resV fr rs.toList with
  | some [v] => some v
  | some vs => some (.tuple vs.toArray)
  | none => none
end
end Go.Proofs.Yteghmoijhcdpeaa
