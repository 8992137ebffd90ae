/- The walk's rules for calls of function values and for statements whose order is open: plain lemmas, used by all proofs of this seat. -/
import Derived.Test.YteghmoijhcdpeaaWd
import Derived.Orders
import Derived.KernelRfl
set_option linter.unusedSimpArgs false
set_option linter.unusedVariables false
namespace Go.Proofs.Yteghmoijhcdpeaa
open Go.RowKit

/-- The program's orders are mixed. -/
class Mix (P : Program) : Prop where
  out : P.follows .mixedOrders = true
/-- What may come next: what is not done yet, and comes behind nothing that is not done. -/
def doneAll (ls : List Bool) : List Edge → Bool
  | [] => true
  | e :: es => match nth ls e.on with
    | some true => doneAll ls es
    | _ => false
def readyO (ls : List Bool) : List Oper → List Bool → Nat → List Nat
  | o :: l, b :: bs, i => match b with
    | true => readyO ls l bs (i + 1)
    | false => match doneAll ls o.after.toList with
      | true => i :: readyO ls l bs (i + 1)
      | false => readyO ls l bs (i + 1)
  | _, _, _ => []
def setB : List Bool → Nat → List Bool
  | [], _ => []
  | _ :: l, 0 => true :: l
  | b :: l, i + 1 => b :: setB l i
theorem setB_eq : ∀ (l : List Bool) (i : Nat), setB l i = l.set i true := by
  intro l
  induction l with
  | nil => intro i; rfl
  | cons b l ih => intro i; cases i <;> simp [setB, ih]
/-- Each edge binds. -/
def bindsAll (all : List Oper) : Bool := all.all fun o => o.after.toList.all fun e => Region.binds .any e
theorem doneAll_of {ls : List Bool} : ∀ {es : List Edge}, (∀ e ∈ es, ls.toArray.getD e.on false = true) → doneAll ls es = true := by
  intro es
  induction es with
  | nil => intro _; rfl
  | cons e es ih =>
    intro h
    unfold doneAll
    have h1 := h e (by simp)
    rw [nth_eq]
    have : ls[e.on]? = some true := by
      simp at h1
      cases hx : ls[e.on]? with
      | none => simp [hx] at h1
      | some b => simp [hx] at h1; rw [h1]
    rw [this]
    exact ih (fun x hx => h x (by simp [hx]))
theorem readyO_mem {ls : List Bool} : ∀ (l : List Oper) (bs : List Bool) (i j : Nat), l.length = bs.length → i ≤ j → (∃ o, l[j - i]? = some o ∧ bs[j - i]? = some false ∧ doneAll ls o.after.toList = true) → j ∈ readyO ls l bs i := by
  intro l
  induction l with
  | nil => intro bs i j _ _ h; obtain ⟨o, h, _⟩ := h; simp at h
  | cons x l ih =>
    intro bs i j hl hij h
    cases bs with
    | nil => simp at hl
    | cons b bs =>
      obtain ⟨o, h1, h2, h3⟩ := h
      have hl' : l.length = bs.length := by simpa using hl
      by_cases e : i = j
      · subst e
        simp at h1 h2
        subst h1 h2
        unfold readyO
        rw [h3]
        simp
      · have hlt : i + 1 ≤ j := by omega
        have e1 : j - i = (j - (i + 1)) + 1 := by omega
        rw [e1] at h1 h2
        have := ih bs (i + 1) j hl' hlt ⟨o, by simpa using h1, by simpa using h2, h3⟩
        unfold readyO
        cases b
        · cases doneAll ls x.after.toList <;> simp [this]
        · exact this
theorem ready_sub {all : List Oper} {ls : List Bool} {j : Nat} (hb : bindsAll all = true) (hl : all.length = ls.length) (h : j ∈ Region.ready .any all.toArray ls.toArray) : j ∈ readyO ls all ls 0 := by
  obtain ⟨h1, o, h2, h3⟩ := mem_ready.1 h
  refine readyO_mem all ls 0 j hl (by omega) ⟨o, by simpa using h2, ?_, doneAll_of fun e he => h3 e (by simpa using he) ?_⟩
  · have hj : j < all.length := by
      have := (Array.getElem?_eq_some_iff.1 h2).1
      simpa using this
    have hj' : j < ls.length := by omega
    simp [hj'] at h1 ⊢
    exact h1
  · have h4 := List.all_eq_true.1 hb o (by
      have := Array.mem_of_getElem? h2
      simpa using this)
    exact List.all_eq_true.1 h4 e he

theorem doneAll_get {ls : List Bool} : ∀ {es : List Edge}, doneAll ls es = true → ∀ e ∈ es, ls.toArray.getD e.on false = true := by
  intro es
  induction es with
  | nil => intro _ e he; cases he
  | cons x es ih =>
    intro h e he
    unfold doneAll at h
    split at h
    · rename_i h1
      rw [nth_eq] at h1
      rcases List.mem_cons.1 he with rfl | he
      · simp [h1]
      · exact ih h e he
    · cases h
theorem readyO_out {ls : List Bool} : ∀ (l : List Oper) (bs : List Bool) (i j : Nat), j ∈ readyO ls l bs i → i ≤ j ∧ ∃ o, l[j - i]? = some o ∧ bs[j - i]? = some false ∧ doneAll ls o.after.toList = true := by
  intro l
  induction l with
  | nil => intro bs i j h; simp [readyO] at h
  | cons x l ih =>
    intro bs i j h
    cases bs with
    | nil => simp [readyO] at h
    | cons b bs =>
      have next : j ∈ readyO ls l bs (i + 1) → i ≤ j ∧ ∃ o, (x :: l)[j - i]? = some o ∧ (b :: bs)[j - i]? = some false ∧ doneAll ls o.after.toList = true := fun h => by
        obtain ⟨h1, o, h2, h3, h4⟩ := ih bs (i + 1) j h
        have e1 : j - i = (j - (i + 1)) + 1 := by omega
        exact ⟨by omega, o, by rw [e1]; simpa using h2, by rw [e1]; simpa using h3, h4⟩
      unfold readyO at h
      cases b
      · simp only at h
        cases hd : doneAll ls x.after.toList
        · rw [hd] at h; exact next h
        · rw [hd] at h
          rcases List.mem_cons.1 h with rfl | h
          · exact ⟨Nat.le_refl _, x, by simp, by simp, hd⟩
          · exact next h
      · exact next h
theorem ready_sup {all : List Oper} {ls : List Bool} {j : Nat} (h : j ∈ readyO ls all ls 0) : j ∈ Region.ready .any all.toArray ls.toArray ∧ ls[j]? = some false := by
  obtain ⟨_, o, h2, h3, h4⟩ := readyO_out all ls 0 j h
  simp only [Nat.sub_zero] at h2 h3
  refine ⟨mem_ready.2 ⟨by simp [h3], o, by simpa using h2, fun e he _ => doneAll_get h4 e (by simpa using he)⟩, h3⟩

section
variable {P : Program} {E : Env} {n : Nat} {k : List K} {fr fr' : Fr} {S S' : List Chunk} {all rest : List Oper} {o : Oper} {d : Option Nat} {op : Op} {ty : TypeId} {pos : String} {after : Array Edge} {g : Option (Nat × Bool)}
  {t : TypeId} {x y : Operand} {b off : Nat} {v : Value} {c : Array Value} {T : TypeId} {fz : Nat × Nat}

/-- A call of a function value. -/
theorem W.callV {f : FuncId} {args : Array Operand} {at_ : Array TypeId} {as bs vs : List Value} {A B : List Chunk} {R : Value → List Chunk → Prop} (hc : Spec P f (as ++ vs ++ bs) A R) [hA : Sub S A B]
    (k' : ∀ v D, R v D → W P E n k (fput d v fr) (D ++ B)) (hx : ev fr x = some (.func (.func f) ⟨as⟩ ⟨bs⟩) := by rfl) (hv : evs fr args.toList = some vs := by rfl)
    (hf : ∀ w, (callFunc f (as ++ vs ++ bs).toArray).run P w = .ok (.enter f (as ++ vs ++ bs).toArray) w := by exact fun _ => rfl)
    (hg : wants all fr ⟨d, .call ⟨.value x, args, at_⟩, ty, pos, after, g⟩ = some true := by rfl) (hd : okD d n = true := by rfl) : W P E n (.op all ⟨d, .call ⟨.value x, args, at_⟩, ty, pos, after, g⟩ :: k) fr S := by
  refine ⟨fun hn a w ha hO => ?_⟩
  have hl := ha.evl _ _ hv
  have hm : args.map a.eval = vs.toArray := by
    rw [← hl]
    exact (Array.toList_inj.1 (by simp))
  show OpW P all _ (wk P E k) a w
  unfold OpW
  rw [if_pos (wants_eq ha hg)]
  refine .inl ?_
  unfold Oper.wp
  have hrun : (execOp a.eval ⟨d, .call ⟨.value x, args, at_⟩, ty, pos, after, g⟩).run P w = .ok (.enter f (as ++ vs ++ bs).toArray) w := by
    have := hf w
    simp [execOp, resolve, Deferred.ofValue, ha.evv hx, invoke, hm] at this ⊢
    exact this
  rw [hrun]
  have hO' : Own E.w0 w (A ++ (B ++ E.C)) := hO.sub
  refine (hc E.w0 w (B ++ E.C) hO').mono ?_
  rintro e w' ⟨v, D, rfl, hR, hO2⟩
  exact (k' v D hR).out hn _ _ (ha.putf hd v) (by simpa using hO2)

theorem wk_panic {c : List PanicEntry} {a : Act} {w : World} : ¬ wk P E k (.panic c) a w := by
  induction k with
  | nil =>
    rintro ⟨_, v, B, h, _⟩
    cases h
  | cons x k ih => cases x <;> exact ih

theorem wpAnyI_any {ops : Array Oper} {Q : Exit → Act → World → Prop} {I : World → Prop} : ∀ {fuel : Nat} {ls : Array Bool} {a : Act} {w : World}, wpAnyI P ops Q I fuel ls a w → wpAny P .any ops Q fuel ls a w := by
  intro fuel
  induction fuel with
  | zero => intro ls a w h; exact h.2
  | succ fuel ih => intro ls a w h; exact ⟨h.2.1, fun i hi => wpOp_mono (fun a w h => ih h) (h.2.2 i hi)⟩
theorem wpAnyI_inv {ops : Array Oper} {Q : Exit → Act → World → Prop} {I : World → Prop} {fuel : Nat} {ls : Array Bool} {a : Act} {w : World} (h : wpAnyI P ops Q I fuel ls a w) : I w := by cases fuel <;> exact h.1
/-- A statement whose order is open. -/
theorem W.draw (N : List Chunk) {id : Nat} {l : List Oper} [hm : Mix P] (k' : W P E n (.any l (l.map fun _ => false) N :: k) fr S) : W P E n (.code (.region id l.toArray true) :: k) fr S := by
  refine ⟨fun hn a w ha hO => wp_region_any hm.out ?_⟩
  have h := k'.out hn a { w with drawn := w.drawn + 1 } ha (hO.drew)
  have h : wpAnyI P l.toArray (wk P E k) (E.has N) ((l.map fun _ => false).count false) (l.map fun _ => false).toArray a { w with drawn := w.drawn + 1 } := h
  have e1 : (l.map fun _ => false).count false = l.toArray.size := by simp [List.map_const', List.count_replicate]
  have e2 : (l.map fun _ => false).toArray = Array.replicate l.toArray.size false := by simp [List.map_const']
  rw [e1, e2] at h
  exact wpAnyI_any h
theorem has_of {N B : List Chunk} {w : World} [hN : Sub S N B] (hO : Own E.w0 w (S ++ E.C)) : E.has N w := ⟨_, hO.sub (A := N) (B := B)⟩
theorem W.anyDone {N B : List Chunk} {ls : List Bool} [hN : Sub S N B] (k' : W P E n k fr S) (hl : all.length = ls.length := by rfl) (hb : bindsAll all = true := by rfl) (hr : readyO ls all ls 0 = [] := by rfl) : W P E n (.any all ls N :: k) fr S := by
  refine ⟨fun hn a w ha hO => ?_⟩
  show wpAnyI P all.toArray (wk P E k) (E.has N) (ls.count false) ls.toArray a w
  have h0 : Region.ready .any all.toArray ls.toArray = [] := by
    cases h : Region.ready .any all.toArray ls.toArray with
    | nil => rfl
    | cons j js =>
      have := ready_sub (j := j) hb hl (by rw [h]; simp)
      rw [hr] at this
      cases this
  have hq := k'.out hn a w ha hO
  cases ls.count false with
  | zero => exact ⟨has_of (B := B) hO, h0, hq⟩
  | succ m => exact ⟨has_of (B := B) hO, fun _ => hq, by rw [h0]; intro i hi; cases hi⟩
def AnyW (P : Program) (E : Env) (n : Nat) (all : List Oper) (ls : List Bool) (N : List Chunk) (k : List K) (fr : Fr) (S : List Chunk) : List Nat → Prop
  | [] => True
  | i :: is => (∃ o, nth all i = some o ∧ W P E n (.op all o :: .any all (setB ls i) N :: k) fr S) ∧ AnyW P E n all ls N k fr S is
theorem AnyW.mem {N : List Chunk} {ls : List Bool} {is : List Nat} (h : AnyW P E n all ls N k fr S is) : ∀ i ∈ is, ∃ o, nth all i = some o ∧ W P E n (.op all o :: .any all (setB ls i) N :: k) fr S := by
  induction is with
  | nil => intro i hi; cases hi
  | cons j is ih =>
    intro i hi
    rcases List.mem_cons.1 hi with rfl | hi
    · exact h.1
    · exact ih h.2 i hi
theorem count_set {ls : List Bool} : ∀ {i : Nat}, ls[i]? = some false → ls.count false = (ls.set i true).count false + 1 := by
  induction ls with
  | nil => intro i h; simp at h
  | cons b ls ih =>
    intro i h
    cases i with
    | zero => simp at h; subst h; simp
    | succ i =>
      have := ih (i := i) (by simpa using h)
      simp [List.count_cons, this]
      omega
theorem W.any {N B : List Chunk} {ls : List Bool} {rs : List Nat} [hN : Sub S N B] (h : AnyW P E n all ls N k fr S rs) (hl : all.length = ls.length := by rfl) (hb : bindsAll all = true := by rfl) (hr : readyO ls all ls 0 = rs := by rfl) (hne : rs ≠ [] := by exact fun h => nomatch h) : W P E n (.any all ls N :: k) fr S := by
  subst hr
  refine ⟨fun hn a w ha hO => ?_⟩
  show wpAnyI P all.toArray (wk P E k) (E.has N) (ls.count false) ls.toArray a w
  have hpos : ∃ m, ls.count false = m + 1 := by
    cases hrs : readyO ls all ls 0 with
    | nil => exact absurd hrs hne
    | cons i is =>
      have := (ready_sup (j := i) (by rw [hrs]; simp)).2
      exact ⟨_, count_set this⟩
  obtain ⟨m, hm⟩ := hpos
  rw [hm]
  refine ⟨has_of (B := B) hO, fun h0 => ?_, fun i hi => ?_⟩
  · cases hrs : readyO ls all ls 0 with
    | nil => exact absurd hrs hne
    | cons i is =>
      have := (ready_sup (j := i) (by rw [hrs]; simp)).1
      rw [h0] at this
      cases this
  · have hi' := ready_sub hb hl hi
    obtain ⟨o, ho, hW⟩ := h.mem i hi'
    have h2 := hW.out hn a w ha hO
    have h2 : OpW P all o (wk P E (.any all (setB ls i) N :: k)) a w := h2
    have hc := count_set (ready_sup hi').2
    rw [← setB_eq] at hc
    have e1 : (setB ls i).count false = m := by omega
    have e2 : (setB ls i).toArray = ls.toArray.setIfInBounds i true := by rw [setB_eq]; simp
    have hq : ∀ a w, wk P E (.any all (setB ls i) N :: k) .normal a w → wpAnyI P all.toArray (wk P E k) (E.has N) m (ls.toArray.setIfInBounds i true) a w := fun a w h => by
      have h : wpAnyI P all.toArray (wk P E k) (E.has N) ((setB ls i).count false) (setB ls i).toArray a w := h
      rw [e1, e2] at h
      exact h
    rw [nth_eq] at ho
    have ho' : all.toArray[i]? = some o := by simpa using ho
    unfold wpOp
    simp only [ho']
    unfold OpW at h2
    split
    · rename_i hw
      rw [if_pos hw] at h2
      exact h2.imp (wp_upon hq (fun _ _ _ h => h) (fun h => h)) id
    · rename_i hw
      rw [if_neg hw] at h2
      exact hq _ _ h2
/-- What an operation gives wherever I holds. -/
def YieldsI (P : Program) (ops : Array Oper) (I : World → Prop) (o : Oper) (v : Value) (a : Act) : Prop :=
  (Region.wanted o (yielded ops a.tmps) = true ∧ ∀ w, I w → (execOp a.eval o).run P w = .ok (.value v) w) ∨ (Region.wanted o (yielded ops a.tmps) = false ∧ v = undef)
theorem wpOp_putI {ops : Array Oper} {Q : Exit → Act → World → Prop} {I : World → Prop} {j : Nat} {oi oj : Oper} {v : Value} (hj : ops[j]? = some oj) (hap : oi.apart ops oj = true)
    (hsi : ∀ cs b, oi.op ≠ .select cs b) (hsj : ∀ cs b, oj.op ≠ .select cs b)
    (hQ : ∀ c a w, Q (.panic c) (a.put oi.dst v) w → Q (.panic c) a w) {K : Act → World → Prop} {a : Act} {w : World}
    (hy : YieldsI P ops I oi v a) (h : wpOp P ops Q j K (a.put oi.dst v) w) :
    wpOp P ops Q j (fun a' w' => YieldsI P ops I oi v a' ∧ K (a'.put oi.dst v) w') a w := by
  obtain ⟨h1, h2, h3⟩ := Oper.apart_spec hap
  have same : ∀ (a a' : Act), YieldsI P ops I oi v a → execOp a'.eval oi = execOp a.eval oi → Region.wanted oi (yielded ops a'.tmps) = Region.wanted oi (yielded ops a.tmps) → YieldsI P ops I oi v a' := fun a a' hy he hw => by
    unfold YieldsI at *
    rw [he, hw]
    exact hy
  have keep : ∀ (a : Act), YieldsI P ops I oi v a → ∀ u, YieldsI P ops I oi v (a.put oj.dst u) := fun a hy u =>
    same _ _ hy (execOp_put oi hsi a oj.dst u h3) (wanted_put oi a oj.dst u h3)
  have keepD : ∀ d, YieldsI P ops I oi v { a with defers := d :: a.defers } := fun d => same _ _ hy rfl rfl
  unfold wpOp at *
  simp only [hj] at *
  rw [wanted_put oj a oi.dst v h1] at h
  split
  · rename_i hw
    simp only [hw, if_true] at h
    rcases h with h | ⟨hasks, hlets⟩
    case inr => exact .inr ⟨by unfold Oper.asks at *; rw [execOp_put oj hsj a oi.dst v h1] at hasks; exact hasks, hlets⟩
    refine .inl ?_
    unfold Oper.wp at *
    rw [execOp_put oj hsj a oi.dst v h1] at h
    generalize (execOp a.eval oj).run P w = r at *
    cases r with
    | ok n w' =>
      cases n <;> simp only [Oper.upon] at h ⊢
      case value u => exact ⟨keep a hy u, by rw [← Act.put_comm a v u h2]; exact h⟩
      case skip => exact ⟨keep a hy _, by rw [← Act.put_comm a v undef h2]; exact h⟩
      case defer d =>
        refine ⟨keep _ (keepD d) _, ?_⟩
        rw [← Act.put_comm _ v undef h2, ← Act.put_defers]
        exact h
      case enter f args =>
        refine Calls.mono h fun e w'' he => ?_
        cases e with
        | returned u => exact ⟨keep a hy u, by rw [← Act.put_comm a v u h2]; exact he⟩
        | panicked c => exact hQ _ _ _ he
        | outgrown => exact he
      case row row args => exact Rows.mono h fun u w'' he => ⟨keep a hy u, by rw [← Act.put_comm a v u h2]; exact he⟩
    | halt x w' =>
      cases x <;> simp only [Oper.upon] at h ⊢
      case panic u => exact hQ _ _ _ h
  · rename_i hw
    simp only [hw] at h
    exact ⟨keep a hy _, by rw [← Act.put_comm a v undef h2]; exact h⟩
theorem YieldsI.wpOp {ops : Array Oper} {Q : Exit → Act → World → Prop} {I : World → Prop} {i : Nat} {o : Oper} {v : Value} {a : Act} (hi : ops[i]? = some o) (hy : YieldsI P ops I o v a)
    {K : Act → World → Prop} {w : World} (hw : I w) (h : K (a.put o.dst v) w) : wpOp P ops Q i K a w := by
  unfold Go.wpOp
  simp only [hi]
  rcases hy with ⟨h1, h2⟩ | ⟨h1, rfl⟩
  · simp only [h1, if_true, Oper.wp, h2 w hw, Oper.upon]; exact .inl h
  · simp only [h1, Bool.false_eq_true, if_false]; exact h
theorem wpAnyI_first {ops : Array Oper} {Q : Exit → Act → World → Prop} {I : World → Prop} {i : Nat} {oi : Oper} {v : Value} (hi : ops[i]? = some oi) (hsel : ∀ (j : Nat) (o : Oper) cs b, ops[j]? = some o → o.op ≠ .select cs b)
    (hQ : ∀ c a w, Q (.panic c) (a.put oi.dst v) w → Q (.panic c) a w) :
    ∀ (fuel : Nat) (listed : Array Bool) (a : Act) (w : World),
      (∀ j oj, ops[j]? = some oj → j ≠ i → listed.getD j true = false → (∀ e ∈ oj.after, Region.binds .any e = true → e.on ≠ i) → oi.apart ops oj = true) →
      i ∈ Region.ready .any ops listed → YieldsI P ops I oi v a →
      wpAnyI P ops Q I fuel (listed.setIfInBounds i true) (a.put oi.dst v) w → wpAnyI P ops Q I (fuel + 1) listed a w := by
  intro fuel
  induction fuel with
  | zero =>
    intro listed a w _ hr hy H
    refine ⟨H.1, fun h => (by rw [h] at hr; cases hr), fun j hj => ?_⟩
    by_cases hji : j = i
    · subst hji; exact hy.wpOp hi H.1 H
    · have := ready_mono hj hji
      rw [H.2.1] at this
      cases this
  | succ fuel ih =>
    intro listed a w hfree hr hy H
    refine ⟨H.1, fun h => (by rw [h] at hr; cases hr), fun j hj => ?_⟩
    by_cases hji : j = i
    · subst hji; exact hy.wpOp hi H.1 H
    · have h1 := H.2.2 j (ready_mono hj hji)
      obtain ⟨hjun, oj, hoj, hall⟩ := mem_ready.1 hj
      have hnot : ∀ e ∈ oj.after, Region.binds .any e = true → e.on ≠ i := fun e he hb heq => by
        have h1 := hall e he hb
        have h0 := (mem_ready.1 hr).1
        rw [heq] at h1
        rcases Nat.lt_or_ge i listed.size with h' | h'
        · simp [h'] at h0 h1; rw [h0] at h1; cases h1
        · simp [Array.getElem?_eq_none h'] at h1
      have h2 := wpOp_putI hoj (hfree j oj hoj hji hjun hnot) (fun cs b => hsel i oi cs b hi) (fun cs b => hsel j oj cs b hoj) hQ hy h1
      have hfree' : ∀ k ok, ops[k]? = some ok → k ≠ i → (listed.setIfInBounds j true).getD k true = false →
          (∀ e ∈ ok.after, Region.binds .any e = true → e.on ≠ i) → oi.apart ops ok = true := fun k ok hk hki hun hno => by
        refine hfree k ok hk hki ?_ hno
        by_cases hjk : j = k
        · subst hjk; exact hjun
        · rw [getD_set_ne true hjk] at hun; exact hun
      refine wpOp_mono (fun a' w' h3 => ih (listed.setIfInBounds j true) a' w' hfree' (ready_mono hr (Ne.symm hji)) h3.1 ?_) h2
      rw [Array.setIfInBounds_comm _ _ hji]
      exact h3.2
/-- An operation whose value the memory N settles may come first. -/
theorem W.takeR {N B : List Chunk} {ls : List Bool} [hN : Sub S N B] (i : Nat) {o : Oper} {v : Value} (k' : W P E n (.any all (setB ls i) N :: k) (fput o.dst v fr) S) (ho : nth all i = some o) (hrun : ∀ a w, Fits n fr a → E.has N w → (execOp a.eval o).run P w = .ok (.value v) w) (hg : wants all fr o = some true) (hd : okD o.dst n = true)
    (hs : Region.noSelect all.toArray = true) (hf : Region.free .any all.toArray ls.toArray i = true) (hr : (Region.ready .any all.toArray ls.toArray).contains i = true) : W P E n (.any all ls N :: k) fr S := by
  refine ⟨fun hn a w ha hO => ?_⟩
  show wpAnyI P all.toArray (wk P E k) (E.has N) (ls.count false) ls.toArray a w
  have hr' : i ∈ Region.ready .any all.toArray ls.toArray := by simpa using hr
  have h0 := (mem_ready.1 hr').1
  have hf' : ls[i]? = some false := by
    rw [nth_eq] at ho
    cases hx : ls[i]? with
    | none => simp [hx] at h0
    | some b => simp [hx] at h0; rw [h0]
  rw [count_set hf']
  rw [nth_eq] at ho
  have ho' : all.toArray[i]? = some o := by simpa using ho
  refine wpAnyI_first (v := v) ho' (Region.noSelect_spec hs) (fun c a w h => absurd h wk_panic) _ _ _ _ (Region.free_spec ho' hf) hr' (.inl ⟨wants_eq ha hg, fun w hw => hrun a w ha hw⟩) ?_
  have h := k'.out hn (a.put o.dst v) w (ha.putf hd v) hO
  have h : wpAnyI P all.toArray (wk P E k) (E.has N) ((setB ls i).count false) (setB ls i).toArray (a.put o.dst v) w := h
  rw [setB_eq] at h
  simpa using h
/-- An operation that is passed by may come first. -/
def findS (all : List Oper) (fr : Fr) : List Nat → Option (Nat × Oper)
  | [] => none
  | i :: is => match nth all i with
    | some o => match wants all fr o with
      | some false => some (i, o)
      | _ => findS all fr is
    | none => none
theorem findS_out {fr : Fr} {i : Nat} {o : Oper} : ∀ {is : List Nat}, findS all fr is = some (i, o) → nth all i = some o ∧ wants all fr o = some false := by
  intro is
  induction is with
  | nil => intro h; cases h
  | cons j js ih =>
    intro h
    unfold findS at h
    split at h
    · rename_i o' ho
      split at h
      · rename_i h1
        simp only [Option.some.injEq, Prod.mk.injEq] at h
        obtain ⟨rfl, rfl⟩ := h
        exact ⟨ho, h1⟩
      · exact ih h
    · cases h
theorem W.takeS {N B : List Chunk} {ls : List Bool} [hN : Sub S N B] {i : Nat} {o : Oper} (k' : W P E n (.any all (setB ls i) N :: k) (fput o.dst undef fr) S) (h : findS all fr (readyO ls all ls 0) = some (i, o) := by rfl) (hd : okD o.dst n = true := by rfl)
    (hs : Region.noSelect all.toArray = true := by kernel_rfl) (hf : Region.free .any all.toArray ls.toArray i = true := by kernel_rfl) (hr : (Region.ready .any all.toArray ls.toArray).contains i = true := by kernel_rfl) : W P E n (.any all ls N :: k) fr S := by
  obtain ⟨ho, hg⟩ := findS_out h
  refine ⟨fun hn a w ha hO => ?_⟩
  show wpAnyI P all.toArray (wk P E k) (E.has N) (ls.count false) ls.toArray a w
  have hr' : i ∈ Region.ready .any all.toArray ls.toArray := by simpa using hr
  have h0 := (mem_ready.1 hr').1
  have hf' : ls[i]? = some false := by
    rw [nth_eq] at ho
    cases hx : ls[i]? with
    | none => simp [hx] at h0
    | some b => simp [hx] at h0; rw [h0]
  rw [count_set hf']
  rw [nth_eq] at ho
  have ho' : all.toArray[i]? = some o := by simpa using ho
  refine wpAnyI_first (v := undef) ho' (Region.noSelect_spec hs) (fun c a w h => absurd h wk_panic) _ _ _ _ (Region.free_spec ho' hf) hr' (.inr ⟨wants_eq ha hg, rfl⟩) ?_
  have h := k'.out hn (a.put o.dst undef) w (ha.putf hd undef) hO
  have h : wpAnyI P all.toArray (wk P E k) (E.has N) ((setB ls i).count false) (setB ls i).toArray (a.put o.dst undef) w := h
  rw [setB_eq] at h
  simpa using h
/-- The first operation that may come next and looks at no memory. -/
def findP (all : List Oper) (fr : Fr) : List Nat → Option (Nat × Oper × Value)
  | [] => none
  | i :: is => match nth all i with
    | some o => match wants all fr o, pv fr o.op with
      | some true, some v => some (i, o, v)
      | _, _ => findP all fr is
    | none => none
theorem findP_out {fr : Fr} {i : Nat} {o : Oper} {v : Value} : ∀ {is : List Nat}, findP all fr is = some (i, o, v) → nth all i = some o ∧ pv fr o.op = some v ∧ wants all fr o = some true := by
  intro is
  induction is with
  | nil => intro h; cases h
  | cons j js ih =>
    intro h
    unfold findP at h
    split at h
    · rename_i o' ho
      split at h
      · rename_i v' h1 h2
        simp only [Option.some.injEq, Prod.mk.injEq] at h
        obtain ⟨rfl, rfl, rfl⟩ := h
        exact ⟨ho, h2, h1⟩
      · exact ih h
    · cases h
theorem W.takeP {N B : List Chunk} {ls : List Bool} [hN : Sub S N B] {i : Nat} {o : Oper} {v : Value} (k' : W P E n (.any all (setB ls i) N :: k) (fput o.dst v fr) S) (h : findP all fr (readyO ls all ls 0) = some (i, o, v) := by rfl) (hd : okD o.dst n = true := by rfl)
    (hs : Region.noSelect all.toArray = true := by kernel_rfl) (hf : Region.free .any all.toArray ls.toArray i = true := by kernel_rfl) (hr : (Region.ready .any all.toArray ls.toArray).contains i = true := by kernel_rfl) : W P E n (.any all ls N :: k) fr S := by
  obtain ⟨h1, h2, h3⟩ := findP_out h
  refine W.takeR (B := B) i k' h1 (fun a w ha _ => ?_) h3 hd hs hf hr
  obtain ⟨d, op, ty, pos, after, g⟩ := o
  exact pv_run ha h2
/-- The first operation that may come next and takes a field's address. -/
def findF (all : List Oper) (fr : Fr) : List Nat → Option (Nat × Option Nat × TypeId × Nat × Operand × Nat × Nat × Oper)
  | [] => none
  | i :: is => match nth all i with
    | some o => match o.op with
      | .fieldAddr s x f => match wants all fr o, ev fr x with
        | some true, some (.pointer (some ⟨b, off, none⟩)) => some (i, o.dst, s, f, x, b, off, o)
        | _, _ => findF all fr is
      | _ => findF all fr is
    | none => none
theorem findF_out {fr : Fr} {i s f b off : Nat} {x : Operand} {d : Option Nat} {o : Oper} : ∀ {is : List Nat}, findF all fr is = some (i, d, s, f, x, b, off, o) →
    nth all i = some o ∧ o.dst = d ∧ o.op = .fieldAddr s x f ∧ ev fr x = some (.pointer (some ⟨b, off, none⟩)) ∧ wants all fr o = some true := by
  intro is
  induction is with
  | nil => intro h; cases h
  | cons j js ih =>
    intro h
    unfold findF at h
    split at h
    · rename_i o' ho
      split at h
      · rename_i s' x' f' hop
        split at h
        · rename_i b' off' h1 h2
          simp only [Option.some.injEq, Prod.mk.injEq] at h
          obtain ⟨rfl, rfl, rfl, rfl, rfl, rfl, rfl, rfl⟩ := h
          exact ⟨ho, rfl, hop, h2, h1⟩
        · exact ih h
      · exact ih h
    · cases h
theorem W.takeF {N B : List Chunk} {ls : List Bool} [hN : Sub S N B] {i s f b off fo : Nat} {x : Operand} {d : Option Nat} {o : Oper} (k' : W P E n (.any all (setB ls i) N :: k) (fput d (.pointer (some ⟨b, off + fo, none⟩)) fr) S) (h : findF all fr (readyO ls all ls 0) = some (i, d, s, f, x, b, off, o) := by rfl)
    (hfo : FldO P s f fo := by infer_instance) (hd : okD d n = true := by rfl)
    (hs : Region.noSelect all.toArray = true := by kernel_rfl) (hf : Region.free .any all.toArray ls.toArray i = true := by kernel_rfl) (hr : (Region.ready .any all.toArray ls.toArray).contains i = true := by kernel_rfl) : W P E n (.any all ls N :: k) fr S := by
  obtain ⟨h1, rfl, h3, h4, h5⟩ := findF_out h
  refine W.takeR (B := B) i k' h1 (fun a w ha _ => ?_) h5 hd hs hf hr
  simp [execOp, h3, ha.evv h4, run_fieldAt]
/-- The first operation that may come next and loads. -/
def findL (all : List Oper) (fr : Fr) : List Nat → Option (Nat × Option Nat × TypeId × Operand × Nat × Nat × Oper)
  | [] => none
  | i :: is => match nth all i with
    | some o => match o.op with
      | .load t x => match wants all fr o, ev fr x with
        | some true, some (.pointer (some ⟨b, off, none⟩)) => some (i, o.dst, t, x, b, off, o)
        | _, _ => findL all fr is
      | _ => findL all fr is
    | none => none
theorem findL_out {fr : Fr} {i t b off : Nat} {x : Operand} {d : Option Nat} {o : Oper} : ∀ {is : List Nat}, findL all fr is = some (i, d, t, x, b, off, o) →
    nth all i = some o ∧ o.dst = d ∧ o.op = .load t x ∧ ev fr x = some (.pointer (some ⟨b, off, none⟩)) ∧ wants all fr o = some true := by
  intro is
  induction is with
  | nil => intro h; cases h
  | cons j js ih =>
    intro h
    unfold findL at h
    split at h
    · rename_i o' ho
      split at h
      · rename_i s' x' hop
        split at h
        · rename_i b' off' h1 h2
          simp only [Option.some.injEq, Prod.mk.injEq] at h
          obtain ⟨rfl, rfl, rfl, rfl, rfl, rfl, rfl⟩ := h
          exact ⟨ho, rfl, hop, h2, h1⟩
        · exact ih h
      · exact ih h
    · cases h
theorem W.takeL {N B N' : List Chunk} {ls : List Bool} [hN : Sub S N B] {i t b off : Nat} {x : Operand} {d : Option Nat} {o : Oper} {c : Array Value} {T : TypeId} {fz : Nat × Nat} {v : Value} (k' : W P E n (.any all (setB ls i) N :: k) (fput d v fr) S) (h : findL all fr (readyO ls all ls 0) = some (i, d, t, x, b, off, o) := by rfl)
    (hs0 : Scal P t := by infer_instance) (hp : PickB N b (.cells c T fz) N' := by infer_instance) (hc : nth c.toList off = some v := by rfl) (hd : okD d n = true := by rfl)
    (hs : Region.noSelect all.toArray = true := by kernel_rfl) (hf : Region.free .any all.toArray ls.toArray i = true := by kernel_rfl) (hr : (Region.ready .any all.toArray ls.toArray).contains i = true := by kernel_rfl) : W P E n (.any all ls N :: k) fr S := by
  obtain ⟨h1, rfl, h3, h4, h5⟩ := findL_out h
  refine W.takeR (B := B) i k' h1 (fun a w ha hw => ?_) h5 hd hs hf hr
  obtain ⟨C, hO⟩ := hw
  have hb := (hO.pickB (h := hp)).block1 .here
  have hc' : c[off]? = some v := by rw [nth_eq] at hc; simpa using hc
  simp [execOp, h3, ha.evv h4, Instr.loadAt, Instr.sureAddr, run_loadVar_one ((cell_at hb).trans hc')]
theorem W.takeLP {N B N' : List Chunk} {ls : List Bool} [hN : Sub S N B] {i t b off m : Nat} {x : Operand} {d : Option Nat} {o : Oper} {c : Array Value} {T : TypeId} {fz : Nat × Nat} {l : List Value} (k' : W P E n (.any all (setB ls i) N :: k) (fput d (.agg ⟨l⟩) fr) S) (h : findL all fr (readyO ls all ls 0) = some (i, d, t, x, b, off, o) := by rfl)
    (hs0 : Agg P t m := by infer_instance) (hp : PickB N b (.cells c T fz) N' := by infer_instance) (hc : sliceO c.toList off m = some l := by rfl) (hd : okD d n = true := by rfl)
    (hs : Region.noSelect all.toArray = true := by kernel_rfl) (hf : Region.free .any all.toArray ls.toArray i = true := by kernel_rfl) (hr : (Region.ready .any all.toArray ls.toArray).contains i = true := by kernel_rfl) : W P E n (.any all ls N :: k) fr S := by
  obtain ⟨h1, rfl, h3, h4, h5⟩ := findL_out h
  refine W.takeR (B := B) i k' h1 (fun a w ha hw => ?_) h5 hd hs hf hr
  obtain ⟨C, hO⟩ := hw
  have hb := (hO.pickB (h := hp)).block1 .here
  obtain ⟨rfl, hle⟩ := sliceO_eq _ _ _ _ hc
  have := run_loadVar_agg (P := P) (t := t) (w := w) (b := b) (off := off) (l := (c.toList.drop off).take m) (by simp at hle ⊢; omega) (fun j v hv => by
      rw [cell_at hb]
      rw [List.getElem?_take] at hv
      split at hv
      · simpa using hv
      · cases hv)
  simp [execOp, h3, ha.evv h4, Instr.loadAt, Instr.sureAddr, this]
/-- The one operation that may come next. -/
theorem W.any1 {N B : List Chunk} {ls : List Bool} [hN : Sub S N B] {i : Nat} {o : Oper} (k' : W P E n (.op all o :: .any all (setB ls i) N :: k) fr S) (hr : readyO ls all ls 0 = [i] := by rfl) (ho : nth all i = some o := by rfl) (hl : all.length = ls.length := by rfl) (hb : bindsAll all = true := by rfl) : W P E n (.any all ls N :: k) fr S :=
  W.any (B := B) (rs := [i]) ⟨⟨o, ho, k'⟩, trivial⟩ hl hb hr (fun h => nomatch h)

theorem W.any2 {N B : List Chunk} {ls : List Bool} [hN : Sub S N B] {i j : Nat} {o1 o2 : Oper} (k1 : W P E n (.op all o1 :: .any all (setB ls i) N :: k) fr S) (k2 : W P E n (.op all o2 :: .any all (setB ls j) N :: k) fr S) (hr : readyO ls all ls 0 = [i, j] := by rfl) (h1 : nth all i = some o1 := by rfl) (h2 : nth all j = some o2 := by rfl)
    (hl : all.length = ls.length := by rfl) (hb : bindsAll all = true := by rfl) : W P E n (.any all ls N :: k) fr S :=
  W.any (B := B) (rs := [i, j]) ⟨⟨o1, h1, k1⟩, ⟨o2, h2, k2⟩, trivial⟩ hl hb hr (fun h => nomatch h)
theorem W.any3 {N B : List Chunk} {ls : List Bool} [hN : Sub S N B] {i j l : Nat} {o1 o2 o3 : Oper} (k1 : W P E n (.op all o1 :: .any all (setB ls i) N :: k) fr S) (k2 : W P E n (.op all o2 :: .any all (setB ls j) N :: k) fr S) (k3 : W P E n (.op all o3 :: .any all (setB ls l) N :: k) fr S) (hr : readyO ls all ls 0 = [i, j, l] := by rfl) (h1 : nth all i = some o1 := by rfl) (h2 : nth all j = some o2 := by rfl) (h3 : nth all l = some o3 := by rfl)
    (hl : all.length = ls.length := by rfl) (hb : bindsAll all = true := by rfl) : W P E n (.any all ls N :: k) fr S :=
  W.any (B := B) (rs := [i, j, l]) ⟨⟨o1, h1, k1⟩, ⟨o2, h2, k2⟩, ⟨o3, h3, k3⟩, trivial⟩ hl hb hr (fun h => nomatch h)
/-- A guard that isn't known, where the order is open. -/
theorem W.gdA {N : List Chunk} {ls : List Bool} {t : Nat} {b q : Bool} {p1 p2 : Prop} (i : Nat) (ho : nth all i = some o) (hg : guardOf all o = some (t, b)) (hc : fr.get t = some (.bool q)) [h : BP q p1 p2] (h1 : p1 → W P E n (.any all ls N :: k) ((t, .bool true) :: fr) S)
    (h2 : p2 → W P E n (.any all ls N :: k) ((t, .bool false) :: fr) S) : W P E n (.any all ls N :: k) fr S := W.guard hg hc (fun e => h1 (h.t e)) (fun e => h2 (h.f e))
theorem wpList_up {ops : Array Oper} {Q Q' : Exit → Act → World → Prop} (h : ∀ e a w, Q e a w → Q' e a w) : ∀ {l : List Oper} {a : Act} {w : World}, wpList P ops Q l a w → wpList P ops Q' l a w := by
  intro l
  induction l with
  | nil => intro a w hh; exact h _ _ _ hh
  | cons o l ih =>
    intro a w hh
    unfold wpList at hh ⊢
    split
    · rename_i hw
      rw [if_pos hw] at hh
      exact hh.imp (wp_upon (fun _ _ h => ih h) (fun _ _ _ hq => h _ _ _ hq) (fun ⟨a, w, hq⟩ => ⟨a, w, h _ _ _ hq⟩)) (fun ⟨h1, a, w, hq⟩ => ⟨h1, a, w, h _ _ _ hq⟩)
    · rename_i hw
      rw [if_neg hw] at hh
      exact ih hh
theorem OpW.up {Q Q' : Exit → Act → World → Prop} (h : ∀ e a w, Q e a w → Q' e a w) {a : Act} {w : World} (hh : OpW P all o Q a w) : OpW P all o Q' a w := by
  unfold OpW at *
  split
  · rename_i hw
    rw [if_pos hw] at hh
    exact hh.imp (wp_upon (fun _ _ hq => h _ _ _ hq) (fun _ _ _ hq => h _ _ _ hq) (fun ⟨a, w, hq⟩ => ⟨a, w, h _ _ _ hq⟩)) (fun ⟨h1, a, w, hq⟩ => ⟨h1, a, w, h _ _ _ hq⟩)
  · rename_i hw
    rw [if_neg hw] at hh
    exact h _ _ _ hh
theorem wpAny_up {ops : Array Oper} {Q Q' : Exit → Act → World → Prop} {I : World → Prop} (h : ∀ e a w, Q e a w → Q' e a w) : ∀ {fuel : Nat} {ls : Array Bool} {a : Act} {w : World}, wpAnyI P ops Q I fuel ls a w → wpAnyI P ops Q' I fuel ls a w := by
  intro fuel
  induction fuel with
  | zero => intro ls a w hh; exact ⟨hh.1, hh.2.1, h _ _ _ hh.2.2⟩
  | succ fuel ih =>
    intro ls a w hh
    refine ⟨hh.1, fun h0 => h _ _ _ (hh.2.1 h0), fun i hi => ?_⟩
    have := hh.2.2 i hi
    unfold wpOp at this ⊢
    split
    · rename_i ho; rw [ho] at this; exact ih this
    · rename_i o ho
      rw [ho] at this
      simp only at this
      split
      · rename_i hw
        rw [if_pos hw] at this
        exact this.imp (wp_upon (fun _ _ hq => ih hq) (fun _ _ _ hq => h _ _ _ hq) (fun ⟨a, w, hq⟩ => ⟨a, w, h _ _ _ hq⟩)) (fun ⟨h1, a, w, hq⟩ => ⟨h1, a, w, h _ _ _ hq⟩)
      · rename_i hw
        rw [if_neg hw] at this
        exact ih this
theorem then_up {K K' : Act → World → Prop} {Q Q' : Exit → Act → World → Prop} (h1 : ∀ a w, K a w → K' a w) (h : ∀ e a w, Q e a w → Q' e a w) : ∀ e a w, Exit.then K Q e a w → Exit.then K' Q' e a w := by
  intro e a w hh
  cases e <;> first | exact h1 _ _ hh | exact h _ _ _ hh
theorem wk_up {s s' : List K} (h : ∀ e a w, wk P E s e a w → wk P E s' e a w) : ∀ (pre : List K) (e : Exit) (a : Act) (w : World), wk P E (pre ++ s) e a w → wk P E (pre ++ s') e a w := by
  intro pre
  induction pre with
  | nil => exact h
  | cons x pre ih =>
    cases x with
    | code c => exact then_up (fun a w hh => wp_mono hh ih) ih
    | ops l r => exact then_up (fun a w hh => wpList_up ih hh) ih
    | op l o => exact then_up (fun a w hh => OpW.up ih hh) ih
    | any l ls N => exact then_up (fun a w hh => wpAny_up ih hh) ih
    | post I => exact then_up (fun a w hh => hh) ih
    | blk id =>
      intro e a w hh
      show Exit.inBlock id (wk P E (pre ++ s')) e a w
      have hh : Exit.inBlock id (wk P E (pre ++ s)) e a w := hh
      cases e <;> simp only [Exit.inBlock] at hh ⊢ <;> try exact ih _ _ _ hh
      split
      · rename_i he; rw [if_pos he] at hh; exact ih _ _ _ hh
      · rename_i he; rw [if_neg he] at hh; exact ih _ _ _ hh
/-- A cut further on: the first j parts are done first. -/
def splitK (I : Fr → List Chunk → Prop) : Nat → List K → Option (List K × List K)
  | 0, k => some (.post I :: k, k)
  | _ + 1, [] => none
  | j + 1, x :: k => match splitK I j k with
    | some (p, s) => some (x :: p, s)
    | none => none
theorem splitK_eq {I : Fr → List Chunk → Prop} : ∀ {j : Nat} {k p s : List K}, splitK I j k = some (p, s) → ∃ pre, k = pre ++ s ∧ p = pre ++ .post I :: s := by
  intro j
  induction j with
  | zero => intro k p s h; simp [splitK] at h; exact ⟨[], by simp [h.2], by rw [← h.1, ← h.2]; rfl⟩
  | succ j ih =>
    intro k p s h
    cases k with
    | nil => cases h
    | cons x k =>
      unfold splitK at h
      split at h
      · rename_i p' s' h1
        simp only [Option.some.injEq, Prod.mk.injEq] at h
        obtain ⟨rfl, rfl⟩ := h
        obtain ⟨pre, rfl, rfl⟩ := ih h1
        exact ⟨x :: pre, rfl, rfl⟩
      · cases h
theorem W.cutN (j : Nat) (I : Fr → List Chunk → Prop) {p s : List K} (h2 : ∀ fr S, I fr S → W P E n s fr S) (h1 : W P E n p fr S) (hs : splitK I j k = some (p, s) := by rfl) : W P E n k fr S := by
  obtain ⟨pre, rfl, rfl⟩ := splitK_eq hs
  refine ⟨fun hn a w ha hO => wk_up (s := .post I :: s) (fun e a w hh => ?_) pre _ _ _ (h1.out hn a w ha hO)⟩
  cases e with
  | normal =>
    obtain ⟨fr', S', hI, hfit, hO'⟩ := hh
    rw [hn] at hfit
    exact (h2 fr' S' hI).out hn a w hfit hO'
  | exit id => exact hh
  | goto l => exact hh
  | ret => exact hh
  | panic ch => exact hh
  | outgrown => exact hh
end
end Go.Proofs.Yteghmoijhcdpeaa
