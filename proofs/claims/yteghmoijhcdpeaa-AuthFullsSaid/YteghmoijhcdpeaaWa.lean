/- A walk over a frame that is known in parts and a heap of chunks ('W'), with its rules for the forms of code: plain lemmas, used by all proofs of this seat. -/
import Derived.Test.YteghmoijhcdpeaaRow
import Derived.Orders
set_option linter.unusedSimpArgs false
set_option linter.unusedVariables false
namespace Go.Proofs.Yteghmoijhcdpeaa
open Go.RowKit

/-- What is known of a frame: the latest value of a slot first. -/
abbrev Fr := List (Nat × Value)
def Fr.get : Fr → Nat → Option Value
  | [], _ => none
  | (t, v) :: fr, k => if t = k then some v else Fr.get fr k
structure Fits (n : Nat) (fr : Fr) (a : Act) : Prop where
  size : a.tmps.size = n
  defers : a.defers = []
  get : ∀ t v, fr.get t = some v → a.tmps[t]? = some v
theorem Fits.put {n : Nat} {fr : Fr} {a : Act} (h : Fits n fr a) {d : Nat} (hd : Nat.ble (d + 1) n = true) (v : Value) : Fits n ((d, v) :: fr) (a.put (some d) v) := by
  have hlt : d < n := Nat.le_of_ble_eq_true hd
  refine ⟨by simp [Act.put, h.size], by simp [Act.put, h.defers], fun t u hu => ?_⟩
  unfold Fr.get at hu
  split at hu
  · rename_i e
    subst e
    simp only [Option.some.injEq] at hu
    subst hu
    simp [Act.put, h.size, hlt]
  · rename_i e
    have := h.get t u hu
    have e' : ¬ d = t := e
    simp [Act.put, Array.getElem?_setIfInBounds, e', this]
theorem Fits.put_none {n : Nat} {fr : Fr} {a : Act} (h : Fits n fr a) (v : Value) : Fits n fr (a.put none v) := h
theorem Fits.sub {n : Nat} {fr fr' : Fr} {a : Act} (h : Fits n fr a) (hs : ∀ t v, fr'.get t = some v → fr.get t = some v) : Fits n fr' a := ⟨h.size, h.defers, fun t v hv => h.get t v (hs t v hv)⟩

/-- What is left to do. -/
inductive K where
  | code (c : Code)
  | ops (all rest : List Oper)
  | op (all : List Oper) (o : Oper)
  | any (all : List Oper) (ls : List Bool) (N : List Chunk)
  | blk (id : Nat)
  | post (I : Fr → List Chunk → Prop)

/-- A call's own: its function, what it owes, the world at its begin, the memory that it passes by. -/
structure Env where
  fn : Func
  R : Value → List Chunk → Prop
  w0 : World
  C : List Chunk
def Env.F (E : Env) (P : Program) : Exit → Act → World → Prop :=
  bodyPost P E.fn fun e w => ∃ v B, e = .returned v ∧ E.R v B ∧ Own E.w0 w (B ++ E.C)
def Env.J (E : Env) (I : Fr → List Chunk → Prop) (a : Act) (w : World) : Prop := ∃ fr S, I fr S ∧ Fits E.fn.ntmps fr a ∧ Own E.w0 w (S ++ E.C)

/-- One operation. -/
def OpW (P : Program) (all : List Oper) (o : Oper) (Q : Exit → Act → World → Prop) (a : Act) (w : World) : Prop :=
  if Region.wanted o (yielded all.toArray a.tmps) = true then o.wp P a w (Q .normal) Q ∨ (o.asks P a w ∧ LetsOut Q) else Q .normal (a.put o.dst undef) w
/-- All orders of a statement's operations, with what holds all the way. -/
def wpAnyI (P : Program) (ops : Array Oper) (Q : Exit → Act → World → Prop) (I : World → Prop) : Nat → Array Bool → Act → World → Prop
  | 0, listed, a, w => I w ∧ Region.ready .any ops listed = [] ∧ Q .normal a w
  | fuel + 1, listed, a, w => I w ∧ (Region.ready .any ops listed = [] → Q .normal a w) ∧ ∀ i ∈ Region.ready .any ops listed, wpOp P ops Q i (wpAnyI P ops Q I fuel (listed.setIfInBounds i true)) a w
/-- The memory N is there. -/
def Env.has (E : Env) (N : List Chunk) (w : World) : Prop := ∃ C, Own E.w0 w (N ++ C)
def wk (P : Program) (E : Env) : List K → Exit → Act → World → Prop
  | [] => E.F P
  | .code c :: k => Exit.then (c.wp P (wk P E k)) (wk P E k)
  | .ops all rest :: k => Exit.then (wpList P all.toArray (wk P E k) rest) (wk P E k)
  | .op all o :: k => Exit.then (OpW P all o (wk P E k)) (wk P E k)
  | .any all ls N :: k => Exit.then (wpAnyI P all.toArray (wk P E k) (E.has N) (ls.count false) ls.toArray) (wk P E k)
  | .blk id :: k => Exit.inBlock id (wk P E k)
  | .post I :: k => Exit.then (E.J I) (wk P E k)

/-- From any frame and world that fit, what is left is done as owed. n is the number of slots. -/
structure W (P : Program) (E : Env) (n : Nat) (k : List K) (fr : Fr) (S : List Chunk) : Prop where
  out : E.fn.ntmps = n → ∀ a w, Fits n fr a → Own E.w0 w (S ++ E.C) → wk P E k .normal a w

/-- A contract: with the memory A it gives a value and a memory. What else there is stays. -/
def Spec (P : Program) (f : FuncId) (args : List Value) (A : List Chunk) (R : Value → List Chunk → Prop) : Prop :=
  ∀ w0 w C, Own w0 w (A ++ C) → Calls P f args.toArray w fun e w' => ∃ v B, e = .returned v ∧ R v B ∧ Own w0 w' (B ++ C)

def frOf : Nat → List Value → Fr
  | _, [] => []
  | i, v :: l => (i, v) :: frOf (i + 1) l
theorem frOf_get (l : List Value) : ∀ i t v, (frOf i l).get t = some v → i ≤ t ∧ l[t - i]? = some v := by
  induction l with
  | nil => intro i t v h; cases h
  | cons x l ih =>
    intro i t v h
    unfold frOf Fr.get at h
    split at h
    · rename_i e
      subst e
      simpa using h
    · rename_i e
      obtain ⟨h1, h2⟩ := ih _ _ _ h
      refine ⟨by omega, ?_⟩
      have : t - i = (t - (i + 1)) + 1 := by omega
      rw [this]
      simpa using h2

theorem Spec.enter {P : Program} {f : FuncId} {fn : Func} {c : Code} {args : List Value} {A : List Chunk} {R : Value → List Chunk → Prop} {n : Nat}
    (hf : P.funcs[f]? = some fn) (hb : fn.body = some c) (hn : fn.ntmps = n) (hle : Nat.ble args.length n = true)
    (h : ∀ w0 C, W P ⟨fn, R, w0, C⟩ n [.code c] (frOf 0 args) A) : Spec P f args A R := by
  intro w0 w C hO
  refine calls_of_wp hf hb ?_
  have hle : args.length ≤ n := Nat.le_of_ble_eq_true hle
  have := (h w0 C).out hn { tmps := args.toArray ++ Array.replicate (fn.ntmps - args.toArray.size) undef, defers := [] } w ⟨?_, rfl, ?_⟩ hO
  · exact this
  · simp [hn]; omega
  · intro t v hv
    obtain ⟨_, h2⟩ := frOf_get args 0 t v hv
    have hlt := (List.getElem?_eq_some_iff.1 h2).1
    simp only [Nat.sub_zero] at h2 hlt
    have h3 := (List.getElem?_eq_some_iff.1 h2).2
    simp [Array.getElem?_append, hlt, h3]

section
variable {P : Program} {E : Env} {n : Nat} {k : List K} {fr fr' : Fr} {S S' : List Chunk}

theorem W.mono (h : W P E n k fr' S') (hf : ∀ t v, fr'.get t = some v → fr.get t = some v) (hS : ∀ w, Own E.w0 w (S ++ E.C) → Own E.w0 w (S' ++ E.C)) : W P E n k fr S :=
  ⟨fun hn a w ha hO => h.out hn a w (ha.sub hf) (hS w hO)⟩

theorem W.seq {x y : Code} (h : W P E n (.code x :: .code y :: k) fr S) : W P E n (.code (.seq x y) :: k) fr S := ⟨fun hn a w ha hO => wp_seq (h.out hn a w ha hO)⟩
theorem W.skip (h : W P E n k fr S) : W P E n (.code .skip :: k) fr S := ⟨fun hn a w ha hO => wp_skip (h.out hn a w ha hO)⟩
theorem W.block {id : Nat} {c : Code} (h : W P E n (.code c :: .blk id :: k) fr S) : W P E n (.code (.block id c) :: k) fr S := ⟨fun hn a w ha hO => wp_block (h.out hn a w ha hO)⟩
theorem W.blk {id : Nat} (h : W P E n k fr S) : W P E n (.blk id :: k) fr S := ⟨fun hn a w ha hO => h.out hn a w ha hO⟩
theorem W.region {id : Nat} {l : List Oper} (h : W P E n (.ops l l :: k) fr S) : W P E n (.code (.region id l.toArray false) :: k) fr S := ⟨fun hn a w ha hO => wp_region_lit (h.out hn a w ha hO)⟩
theorem W.nil {l : List Oper} (h : W P E n k fr S) : W P E n (.ops l [] :: k) fr S := ⟨fun hn a w ha hO => (wpList_nil (h.out hn a w ha hO) : wpList P l.toArray (wk P E k) [] a w)⟩

/-- Where an exit out of a block goes on. -/
def leave (id : Nat) : List K → Option (List K)
  | [] => none
  | .blk i :: k => if i = id then some k else leave id k
  | .code _ :: k | .ops _ _ :: k | .op _ _ :: k | .any _ _ _ :: k | .post _ :: k => leave id k
theorem leave_wk {id : Nat} {k k' : List K} (h : leave id k = some k') {a : Act} {w : World} (hk : wk P E k' .normal a w) : wk P E k (.exit id) a w := by
  induction k with
  | nil => cases h
  | cons x k ih =>
    cases x with
    | code c => exact ih h
    | ops l r => exact ih h
    | op l r => exact ih h
    | any l r N => exact ih h
    | post I => exact ih h
    | blk i =>
      unfold leave at h
      split at h
      · rename_i e
        injection h with h
        subst h
        show Exit.inBlock i (wk P E k) (.exit id) a w
        simp only [Exit.inBlock]
        rw [if_pos e.symm]
        exact hk
      · rename_i e
        show Exit.inBlock i (wk P E k) (.exit id) a w
        simp only [Exit.inBlock]
        rw [if_neg (fun h => e h.symm)]
        exact ih h
theorem W.exit {id : Nat} {k' : List K} (h : W P E n k' fr S) (hl : leave id k = some k') : W P E n (.code (.exit id) :: k) fr S := ⟨fun hn a w ha hO => wp_exit (leave_wk hl (h.out hn a w ha hO))⟩

theorem ret_wk {a : Act} {w : World} (h : E.F P .ret a w) : wk P E k .ret a w := by
  induction k with
  | nil => exact h
  | cons x k ih => cases x <;> exact ih


/-- What an operand reads as. -/
def ev (fr : Fr) : Operand → Option Value
  | .const v => some v
  | .tmp t => fr.get t
  | .global g => some (.pointer (some ⟨g, 0, none⟩))
  | .func f => some (.func (.func f) #[] #[])
theorem Fits.evv {fr : Fr} {x : Operand} {v : Value} {a : Act} (ha : Fits n fr a) (h : ev fr x = some v) : a.eval x = v := by
  cases x with
  | const u => simpa [ev, Act.eval] using h
  | global u => simpa [ev, Act.eval] using h
  | func u => simpa [ev, Act.eval] using h
  | tmp t =>
    have := ha.get t v h
    simp [Act.eval, this]
def nth {α : Type} : List α → Nat → Option α
  | [], _ => none
  | x :: _, 0 => some x
  | _ :: l, i + 1 => nth l i
theorem nth_eq {α : Type} (l : List α) : ∀ i, nth l i = l[i]? := by
  induction l with
  | nil => intro i; rfl
  | cons x l ih => intro i; cases i <;> simp [nth, ih]
def evs (fr : Fr) : List Operand → Option (List Value)
  | [] => some []
  | x :: l => match ev fr x, evs fr l with
    | some v, some vs => some (v :: vs)
    | _, _ => none
theorem Fits.evl {fr : Fr} {a : Act} (ha : Fits n fr a) (l : List Operand) : ∀ vs, evs fr l = some vs → l.map a.eval = vs := by
  induction l with
  | nil => intro vs h; simpa [evs] using h
  | cons x l ih =>
    intro vs h
    unfold evs at h
    split at h
    · rename_i v us h1 h2
      simp only [Option.some.injEq] at h
      subst h
      simp [ha.evv h1, ih _ h2]
    · cases h

/-- An operation's guard: the slot that it looks at, and what it wants there. -/
def guardOf (all : List Oper) (o : Oper) : Option (Nat × Bool) :=
  match o.guard with
  | none => none
  | some (j, b) => match nth all j with
    | some o' => match o'.dst with
      | some t => some (t, b)
      | none => none
    | none => none
def wants (all : List Oper) (fr : Fr) (o : Oper) : Option Bool :=
  match o.guard with
  | none => some true
  | some _ => match guardOf all o with
    | some (t, b) => match fr.get t with
      | some (.bool c) => some (c == b)
      | _ => none
    | none => none
theorem wants_eq {all : List Oper} {fr : Fr} {o : Oper} {a : Act} {b : Bool} (ha : Fits n fr a) (h : wants all fr o = some b) : Region.wanted o (yielded all.toArray a.tmps) = b := by
  unfold wants at h
  unfold Region.wanted
  split at h
  · rename_i e; simp only [Option.some.injEq] at h; subst h; simp [e]
  · rename_i p e
    split at h
    · rename_i t c hg
      split at h
      · rename_i x hx
        simp only [Option.some.injEq] at h
        unfold guardOf at hg
        rw [e] at hg ⊢
        simp only at hg ⊢
        split at hg
        · rename_i o' ho
          split at hg
          · rename_i t' ht
            simp only [Option.some.injEq, Prod.mk.injEq] at hg
            obtain ⟨rfl, rfl⟩ := hg
            have hy : yielded all.toArray a.tmps p.1 = some x := by
              rw [nth_eq] at ho
              unfold yielded
              simp [ho, ht, ha.get _ _ hx]
            rw [hy, ← h]
            cases x <;> cases p.2 <;> rfl
          · cases hg
        · cases hg
      · cases h
    · cases h

def fput (d : Option Nat) (v : Value) (fr : Fr) : Fr := match d with | some t => (t, v) :: fr | none => fr
def okD (d : Option Nat) (n : Nat) : Bool := match d with | some t => Nat.ble (t + 1) n | none => true
theorem Fits.putf {fr : Fr} {a : Act} (ha : Fits n fr a) {d : Option Nat} (hd : okD d n = true) (v : Value) : Fits n (fput d v fr) (a.put d v) := by
  cases d with
  | none => exact ha
  | some t => exact ha.put hd v

section
variable {all rest : List Oper} {o : Oper} {d : Option Nat} {op : Op} {ty : TypeId} {pos : String} {after : Array Edge} {g : Option (Nat × Bool)}

theorem wp_upon {Q Q' : Exit → Act → World → Prop} {next next' : Act → World → Prop} {a : Act} {w : World} (hn : ∀ a w, next a w → next' a w) (hp : ∀ c a w, Q (.panic c) a w → Q' (.panic c) a w) (ho : LetsOut Q → LetsOut Q')
    (h : o.wp P a w next Q) : o.wp P a w next' Q' := by
  unfold Oper.wp at *
  generalize (execOp a.eval o).run P w = r at *
  cases r with
  | ok m w' =>
    cases m <;> simp only [Oper.upon] at h ⊢ <;>
      first
        | exact hn _ _ h
        | exact Calls.mono h (fun e w'' he => by cases e <;> first | exact hn _ _ he | exact hp _ _ _ he | exact ho he)
        | exact Rows.mono h (fun _ _ he => hn _ _ he)
  | halt x w' => cases x <;> simp only [Oper.upon] at h ⊢ <;> exact hp _ _ _ h
theorem W.cons (k' : W P E n (.op all o :: .ops all rest :: k) fr S) : W P E n (.ops all (o :: rest) :: k) fr S := by
  refine ⟨fun hn a w ha hO => ?_⟩
  have h := k'.out hn a w ha hO
  show wpList P all.toArray (wk P E k) (o :: rest) a w
  have h : OpW P all o (wk P E (.ops all rest :: k)) a w := h
  unfold OpW at h
  unfold wpList
  split
  · rename_i hw
    rw [if_pos hw] at h
    exact h.imp (wp_upon (fun _ _ h => h) (fun _ _ _ h => h) (fun h => h)) id
  · rename_i hw
    rw [if_neg hw] at h
    exact h
theorem op_val {v : Value} {a : Act} {w w' : World} {Q : Exit → Act → World → Prop} (hw : Region.wanted o (yielded all.toArray a.tmps) = true) (hrun : (execOp a.eval o).run P w = .ok (.value v) w') (h : Q .normal (a.put o.dst v) w') : OpW P all o Q a w := by
  unfold OpW
  rw [if_pos hw]
  refine .inl ?_
  unfold Oper.wp
  rw [hrun]
  exact h
theorem op_skip {a : Act} {w w' : World} {Q : Exit → Act → World → Prop} (hw : Region.wanted o (yielded all.toArray a.tmps) = true) (hrun : (execOp a.eval o).run P w = .ok .skip w') (h : Q .normal (a.put o.dst undef) w') : OpW P all o Q a w := by
  unfold OpW
  rw [if_pos hw]
  refine .inl ?_
  unfold Oper.wp
  rw [hrun]
  exact h
/-- An operation that gives a value. -/
theorem W.val {v : Value} (k' : W P E n k (fput o.dst v fr) S') (hg : wants all fr o = some true) (hd : okD o.dst n = true)
    (hrun : ∀ a w, Fits n fr a → Own E.w0 w (S ++ E.C) → ∃ w', (execOp a.eval o).run P w = .ok (.value v) w' ∧ Own E.w0 w' (S' ++ E.C)) : W P E n (.op all o :: k) fr S := by
  refine ⟨fun hn a w ha hO => ?_⟩
  obtain ⟨w', h1, h2⟩ := hrun a w ha hO
  exact op_val (wants_eq ha hg) h1 (k'.out hn _ _ (ha.putf hd v) h2)
theorem W.eff (k' : W P E n k (fput o.dst undef fr) S') (hg : wants all fr o = some true) (hd : okD o.dst n = true)
    (hrun : ∀ a w, Fits n fr a → Own E.w0 w (S ++ E.C) → ∃ w', (execOp a.eval o).run P w = .ok .skip w' ∧ Own E.w0 w' (S' ++ E.C)) : W P E n (.op all o :: k) fr S := by
  refine ⟨fun hn a w ha hO => ?_⟩
  obtain ⟨w', h1, h2⟩ := hrun a w ha hO
  exact op_skip (wants_eq ha hg) h1 (k'.out hn _ _ (ha.putf hd undef) h2)
/-- An operation that is passed by. -/
theorem W.pass (k' : W P E n k (fput o.dst undef fr) S) (hg : wants all fr o = some false := by rfl) (hd : okD o.dst n = true := by rfl) : W P E n (.op all o :: k) fr S := by
  refine ⟨fun hn a w ha hO => ?_⟩
  have h := k'.out hn _ _ (ha.putf hd undef) hO
  show OpW P all o (wk P E k) a w
  unfold OpW
  rw [if_neg (by rw [wants_eq ha hg]; decide)]
  exact h
/-- A guard that isn't known: both ways. -/
theorem W.guard {t : Nat} {b c : Bool} {k0 : K} (hg : guardOf all o = some (t, b)) (hc : fr.get t = some (.bool c)) (h1 : c = true → W P E n (k0 :: k) ((t, .bool true) :: fr) S)
    (h2 : c = false → W P E n (k0 :: k) ((t, .bool false) :: fr) S) : W P E n (k0 :: k) fr S := by
  have hs : ∀ s v, Fr.get ((t, .bool c) :: fr) s = some v → fr.get s = some v := by
    intro s v h
    unfold Fr.get at h
    split at h
    · rename_i e
      subst e
      rw [hc]; exact h
    · exact h
  cases c
  · exact (h2 rfl).mono hs (fun _ h => h)
  · exact (h1 rfl).mono hs (fun _ h => h)

/-- What an operation gives that looks at nothing but its operands. -/
def pv (fr : Fr) : Op → Option Value
  | .move x | .assign x => ev fr x
  | .pick c a b => match ev fr c with
    | some (.bool true) => ev fr a
    | some (.bool false) => ev fr b
    | _ => none
  | .binOp op _ x y _ => match ev fr x, ev fr y with
    | some (.int k a), some (.int k' b) => if k = k' then (match op with
      | .eql => some (.bool (decide (a = b)))
      | .neq => some (.bool (decide (a ≠ b)))
      | .lss => some (.bool (decide (a < b)))
      | .leq => some (.bool (decide (a ≤ b)))
      | .gtr => some (.bool (decide (b < a)))
      | .geq => some (.bool (decide (b ≤ a)))
      | _ => none) else none
    | some (.string a), some (.string b) => match op with
      | .eql => some (.bool (decide (a = b)))
      | .neq => some (.bool (decide (a ≠ b)))
      | _ => none
    | _, _ => none
  | .unOp .not _ x => match ev fr x with
    | some (.bool b) => some (.bool !b)
    | _ => none
  | .extract t i => match ev fr t with
    | some (.tuple vs) => nth vs.toList i
    | _ => none
  | .nilCheck x => match ev fr x with
    | some (.pointer (some a)) => some (.pointer (some a))
    | _ => none
  | .makeFunc fn first captured => match evs fr first.toList, evs fr captured.toList with
    | some a, some b => some (.func fn ⟨a⟩ ⟨b⟩)
    | _, _ => none
  | _ => none
theorem bytes_eq (a b : ByteArray) : (a.toList == b.toList) = decide (a = b) := by
  by_cases h : a = b
  · subst h; simp
  · have : a.toList ≠ b.toList := fun e => h (by
      have e1 : a.data.toList = b.data.toList := by rw [← ByteArray.toList_eq, ← ByteArray.toList_eq]; exact e
      cases a; cases b; congr; exact Array.toList_inj.1 e1)
    simp [h, this]
theorem pv_run {v : Value} {a : Act} {w : World} (ha : Fits n fr a) (h : pv fr op = some v) : (execOp a.eval ⟨d, op, ty, pos, after, g⟩).run P w = .ok (.value v) w := by
  unfold pv at h
  split at h
  · rename_i x; have := ha.evv h; simp [execOp, this]
  · rename_i x; have := ha.evv h; simp [execOp, this]
  · rename_i c x y
    split at h
    · rename_i hc; simp [execOp, ha.evv hc, ha.evv h, asBool]
    · rename_i hc; simp [execOp, ha.evv hc, ha.evv h, asBool]
    · cases h
  · rename_i op t x y t'
    split at h
    · rename_i k a' k' b' hx hy
      split at h
      · rename_i e
        subst e
        split at h
        all_goals first
          | (simp only [Option.some.injEq] at h; subst h; simp [execOp, ha.evv hx, ha.evv hy, eqGuard, binOp, Op.intCmp]; done)
          | (simp only [Option.some.injEq] at h; subst h; simp [execOp, ha.evv hx, ha.evv hy, eqGuard, binOp, Op.intCmp]; rfl)
          | cases h
      · cases h
    · rename_i a' b' hx hy
      split at h
      all_goals first
        | (simp only [Option.some.injEq] at h; subst h; simp [execOp, ha.evv hx, ha.evv hy, eqGuard, binOp, Op.stringOp, bytes_eq]; done)
        | cases h
    · cases h
  · rename_i t x
    split at h
    · rename_i b hx
      simp only [Option.some.injEq] at h
      subst h
      simp [execOp, ha.evv hx, Op.unary]
    · cases h
  · rename_i t i
    split at h
    · rename_i vs hx
      rw [nth_eq] at h
      have h' : vs[i]? = some v := by simpa using h
      simp [execOp, ha.evv hx, Instr.extract, h']
    · cases h
  · rename_i x
    split at h
    · rename_i ad hx
      simp only [Option.some.injEq] at h
      subst h
      simp [execOp, ha.evv hx]
    · cases h
  · rename_i fn first captured
    split at h
    · rename_i a' b' h1 h2
      simp only [Option.some.injEq] at h
      subst h
      have e1 : first.map a.eval = ⟨a'⟩ := Array.toList_inj.1 (by simpa using ha.evl _ _ h1)
      have e2 : captured.map a.eval = ⟨b'⟩ := Array.toList_inj.1 (by simpa using ha.evl _ _ h2)
      simp [execOp, Instr.makeFunc, e1, e2]
    · cases h
  · cases h
theorem W.pure {v : Value} (k' : W P E n k (fput d v fr) S) (hv : pv fr op = some v := by rfl) (hg : wants all fr ⟨d, op, ty, pos, after, g⟩ = some true := by rfl) (hd : okD d n = true := by rfl) :
    W P E n (.op all ⟨d, op, ty, pos, after, g⟩ :: k) fr S :=
  W.val (v := v) k' hg hd fun a w ha hO => ⟨w, pv_run ha hv, hO⟩
end
end
end Go.Proofs.Yteghmoijhcdpeaa
