/- More of the walk's rules: quotients, text and bytes, truth values. Plain lemmas, used by all proofs of this seat. -/
import Derived.Test.YteghmoijhcdpeaaWd
set_option linter.unusedSimpArgs false
set_option linter.unusedVariables false
namespace Go.Proofs.Yteghmoijhcdpeaa
open Go.RowKit

instance : ToNat 0 0 := ⟨rfl⟩
instance : ToNat 1 1 := ⟨rfl⟩
instance : ToNat 2 2 := ⟨rfl⟩
instance : ToNat 3 3 := ⟨rfl⟩
section
variable {P : Program} {E : Env} {n : Nat} {k : List K} {fr fr' : Fr} {S S' : List Chunk} {all rest : List Oper} {o : Oper} {d : Option Nat} {op : Op} {ty : TypeId} {pos : String} {after : Array Edge} {g : Option (Nat × Bool)}
  {t t' : TypeId} {x y : Operand} {b off : Nat} {v : Value}

/-- Quotients and remainders of what isn't below nothing. -/
theorem W.quo {kd : IntKind} {a b lo hi : Int} (k' : W P E n k (fput d (.int kd (a / b)) fr) S) (hx : ev fr x = some (.int kd a) := by rfl) (hy : ev fr y = some (.int kd b) := by rfl) (hr : Rng kd lo hi := by infer_instance)
    (ha : 0 ≤ a := by omega) (hb : 0 < b := by omega) (hhi : a / b ≤ hi := by omega) (hlo : lo ≤ a / b := by omega)
    (hg : wants all fr ⟨d, .binOp .quo t x y t', ty, pos, after, g⟩ = some true := by rfl) (hd : okD d n = true := by rfl) : W P E n (.op all ⟨d, .binOp .quo t x y t', ty, pos, after, g⟩ :: k) fr S :=
  W.val (v := .int kd (a / b)) k' hg hd fun a' w hf hO => ⟨w, by
    have h1 : b ≠ 0 := by omega
    have h2 : a.tdiv b = a / b := Int.tdiv_eq_ediv_of_nonneg ha
    simp [execOp, hf.evv hx, hf.evv hy, eqGuard, binOp, Op.intDiv, h1, h2, hr.out _ hlo hhi], hO⟩
theorem W.rem {kd : IntKind} {a b : Int} (k' : W P E n k (fput d (.int kd (a % b)) fr) S) (hx : ev fr x = some (.int kd a) := by rfl) (hy : ev fr y = some (.int kd b) := by rfl)
    (ha : 0 ≤ a := by omega) (hb : 0 < b := by omega)
    (hg : wants all fr ⟨d, .binOp .rem t x y t', ty, pos, after, g⟩ = some true := by rfl) (hd : okD d n = true := by rfl) : W P E n (.op all ⟨d, .binOp .rem t x y t', ty, pos, after, g⟩ :: k) fr S :=
  W.val (v := .int kd (a % b)) k' hg hd fun a' w hf hO => ⟨w, by
    have h1 : b ≠ 0 := by omega
    have h2 : a.tmod b = a % b := Int.tmod_eq_emod_of_nonneg ha
    simp [execOp, hf.evv hx, hf.evv hy, eqGuard, binOp, Op.intDiv, h1, h2], hO⟩
theorem run_bts {w0 w : World} {C : List Chunk} {T : TypeId} {X : Chunk} {l : List UInt8} (hO : Own w0 w (X :: C)) (h1 : SlOf P t T) (h2 : Byt P T) (h3 : Str P t') (hr : RdB X v l) : (convert t t' v).run P w = .ok (.string ⟨l.toArray⟩) w := by
  obtain ⟨A, c, rfl, hc, hl, hf⟩ := hr
  rcases Nat.eq_zero_or_pos l.length with h0 | h0
  · have : l = [] := List.eq_nil_of_length_eq_zero h0
    subst this
    cases A with
    | none => exact run_convert_bytes_nil w t T h1.out h2.out 0 c t' h3.out
    | some ad => exact run_convert_bytes_back w t t' T ad c [] h1.out h2.out h3.out (by simp)
  · obtain ⟨b, off, rfl, hcell⟩ := hf h0
    refine run_convert_bytes_back w t t' T ⟨b, off, none⟩ c l h1.out h2.out h3.out (fun j hj => ?_)
    rw [add_at]
    exact hO.fcell .here (hcell j _ (by simp [bys, List.getElem?_eq_getElem hj]))
/-- A string of bytes. -/
theorem W.bts {T : TypeId} {X : Chunk} {l : List UInt8} (hr : RdB X v l) (k' : W P E n k (fput d (.string ⟨l.toArray⟩) fr) S) (h1 : SlOf P t T := by infer_instance) (h2 : Byt P T := by infer_instance) (h3 : Str P t' := by infer_instance) (hp : PickC S X S' := by infer_instance) (hx : ev fr x = some v := by rfl)
    (hg : wants all fr ⟨d, .convert t t' x, ty, pos, after, g⟩ = some true := by rfl) (hd : okD d n = true := by rfl) : W P E n (.op all ⟨d, .convert t t' x, ty, pos, after, g⟩ :: k) fr S :=
  W.val (v := .string ⟨l.toArray⟩) k' hg hd fun a w ha hO => ⟨w, by
    have := run_bts (hO.one (h := hp)) h1 h2 h3 hr
    simp [execOp, ha.evv hx, this], hO⟩
/-- Strings put together. -/
theorem W.strAdd {s u : ByteArray} (k' : W P E n k (fput d (.string (s ++ u)) fr) S) (hx : ev fr x = some (.string s) := by rfl) (hy : ev fr y = some (.string u) := by rfl) (hs : s.size + u.size ≤ 9223372036854775807 := by first | omega | (simp; done) | (simp; omega))
    (hg : wants all fr ⟨d, .binOp .add t x y t', ty, pos, after, g⟩ = some true := by rfl) (hd : okD d n = true := by rfl) : W P E n (.op all ⟨d, .binOp .add t x y t', ty, pos, after, g⟩ :: k) fr S :=
  W.val (v := .string (s ++ u)) k' hg hd fun a w ha hO => ⟨w, by
    have h1 : ¬ ((s.size + u.size : Nat) : Int) > IntKind.i64.max := by
      have : IntKind.i64.max = 9223372036854775807 := by decide
      rw [this]; omega
    simp only [execOp, ha.evv hx, ha.evv hy]
    simp only [eqGuard, binOp, Op.stringOp, if_neg h1]
    simp, hO⟩
/-- Truth values. -/
class TruT (P : Program) (t : TypeId) : Prop where
  out : P.underlying t = some .bool
def eqB (op : BinOp) (a b : Bool) : Option Bool := match op with
  | .eql => some (a == b)
  | .neq => some (!(a == b))
  | _ => none
theorem run_eqB {bo : BinOp} {a b r : Bool} (h : TruT P t) (hr : eqB bo a b = some r) (w : World) : (binOp bo t (.bool a) (.bool b)).run P w = .ok (.bool r) w ∧ (eqGuard bo t x y (.bool a) (.bool b)).run P w = .ok () w := by
  have q0 : ∀ d, (Op.equalIn (d + 1) t (.bool a) (.bool b)).run P w = .ok (a == b) w := fun d => by simp [Op.equalIn, run_underlying h.out]
  have q0 := q0 9999
  have b1 : binOp .eql t (.bool a) (.bool b) = (do pure (.bool (← Op.equal t (.bool a) (.bool b)))) := by simp [binOp]
  have b2 : binOp .neq t (.bool a) (.bool b) = (do pure (.bool (!(← Op.equal t (.bool a) (.bool b))))) := by simp [binOp]
  unfold eqB at hr
  split at hr
  · simp only [Option.some.injEq] at hr; subst hr
    rw [b1]
    simp [eqGuard, Op.equal, Op.maxDepth, q0]
  · simp only [Option.some.injEq] at hr; subst hr
    rw [b2]
    simp [eqGuard, Op.equal, Op.maxDepth, q0]
  · cases hr
theorem W.boolOp {bo : BinOp} {a b r : Bool} (k' : W P E n k (fput d (.bool r) fr) S) (h : TruT P t := by infer_instance) (hx : ev fr x = some (.bool a) := by rfl) (hy : ev fr y = some (.bool b) := by rfl) (hr : eqB bo a b = some r := by rfl)
    (hg : wants all fr ⟨d, .binOp bo t x y t', ty, pos, after, g⟩ = some true := by rfl) (hd : okD d n = true := by rfl) : W P E n (.op all ⟨d, .binOp bo t x y t', ty, pos, after, g⟩ :: k) fr S :=
  W.val (v := .bool r) k' hg hd fun a' w ha hO => ⟨w, by
    obtain ⟨h1, h2⟩ := run_eqB (P := P) (t := t) (x := x) (y := y) h hr w
    simp [execOp, ha.evv hx, ha.evv hy, h1, h2], hO⟩
/-- Strings in the order of their bytes. -/
def cmpS (op : BinOp) (a b : ByteArray) : Option Bool := match op with
  | .lss => some (Op.bytesLess a.toList b.toList)
  | .leq => some (Op.bytesLess a.toList b.toList || decide (a = b))
  | .gtr => some (!(Op.bytesLess a.toList b.toList || decide (a = b)))
  | .geq => some (!Op.bytesLess a.toList b.toList)
  | _ => none
theorem W.strCmp {bo : BinOp} {a b : ByteArray} {r : Bool} (k' : W P E n k (fput d (.bool r) fr) S) (hx : ev fr x = some (.string a) := by rfl) (hy : ev fr y = some (.string b) := by rfl) (hr : cmpS bo a b = some r := by rfl)
    (hg : wants all fr ⟨d, .binOp bo t x y t', ty, pos, after, g⟩ = some true := by rfl) (hd : okD d n = true := by rfl) : W P E n (.op all ⟨d, .binOp bo t x y t', ty, pos, after, g⟩ :: k) fr S :=
  W.val (v := .bool r) k' hg hd fun a' w ha hO => ⟨w, by
    unfold cmpS at hr
    split at hr
    all_goals first
      | (simp only [Option.some.injEq] at hr; subst hr; simp [execOp, ha.evv hx, ha.evv hy, eqGuard, binOp, Op.stringOp, bytes_eq]; done)
      | (cases hr; done), hO⟩
end
end Go.Proofs.Yteghmoijhcdpeaa
