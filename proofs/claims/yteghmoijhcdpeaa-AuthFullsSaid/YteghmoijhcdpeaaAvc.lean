/- The law AuthNames: its walk. -/
import Derived.Test.YteghmoijhcdpeaaAvb
import Derived.Test.YteghmoijhcdpeaaAvd
set_option linter.unusedSimpArgs false
set_option linter.unusedVariables false
set_option maxRecDepth 100000
namespace Go.Proofs.Yteghmoijhcdpeaa
open Go.RowKit

section
variable {P : Program} {E : Env} {n : Nat} {k : List K} {fr fr' : Fr} {S S' : List Chunk} {all : List Oper} {d : Option Nat} {ty : TypeId} {pos : String} {after : Array Edge} {g : Option (Nat × Bool)} {t : TypeId} {x y : Operand}
class BoolT (P : Program) (t : TypeId) : Prop where
  out : P.underlying t = some .bool
theorem run_boolEq {a b : Bool} [h : BoolT P t] (w : World) : (binOp .eql t (.bool a) (.bool b)).run P w = .ok (.bool (a == b)) w ∧ (binOp .neq t (.bool a) (.bool b)).run P w = .ok (.bool (!(a == b))) w := by
  have q0 : ∀ d, (Op.equalIn (d + 1) t (.bool a) (.bool b)).run P w = .ok (a == b) w := fun d => by simp [Op.equalIn, run_underlying h.out]
  have q0 := q0 9999
  have b1 : binOp .eql t (.bool a) (.bool b) = (do pure (.bool (← Op.equal t (.bool a) (.bool b)))) := by simp [binOp]
  have b2 : binOp .neq t (.bool a) (.bool b) = (do pure (.bool (!(← Op.equal t (.bool a) (.bool b))))) := by simp [binOp]
  constructor
  · rw [b1]; simp [Op.equal, Op.maxDepth, q0]
  · rw [b2]; simp [Op.equal, Op.maxDepth, q0]
/-- Truth values that differ. -/
theorem W.boolNe {a b : Bool} {t' : TypeId} [h : BoolT P t] (k' : W P E n k (fput d (.bool (!(a == b))) fr) S) (hx : ev fr x = some (.bool a) := by rfl) (hy : ev fr y = some (.bool b) := by rfl)
    (hg : wants all fr ⟨d, .binOp .neq t x y t', ty, pos, after, g⟩ = some true := by rfl) (hd : okD d n = true := by rfl) : W P E n (.op all ⟨d, .binOp .neq t x y t', ty, pos, after, g⟩ :: k) fr S :=
  W.val (v := .bool (!(a == b))) k' hg hd fun a' w ha hO => ⟨w, by
    have h0 : (eqGuard .neq t x y (.bool a) (.bool b)).run P w = .ok () w := by simp [eqGuard]
    simp [execOp, ha.evv hx, ha.evv hy, h0, (run_boolEq (P := P) w).2], hO⟩
end
instance : BoolT Try.prog 4 := ⟨by kernel_rfl⟩

theorem sp8 {F : Chunk} {cs : Array Value} {a : Call} (ha : ActV F cs a) (hn : a.token.size ≤ 9223372036854775807) : Spec Try.prog 8 [.agg cs] [F] fun v B => ∃ b, v = .bool b ∧ (b = true → LiteA a) ∧ B = [F] :=
  .of fun hO => (light8 (C := F :: _) hO .here ha hn).mono fun _ _ ⟨b, h1, h2, h3⟩ => ⟨_, [F], h1, ⟨b, rfl, h2, rfl⟩, h3⟩
theorem sp13 (s : ByteArray) (hs : s.size ≤ 1000) : Spec Try.prog 13 [.string s] [] fun v B => v = .bool (tokF s) ∧ B = [] :=
  .of fun hO => (tok13 s hs _).mono fun _ _ ⟨h1, h2⟩ => ⟨_, [], h1, ⟨rfl, rfl⟩, h2 ▸ hO⟩
theorem sp11 {X : Chunk} {cs : Array Value} {q : Cmd} (hq : CmdV X cs q) (hL : Lite q) :
    Spec Try.prog 11 [.agg cs] [X] fun v B => ∃ A c K, v = .tuple #[.slice A (if validF q then namesF q else []).length c, .bool (validF q)] ∧ (RdS X (.slice A (if validF q then namesF q else []).length c) (if validF q then namesF q else []) ∨ RdS K (.slice A (if validF q then namesF q else []).length c) (if validF q then namesF q else [])) ∧ B = [K, X] :=
  .of fun hO => (names11 (C := X :: _) hO .here hq hL).mono fun _ _ ⟨A, n, c, K, h1, h2, h3, h4⟩ => ⟨_, [K, X], h1, ⟨A, c, K, by rw [h3], by rw [h3] at h4; exact h4, rfl⟩, h2⟩

abbrev actO (a : Call) (Ar : Option Addr) (cr : Nat) (A1 : Option Addr) (n1 c1 : Nat) (A2 : Option Addr) (n2 c2 : Nat) (A3 : Option Addr) (n3 c3 : Nat) : Obj :=
  .cells #[.int .i64 a.what, .string a.token, .slice Ar a.rights.length cr, .int .u64 (a.now : Int), .int .i64 a.cmd.op, .string a.cmd.key, .slice A1 n1 c1, .slice A2 n2 c2, .slice A3 n3 c3, .int .u64 (a.cmd.life : Int), .int .u64 (a.cmd.version : Int), .string a.cmd.tag, .string a.cmd.pfx, .string a.cmd.child] 31 (0, 0)
theorem names3 {F : Chunk} {cs : List Value} {a : Call} (hA : ActR F cs a) : Spec Try.prog 3 [.agg cs.toArray] [F] fun v B => v = .bool true ∧ B = [F] := by
  obtain ⟨ha, hn, hlf, hvr⟩ := hA
  generalize cs.toArray = cs at ha ⊢
  have ha' := ha
  obtain ⟨vr, ds, hr, hc, rfl⟩ := ha
  have hc' := hc
  obtain ⟨A1, n1, c1, A2, n2, c2, A3, n3, c3, rfl⟩ := hc'.cells
  obtain ⟨Ar, cr, rfl, _, _⟩ := hr.split
  simp only [List.append_toArray, List.cons_append, List.nil_append] at ha' ⊢
  refine Spec.enter Try.func3 rfl Try.ntmps3 rfl fun w0 C => ?_
  repeat refine Wst (k := ?_)
  intro b
  repeat refine Wst (k := ?_)
  refine W.call (sp8 ha' hn) ?_
  rintro _ _ ⟨bb, rfl, hl, rfl⟩
  repeat refine Wst (k := ?_)
  refine W.cond rfl (fun h1 => ?_) (fun h1 => ?_)
  · repeat refine Wst (k := ?_)
    refine W.call known9 ?_
    rintro _ _ ⟨rfl, rfl⟩
    repeat refine Wst (k := ?_)
    exact W.ret (B := [F]) ⟨rfl, rfl⟩
  have hl := hl h1
  have hL : Lite a.cmd := ⟨hl.key, hl.keys, hl.keys1, hl.value, hl.tags, hl.tags1, hl.tag, hl.pfx, hl.child, hlf, hvr⟩
  have ht := hl.token
  repeat refine Wst (k := ?_)
  refine W.call (sp10 hc hL) ?_
  rintro _ _ ⟨A, n, c, K, rfl, hs1, hn1, rfl⟩
  repeat refine Wst (k := ?_)
  refine W.call (sp11 hc hL) ?_
  rintro _ _ ⟨Aw, cw, Kw, rfl, hw, rfl⟩
  repeat refine Wst (k := ?_)
  refine W.cutN 1 (fun fr S => fr = [(1, .pointer (some ⟨b, 0, none⟩)), (3, .slice A n c), (4, .int .i64 (if validF a.cmd then 0 else 2)), (5, .slice Aw (if validF a.cmd then namesF a.cmd else []).length cw), (6, .bool (validF a.cmd)), (33, .bool (!(tokF a.token == tokF a.token)))] ∧
    S = [[(b, actO a Ar cr A1 n1 c1 A2 n2 c2 A3 n3 c3)], K, Kw, F]) ?_ ?_
  case refine_2 =>
    refine W.draw [[(b, actO a Ar cr A1 n1 c1 A2 n2 c2 A3 n3 c3)]] ?_
    repeat' (first
      | refine Wst (k := ?_)
      | (refine W.call (sp12 a.token (by omega)) ?_; rintro _ _ ⟨rfl, rfl⟩)
      | (refine W.call (sp13 a.token (by omega)) ?_; rintro _ _ ⟨rfl, rfl⟩)
      | refine W.boolNe ?_)
    all_goals exact W.post ⟨rfl, rfl⟩
  rintro _ _ ⟨rfl, rfl⟩
  rw [show (!(tokF a.token == tokF a.token)) = false by simp]
  cases hv : validF a.cmd
  · simp only [hv, Bool.false_eq_true, ↓reduceIte, List.length_nil] at hn1 ⊢
    subst hn1
    repeat refine Wst (k := ?_)
    refine W.call known9 ?_
    rintro _ _ ⟨rfl, rfl⟩
    repeat refine Wst (k := ?_)
    exact W.ret (B := [F]) ⟨rfl, rfl⟩
  simp only [hv, ↓reduceIte] at hn1 hs1 hw ⊢
  subst hn1
  have hns := namesF_n hL
  generalize hnn : namesF a.cmd = ns at *
  have hwY : ∃ Y, (Y = F ∨ Y = Kw) ∧ RdS Y (.slice Aw ns.length cw) ns := by rcases hw with hw | hw; exact ⟨F, .inl rfl, hw⟩; exact ⟨Kw, .inr rfl, hw⟩
  repeat refine Wst (k := ?_)
  refine W.cutN 2 (fun fr S => fr = [(1, .pointer (some ⟨b, 0, none⟩)), (3, .slice A ns.length c), (5, .slice Aw ns.length cw), (7, .bool true)] ∧ S = [[(b, actO a Ar cr A1 n1 c1 A2 n2 c2 A3 n3 c3)], K, Kw, F]) ?_ ?_
  case refine_2 =>
    obtain ⟨Y, hY, hrY⟩ := hwY
    rcases hY with rfl | rfl
    all_goals
      refine W.call (sp14 hs1.rd hrY (by omega)) ?_
      rintro _ _ ⟨rfl, rfl⟩
      rw [show decide (ns = ns) = true by simp]
      repeat refine Wst (k := ?_)
      exact W.post ⟨rfl, rfl⟩
  rintro _ _ ⟨rfl, rfl⟩
  refine W.seq ?_
  refine W.cutN 1 (fun fr S => fr = [(1, .pointer (some ⟨b, 0, none⟩)), (5, .slice Aw ns.length cw), (7, .bool true)] ∧ S = [[(b, actO a Ar cr A1 n1 c1 A2 n2 c2 A3 n3 c3)], Kw, F]) ?_ ?_
  case refine_2 =>
    obtain ⟨hl1, ⟨hv1, hn0, _⟩ | ⟨g, cap, cur, hv1, rfl, hcap, _, hsz, _⟩⟩ := hs1
    · repeat refine Wst (k := ?_)
      refine W.loop (fun m fr S => fr = [(1, .pointer (some ⟨b, 0, none⟩)), (3, .slice A ns.length c), (5, .slice Aw ns.length cw), (7, .bool true), (8, .int .i64 0)] ∧ S = [[(b, actO a Ar cr A1 n1 c1 A2 n2 c2 A3 n3 c3)], Kw, F]) (m := 0) ⟨rfl, rfl⟩ ?_
      rintro m _ _ ⟨rfl, rfl⟩
      repeat refine Wst (k := ?_)
      refine W.cond rfl (fun h => ?_) (fun h => ?_)
      · omega
      · repeat refine Wst (k := ?_)
        exact W.post ⟨rfl, rfl⟩
    · injection hv1 with e1 e2 e3
      subst e1
      repeat refine Wst (k := ?_)
      refine W.loop (fun m fr S => ∃ (i : Nat) (cu : Array Value), i ≤ ns.length ∧ m = ns.length - i ∧ cu.size = cap * 1 ∧ fr = [(1, .pointer (some ⟨b, 0, none⟩)), (3, .slice (some ⟨g, 0, none⟩) ns.length c), (5, .slice Aw ns.length cw), (7, .bool true), (8, .int .i64 (i : Int))] ∧
        S = [[(b, actO a Ar cr A1 n1 c1 A2 n2 c2 A3 n3 c3)], [(g, .cells cu 9 (0, 0))], Kw, F]) ⟨0, cur, by omega, rfl, hsz, rfl, rfl⟩ ?_
      rintro m _ _ ⟨i, cu, hi, rfl, hcu, rfl, rfl⟩
      repeat refine Wst (k := ?_)
      refine W.cond rfl (fun h => ?_) (fun h => ?_)
      · repeat refine Wst (k := ?_)
        refine W.storeX ?_
        repeat refine Wst (k := ?_)
        exact W.post ⟨_, ⟨i + 1, cu.setIfInBounds (0 + i) (.string ⟨#[99, 104, 97, 110, 103, 101, 100]⟩), by omega, rfl, by simpa using hcu, rfl, rfl⟩, by omega⟩
      · repeat refine Wst (k := ?_)
        exact W.post ⟨rfl, rfl⟩
  rintro _ _ ⟨rfl, rfl⟩
  repeat refine Wst (k := ?_)
  refine W.call (sp11 hc hL) ?_
  rintro _ _ ⟨A5, c5, K5, rfl, hw5, rfl⟩
  simp only [hv, hnn, ↓reduceIte] at hw5 ⊢
  repeat refine Wst (k := ?_)
  refine W.cutN 1 (fun fr S => fr = [(7, .bool true), (69, .bool true), (72, .bool true)] ∧ S = [F]) ?_ ?_
  case refine_2 =>
    obtain ⟨Y, hY, hrY⟩ := hwY
    rcases hY with rfl | rfl <;> rcases hw5 with hw5 | hw5
    case inl.inl =>
      refine W.call (sp14x hw5 hrY (by omega)) ?_
      rintro _ _ ⟨rfl, rfl⟩
      rw [show decide (ns = ns) = true by simp]
      exact W.post ⟨rfl, rfl⟩
    all_goals
      refine W.call (sp14 hw5 hrY (by omega)) ?_
      rintro _ _ ⟨rfl, rfl⟩
      rw [show decide (ns = ns) = true by simp]
      exact W.post ⟨rfl, rfl⟩
  rintro _ _ ⟨rfl, rfl⟩
  repeat refine Wst (k := ?_)
  refine W.call known9 ?_
  rintro _ _ ⟨rfl, rfl⟩
  repeat refine Wst (k := ?_)
  exact W.ret (B := [F]) ⟨rfl, rfl⟩
end Go.Proofs.Yteghmoijhcdpeaa
