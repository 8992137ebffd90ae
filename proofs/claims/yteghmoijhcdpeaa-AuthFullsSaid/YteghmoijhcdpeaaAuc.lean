import Derived.Test.YteghmoijhcdpeaaAub
set_option linter.unusedSimpArgs false
set_option linter.unusedVariables false
set_option maxRecDepth 100000
namespace Go.Proofs.Yteghmoijhcdpeaa
open Go.RowKit

structure Rt where
  ops : List Int
  pfx : ByteArray
  til : Nat
def opv (ops : List Int) : List Value := ops.map fun i => .int .i64 i
def RdO (F : Chunk) (v : Value) (ops : List Int) : Prop := Rd F 1 v ops.length (opv ops)
/-- The cells of rights; their ops lie in M. -/
def RtC (M : Chunk) : List Value → List Rt → Prop
  | [], [] => True
  | vo :: vp :: vu :: xs, r :: rs => RdO M vo r.ops ∧ vp = .string r.pfx ∧ vu = .int .u64 (r.til : Int) ∧ RtC M xs rs
  | _, _ => False
def RdR (X M : Chunk) (v : Value) (rs : List Rt) : Prop := ∃ xs, Rd X 3 v rs.length xs ∧ RtC M xs rs
theorem RdO.split {X : Chunk} {v : Value} {l : List Int} (h : RdO X v l) : ∃ A c, v = .slice A l.length c ∧ l.length ≤ c ∧ Hid (RdO X (.slice A l.length c) l) := Rd.split h
theorem opv_one (l : List Int) : ∀ u ∈ opv l, u.oneCell' = true := by
  intro u hu; obtain ⟨b, _, rfl⟩ := List.mem_map.1 hu; rfl
theorem rdO_nil (X : Chunk) : RdO X (.slice none 0 0) [] := Rd.none_ X 1
theorem RdO.mono {X Y : Chunk} {v : Value} {l : List Int} (h : RdO X v l) (hs : ∀ p ∈ X, p ∈ Y) : RdO Y v l := Rd.mono h hs
theorem RtC.len {M : Chunk} : ∀ {xs : List Value} {rs : List Rt}, RtC M xs rs → xs.length = rs.length * 3
  | [], [], _ => rfl
  | vo :: vp :: vu :: xs, r :: rs, h => by
    have := RtC.len h.2.2.2
    simp only [List.length_cons, this]; omega
  | [], _ :: _, h => h.elim
  | [_], _ :: _, h => h.elim
  | [_, _], _ :: _, h => h.elim
  | _ :: _, [], h => by simp [RtC] at h
theorem RtC.mono {M N : Chunk} (hs : ∀ p ∈ M, p ∈ N) : ∀ {xs : List Value} {rs : List Rt}, RtC M xs rs → RtC N xs rs
  | [], [], _ => trivial
  | vo :: vp :: vu :: xs, r :: rs, h => ⟨h.1.mono hs, h.2.1, h.2.2.1, RtC.mono hs h.2.2.2⟩
  | [], _ :: _, h => h.elim
  | [_], _ :: _, h => h.elim
  | [_, _], _ :: _, h => h.elim
  | _ :: _, [], h => by simp [RtC] at h
theorem RtC.append {M : Chunk} : ∀ {xs ys : List Value} {rs ss : List Rt}, RtC M xs rs → RtC M ys ss → RtC M (xs ++ ys) (rs ++ ss)
  | [], ys, [], ss, _, h => h
  | vo :: vp :: vu :: xs, ys, r :: rs, ss, h, h' => ⟨h.1, h.2.1, h.2.2.1, RtC.append h.2.2.2 h'⟩
  | [], _, _ :: _, _, h, _ => h.elim
  | [_], _, _ :: _, _, h, _ => h.elim
  | [_, _], _, _ :: _, _, h, _ => h.elim
  | _ :: _, _, [], _, h, _ => by simp [RtC] at h
theorem RtC.at_ {M : Chunk} : ∀ {xs : List Value} {rs : List Rt} (h : RtC M xs rs) {k : Nat} {r : Rt}, rs[k]? = some r →
    ∃ vo, xs[k * 3]? = some vo ∧ RdO M vo r.ops ∧ xs[k * 3 + 1]? = some (.string r.pfx) ∧ xs[k * 3 + 2]? = some (.int .u64 (r.til : Int))
  | [], [], _, k, r, hk => by simp at hk
  | vo :: vp :: vu :: xs, s :: rs, h, 0, r, hk => by
    simp only [List.getElem?_cons_zero, Option.some.injEq] at hk
    subst hk
    obtain ⟨h1, rfl, rfl, h4⟩ := h
    exact ⟨vo, rfl, h1, rfl, rfl⟩
  | vo :: vp :: vu :: xs, s :: rs, h, k + 1, r, hk => by
    obtain ⟨vo', e1, e2, e3, e4⟩ := RtC.at_ h.2.2.2 (k := k) (r := r) (by simpa using hk)
    refine ⟨vo', ?_, e2, ?_, ?_⟩
    · rw [show (k + 1) * 3 = k * 3 + 3 by omega]; simpa using e1
    · rw [show (k + 1) * 3 + 1 = (k * 3 + 1) + 3 by omega]; simpa using e3
    · rw [show (k + 1) * 3 + 2 = (k * 3 + 2) + 3 by omega]; simpa using e4
  | [], _ :: _, h, _, _, _ => h.elim
  | [_], _ :: _, h, _, _, _ => h.elim
  | [_, _], _ :: _, h, _, _, _ => h.elim
  | _ :: _, [], h, _, _, _ => by simp [RtC] at h
theorem RdR.split {X M : Chunk} {v : Value} {l : List Rt} (h : RdR X M v l) : ∃ A c, v = .slice A l.length c ∧ l.length ≤ c ∧ Hid (RdR X M (.slice A l.length c) l) := by
  obtain ⟨xs, h1, h2⟩ := h
  obtain ⟨A, c, rfl, hc, h1⟩ := h1.split
  exact ⟨A, c, rfl, hc, xs, h1, h2⟩
theorem RdR.mono {X M Y N : Chunk} {v : Value} {l : List Rt} (h : RdR X M v l) (hx : ∀ p ∈ X, p ∈ Y) (hm : ∀ p ∈ M, p ∈ N) : RdR Y N v l := by
  obtain ⟨xs, h1, h2⟩ := h
  exact ⟨xs, h1.mono hx, h2.mono hm⟩
theorem rdR_nil (X M : Chunk) : RdR X M (.slice none 0 0) [] := ⟨[], Rd.none_ X 3, trivial⟩
/-- One of the rights, in memory. -/
theorem RdR.at_ {X M : Chunk} {A : Option Addr} {n c : Nat} {rs : List Rt} {k : Nat} (h : RdR X M (.slice A n c) rs) (hk : k < rs.length) :
    ∃ b off vo, A = some ⟨b, off, none⟩ ∧ RdO M vo rs[k].ops ∧ FCell X ⟨b, off + k * 3, none⟩ vo ∧ FCell X ⟨b, off + k * 3 + 1, none⟩ (.string rs[k].pfx) ∧ FCell X ⟨b, off + k * 3 + 2, none⟩ (.int .u64 (rs[k].til : Int)) := by
  obtain ⟨xs, ⟨A', c', hv, _, hl, hf⟩, h2⟩ := h
  injection hv with e1 e2 e3
  subst e1
  obtain ⟨b, off, rfl, hc⟩ := hf (by omega)
  obtain ⟨vo, k1, k2, k3, k4⟩ := h2.at_ (k := k) (r := rs[k]) (by simp [hk])
  refine ⟨b, off, vo, rfl, k2, hc _ _ k1, ?_, ?_⟩
  · rw [Nat.add_assoc]; exact hc _ _ k3
  · rw [Nat.add_assoc]; exact hc _ _ k4

/-- A call. -/
structure Call where
  what : Int
  token : ByteArray
  rights : List Rt
  now : Nat
  cmd : Cmd
def ActV (F : Chunk) (cs : Array Value) (a : Call) : Prop :=
  ∃ vr ds, RdR F F vr a.rights ∧ CmdV F ds a.cmd ∧ cs = #[.int .i64 a.what, .string a.token, vr, .int .u64 (a.now : Int)] ++ ds
structure LiteA (a : Call) : Prop where
  token : a.token.size ≤ 100
  rights : a.rights.length ≤ 20
  rights1 : ∀ r ∈ a.rights, r.ops.length ≤ 20 ∧ r.pfx.size ≤ 300
  key : a.cmd.key.size ≤ 300
  keys : a.cmd.keys.length ≤ 20
  keys1 : ∀ s ∈ a.cmd.keys, s.size ≤ 300
  value : a.cmd.value.length ≤ 300
  tags : a.cmd.tags.length ≤ 20
  tags1 : ∀ s ∈ a.cmd.tags, s.size ≤ 300
  tag : a.cmd.tag.size ≤ 300
  pfx : a.cmd.pfx.size ≤ 300
  child : a.cmd.child.size ≤ 300

section
variable {P : Program} {ops : Array Oper} {rest : List Oper} {o : Oper} {a : Act} {w0 w w' : World} {Q : Exit → Act → World → Prop} {C C' : List Chunk} {b off : Nat} {c : Array Value} {T t u : TypeId} {fr : Nat × Nat} {x y : Operand} {v : Value} {k : IntKind} {i j : Int}
theorem st_loadX {n : Nat} {l : List Value} (hO : Own w0 w C) (hw : Region.wanted o (yielded ops a.tmps) = true) (ho : o.op = .load t x) (ha : a.eval x = .pointer (some ⟨b, off, none⟩)) (hs : Agg P t n)
    (hp : Pick C [(b, .cells c T fr)] C') (he : (c.toList.drop off).take n = l) (hl : l.length = n) (h : wpList P ops Q rest (a.put o.dst (.agg l.toArray)) w) : wpList P ops Q (o :: rest) a w := by
  refine st_loadP hO hw ho ha hs hp hl (fun j v hv => ?_) h
  subst he
  rw [List.getElem?_take] at hv
  split at hv
  · rw [List.getElem?_drop] at hv; simpa using hv
  · cases hv
theorem st_gtrI (hw : Region.wanted o (yielded ops a.tmps) = true) (ho : o.op = .binOp .gtr t x y u) (hx : a.eval x = .int k i) (hy : a.eval y = .int k j)
    (h : ∀ bb, Hid (bb = decide (j < i)) → wpList P ops Q rest (a.put o.dst (.bool bb)) w) : wpList P ops Q (o :: rest) a w := by
  refine st_val hw ?_ (h _ (Lib.hid rfl))
  unfold execOp
  rw [ho]
  simp only [hx, hy]
  simp [go_sem]
theorem st_neqI (hw : Region.wanted o (yielded ops a.tmps) = true) (ho : o.op = .binOp .neq t x y u) (hx : a.eval x = .int k i) (hy : a.eval y = .int k j)
    (h : ∀ bb, Hid (bb = decide (i ≠ j)) → wpList P ops Q rest (a.put o.dst (.bool bb)) w) : wpList P ops Q (o :: rest) a w := by
  refine st_val hw ?_ (h _ (Lib.hid rfl))
  unfold execOp
  rw [ho]
  simp only [hx, hy]
  simp [go_sem]
  try (rw [Bool.eq_iff_iff]; simp)
end
end Go.Proofs.Yteghmoijhcdpeaa
