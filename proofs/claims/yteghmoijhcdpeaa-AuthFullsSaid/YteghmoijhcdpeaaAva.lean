/- Contracts of package auth as used by the laws: the ring's calls. -/
import Derived.Test.YteghmoijhcdpeaaAuk
import Derived.Test.YteghmoijhcdpeaaWe
import Derived.Test.YteghmoijhcdpeaaWt
set_option linter.unusedSimpArgs false
set_option linter.unusedVariables false
set_option maxRecDepth 100000
namespace Go.Proofs.Yteghmoijhcdpeaa
open Go.RowKit

instance : Mix Try.prog := ⟨by kernel_rfl⟩
section
variable {P : Program} {E : Env} {n : Nat} {k : List K} {fr fr' : Fr} {S S' : List Chunk} {all : List Oper} {d : Option Nat} {ty : TypeId} {pos : String} {after : Array Edge} {g : Option (Nat × Bool)} {t : TypeId} {x y : Operand}
/-- A map held against nil. -/
theorem W.mapNil {kt et : Nat} {t' : TypeId} {m : Option Nat} [h : MapT P t kt et] (k' : W P E n k (fput d (.bool m.isNone) fr) S) (hx : ev fr x = some (.map m) := by rfl) (hy : ev fr y = some (.map none) := by rfl)
    (hg : wants all fr ⟨d, .binOp .eql t x y t', ty, pos, after, g⟩ = some true := by rfl) (hd : okD d n = true := by rfl) : W P E n (.op all ⟨d, .binOp .eql t x y t', ty, pos, after, g⟩ :: k) fr S :=
  W.val (v := .bool m.isNone) k' hg hd fun a w ha hO => ⟨w, by
    have := run_eql_map_nil (P := P) w t kt et m h.out
    simp [execOp, ha.evv hx, ha.evv hy, eqGuard_at_map, this], hO⟩
/-- A map's length, by what the builtin does. -/
theorem W.lenR {m : Value} {l : Int} (hrun : ∀ w, Own E.w0 w (S ++ E.C) → (Builtin.len_ #[t] ty #[m]).run P w = .ok (.int .i64 l) w) (k' : W P E n k (fput d (.int .i64 l) fr) S) (hx : ev fr x = some m := by rfl)
    (hg : wants all fr ⟨d, .call ⟨.builtin .len, #[x], #[t]⟩, ty, pos, after, g⟩ = some true := by rfl) (hd : okD d n = true := by rfl) : W P E n (.op all ⟨d, .call ⟨.builtin .len, #[x], #[t]⟩, ty, pos, after, g⟩ :: k) fr S :=
  W.val (v := .int .i64 l) k' hg hd fun a w ha hO => ⟨w, by simp [execOp, resolve, invoke, builtin, ha.evv hx, hrun w hO], hO⟩
end
theorem Spec.of {P : Program} {f : FuncId} {args : List Value} {A : List Chunk} {R : Value → List Chunk → Prop}
    (h : ∀ {w0 w C}, Own w0 w (A ++ C) → Calls P f args.toArray w fun e w' => ∃ v B, e = .returned v ∧ R v B ∧ Own w0 w' (B ++ C)) : Spec P f args A R := fun _ _ _ hO => h hO

theorem sp12 (s : ByteArray) (hs : s.size ≤ 1000) : Spec Try.prog 12 [.string s] [] fun v B => v = .bool (tokF s) ∧ B = [] :=
  .of fun hO => (tok12 s hs _).mono fun _ _ ⟨h1, h2⟩ => ⟨_, [], h1, ⟨rfl, rfl⟩, h2 ▸ hO⟩
theorem sp26 {X : Chunk} {v : Value} {rs : List Rt} (hv : RdR X X v rs) (hs : ∀ r ∈ rs, Short r) (hn : rs.length ≤ 1000) : Spec Try.prog 26 [v, .func (.func 27) #[] #[]] [X] fun v B => v = .bool (rs.any fun r => !validR r) ∧ B = [X] :=
  .of fun hO => (contains26 hO .here .here hv (says27 .here) hs hn).mono fun _ _ ⟨h1, h2⟩ => ⟨_, [X], h1, ⟨rfl, rfl⟩, h2⟩
theorem sp29 {X : Chunk} {v : Value} {rs : List Rt} (hv : RdR X X v rs) (hs : ∀ r ∈ rs, Short r) (hn : rs.length ≤ 1000) : Spec Try.prog 29 [v] [X] fun v B => ∃ A' c' K M, v = .slice A' rs.length c' ∧ SlR (.slice A' rs.length c') rs.length rs K M ∧ B = [K, M, X] :=
  .of fun hO => (copied29 hO .here .here hv hs hn).mono fun _ _ ⟨A', c', K, M, h1, h2, h3⟩ => ⟨_, [K, M, X], h1, ⟨A', c', K, M, rfl, h2, rfl⟩, h3⟩

theorem run_len_map {w : World} {m : Nat} {es : Array MapEntry} {clock ty : Nat} (hb : w.heap[m]? = some (.map es clock)) : (Builtin.len_ #[42] ty #[.map (some m)]).run Try.prog w = .ok (.int .i64 (es.size : Int)) w := by
  simp [Builtin.len_, run_underlying u42, MapKept.run_getObj_map (P := Try.prog) hb]
  rfl
theorem run_len_nil {w : World} {ty : Nat} : (Builtin.len_ #[42] ty #[.map none]).run Try.prog w = .ok (.int .i64 0) w := by
  simp [Builtin.len_, run_underlying u42]
  rfl
theorem look_det {M : Chunk} {es : Array MapEntry} {T : Tk} (he : Ents M es.toList T) (k : ByteArray) : ∃ A c, RdR M M (.slice A (getK T k).length c) (getK T k) ∧ ∀ (w : World) (m ck : Nat) (co : Bool), w.heap[m]? = some (.map es ck) →
    (Instr.lookup 42 (.map (some m)) (.string k) co).run Try.prog w = .ok (if co then .tuple #[.slice A (getK T k).length c, .bool (hasK T k)] else .slice A (getK T k).length c) w := by
  have hf := findNow_ents (k := k) 0 he
  have hk : MapKept.IsKey .string (.string k) := trivial
  unfold hasK getK
  cases hi : idxK T k with
  | none =>
    rw [hi] at hf
    refine ⟨none, 0, rdR_nil _ _, fun w m ck co hb => ?_⟩
    have h1 := MapKept.run_getObj_map (P := Try.prog) hb
    have h2 := MapKept.run_checkKey (P := Try.prog) (w := w) u9 hk es.isEmpty 9999
    have h3 := MapKept.run_findKey (P := Try.prog) (w := w) u9 hf
    have h4 := zero22 w
    simp [Instr.lookup, run_underlying u42, h1, h2, h3, h4]
    try (cases co <;> rfl)
  | some j =>
    rw [hi] at hf
    obtain ⟨p, hp, rfl⟩ := idxK_lt hi
    obtain ⟨e, e1, e2, e3⟩ := he.at_ hp
    obtain ⟨A, c, hv, _, hr⟩ := e3.split
    simp only [e1, Option.map_some, hv] at hf
    refine ⟨A, c, by simpa [hp] using hr.out, fun w m ck co hb => ?_⟩
    have h1 := MapKept.run_getObj_map (P := Try.prog) hb
    have h2 := MapKept.run_checkKey (P := Try.prog) (w := w) u9 hk es.isEmpty 9999
    have h3 := MapKept.run_findKey (P := Try.prog) (w := w) u9 hf
    simp [Instr.lookup, run_underlying u42, h1, h2, h3, hp]
    try (cases co <;> rfl)
theorem RingC.split {r : Nat} {T : Tk} {M R : Chunk} (h : RingC r T M R) (k : ByteArray) : ∃ mv R' A c, R = (r, .cells #[.map mv] 44 (0, 0)) :: R' ∧ (mv = none → R' = [] ∧ T = []) ∧ (∀ m, mv = some m → ∃ es ck, R' = [(m, .map es ck)] ∧ Ents M es.toList T) ∧
    RdR M M (.slice A (getK T k).length c) (getK T k) ∧
    ∀ (w0 w : World) (C : List Chunk), Own w0 w (((r, .cells #[.map mv] 44 (0, 0)) :: R') :: C) → (∀ co, (Instr.lookup 42 (.map mv) (.string k) co).run Try.prog w = .ok (if co then .tuple #[.slice A (getK T k).length c, .bool (hasK T k)] else .slice A (getK T k).length c) w) ∧
      ∀ ty, (Builtin.len_ #[42] ty #[.map mv]).run Try.prog w = .ok (.int .i64 (T.length : Int)) w := by
  rcases h with ⟨rfl, rfl⟩ | ⟨m, es, clock, rfl, he⟩
  · exact ⟨none, [], none, 0, rfl, fun _ => ⟨rfl, rfl⟩, (by intro m h; cases h), rdR_nil _ _, fun _ _ _ _ => ⟨fun co => look_nil _ k co, fun ty => run_len_nil⟩⟩
  · obtain ⟨A, c, hv, hr⟩ := look_det he k
    refine ⟨some m, [(m, .map es clock)], A, c, rfl, (by intro h; cases h), fun m' h => ?_, hv, fun w0 w C hO => ?_⟩
    · injection h with h; subst h; exact ⟨es, clock, rfl, he⟩
    · have hb : w.heap[m]? = some (.map es clock) := hO.block .here (by simp)
      refine ⟨fun co => hr w m clock co hb, fun ty => ?_⟩
      rw [run_len_map hb]
      have : es.size = T.length := by simpa using he.len
      rw [this]
theorem Own.setMap {w0 w : World} {S S' C : List Chunk} {m : Nat} {o o' : Obj} (hO : Own w0 w (S ++ C)) [h : PickB S m o S'] : Own w0 { w with heap := w.heap.setIfInBounds m o' } (([(m, o')] :: S') ++ C) := by
  have h1 := hO.pickB (h := h)
  have hb := h1.block1 .here
  have hs := MapKept.heap_set (o' := o') hb
  exact h1.upd .here rfl rfl rfl hs.1 hs.2
theorem upd_det {M : Chunk} {es : Array MapEntry} {ck : Nat} {T : Tk} {v : Value} {rs : List Rt} (he : Ents M es.toList T) (k : ByteArray) (hv : RdR M M v rs) :
    ∃ es' ck', Ents M es'.toList (updK T k rs) ∧ ∀ (w : World) (m : Nat), w.heap[m]? = some (.map es ck) → (Instr.mapUpdate 42 (.map (some m)) (.string k) v).run Try.prog w = .ok () { w with heap := w.heap.setIfInBounds m (.map es' ck') } := by
  have hf := findNow_ents (k := k) 0 he
  have hk : MapKept.IsKey .string (.string k) := trivial
  unfold updK
  cases hi : idxK T k with
  | none =>
    rw [hi] at hf
    refine ⟨es.push { key := .string k, val := v, born := ck }, ck + 1, ?_, fun w m hb => ?_⟩
    · rw [Array.toList_push]
      exact he.snoc rfl hv
    · have h1 := MapKept.run_getObj_map (P := Try.prog) hb
      have h2 := MapKept.run_checkKey (P := Try.prog) (w := w) u9 hk false 9999
      have h3 := MapKept.run_findKey (P := Try.prog) (w := w) u9 hf
      simp [Instr.mapUpdate, run_underlying u42, h1, h2, h3, MapKept.run_setObj_map (P := Try.prog) _ hb]
  | some j =>
    rw [hi] at hf
    obtain ⟨p, hp, rfl⟩ := idxK_lt hi
    obtain ⟨e, e1, e2, e3⟩ := he.at_ hp
    simp only [e1, Option.map_some, Nat.zero_add] at hf
    have e1' : es[j]? = some e := by simpa using e1
    refine ⟨es.modify j fun x => { x with key := .string p.1, val := v }, ck, ?_, fun w m hb => ?_⟩
    · have hs : (es.modify j fun x => { x with key := .string p.1, val := v }).toList = es.toList.set j { e with key := .string p.1, val := v } := by
        rw [Array.toList_modify]
        apply List.ext_getElem?
        intro i
        rw [List.getElem?_modify, List.getElem?_set]
        by_cases hij : j = i
        · subst hij
          have : j < es.toList.length := (List.getElem?_eq_some_iff.1 e1).1
          simp [e1', this]
          simpa using this
        · simp [hij]
      rw [hs]
      exact he.set rfl hv
    · have h1 := MapKept.run_getObj_map (P := Try.prog) hb
      have h2 := MapKept.run_checkKey (P := Try.prog) (w := w) u9 hk false 9999
      have h3 := MapKept.run_findKey (P := Try.prog) (w := w) u9 hf
      simp [Instr.mapUpdate, run_underlying u42, h1, h2, h3, e1', e2, MapKept.run_keyThatStays (P := Try.prog) hk, MapKept.run_setObj_map (P := Try.prog) _ hb]
theorem del_det {M : Chunk} {es : Array MapEntry} {ck : Nat} {T : Tk} (he : Ents M es.toList T) (k : ByteArray) :
    ∃ es' ck', Ents M es'.toList (delK T k) ∧ ∀ (w : World) (m : Nat) (ty : TypeId), w.heap[m]? = some (.map es ck) → (Builtin.delete_ #[42, 9] ty #[.map (some m), .string k]).run Try.prog w = .ok (.tuple #[]) { w with heap := w.heap.setIfInBounds m (.map es' ck') } := by
  have hf := findNow_ents (k := k) 0 he
  have hk : MapKept.IsKey .string (.string k) := trivial
  unfold delK
  cases hi : idxK T k with
  | none =>
    rw [hi] at hf
    refine ⟨es, ck, he, fun w m ty hb => ?_⟩
    have h1 := MapKept.run_getObj_map (P := Try.prog) hb
    have h2 := MapKept.run_checkKey (P := Try.prog) (w := w) u9 hk es.isEmpty 9999
    have h3 := MapKept.run_findKey (P := Try.prog) (w := w) u9 hf
    simp [Builtin.delete_, run_underlying u42, h1, h2, h3, MapKept.run_setObj_map (P := Try.prog) _ hb]
  | some j =>
    rw [hi] at hf
    obtain ⟨p, hp, rfl⟩ := idxK_lt hi
    obtain ⟨e, e1, e2, e3⟩ := he.at_ hp
    simp only [e1, Option.map_some, Nat.zero_add] at hf
    refine ⟨es.eraseIdxIfInBounds j, ck, ?_, fun w m ty hb => ?_⟩
    · have hj : j < es.size := by simpa using (List.getElem?_eq_some_iff.1 e1).1
      have hs : (es.eraseIdxIfInBounds j).toList = es.toList.eraseIdx j := by
        simp [Array.eraseIdxIfInBounds, hj, Array.toList_eraseIdx]
      rw [hs]
      exact he.erase
    · have h1 := MapKept.run_getObj_map (P := Try.prog) hb
      have h2 := MapKept.run_checkKey (P := Try.prog) (w := w) u9 hk es.isEmpty 9999
      have h3 := MapKept.run_findKey (P := Try.prog) (w := w) u9 hf
      simp [Builtin.delete_, run_underlying u42, h1, h2, h3, MapKept.run_setObj_map (P := Try.prog) _ hb]
/-- The ring after a grant, and what is returned. -/
def grantF (T : Tk) (tok : ByteArray) (l : List Rt) : Tk × Int :=
  if !tokF tok ∨ l = [] ∨ l.any (fun r => !validR r) then (T, 2)
  else if 16 < (getK T tok).length + l.length then (T, 5)
  else if !hasK T tok ∧ 500 ≤ T.length then (T, 7)
  else (updK T tok (getK T tok ++ l), 0)

theorem grant15 {L M R : Chunk} {r : Nat} {T : Tk} {tok : ByteArray} {v : Value} {l : List Rt} (hR : RingC r T M R) (hT : TkOk T) (hv : RdR L L v l) (hl : ∀ x ∈ l, Short x) (hn : l.length ≤ 1000) (htk : tok.size ≤ 1000) :
    Spec Try.prog 15 [.pointer (some ⟨r, 0, none⟩), .string tok, v] [R, M, L] fun v B => ∃ R' M', v = .int .i64 (grantF T tok l).2 ∧ RingC r (grantF T tok l).1 M' R' ∧ B = [R', M', L] := by
  refine Spec.enter Try.func15 rfl Try.ntmps15 rfl fun w0 C => ?_
  obtain ⟨Av, cv, rfl, hcv, HV⟩ := hv.split
  obtain ⟨hk1, hk2⟩ := getK_ok hT tok
  have e2 : ∀ h : (!tokF tok ∨ l = [] ∨ l.any (fun r => !validR r)), grantF T tok l = (T, 2) := fun h => by unfold grantF; rw [if_pos h]
  repeat refine Wst (k := ?_)
  refine W.call (sp12 tok htk) (k' := ?_)
  rintro _ _ ⟨rfl, rfl⟩
  repeat refine Wst (k := ?_)
  refine W.gd rfl rfl (fun h1 => ?_) (fun h1 => ?_)
  · repeat refine Wst (k := ?_)
    exact W.ret (B := [R, M, L]) ⟨R, M, by rw [e2 (.inl (by simpa using h1))], by rw [e2 (.inl (by simpa using h1))]; exact hR, rfl⟩
  repeat refine Wst (k := ?_)
  refine W.gd rfl rfl (fun h2 => ?_) (fun h2 => ?_)
  · have h2 : l = [] := List.eq_nil_of_length_eq_zero (by omega)
    repeat refine Wst (k := ?_)
    exact W.ret (B := [R, M, L]) ⟨R, M, by rw [e2 (.inr (.inl h2))], by rw [e2 (.inr (.inl h2))]; exact hR, rfl⟩
  have h2 : l ≠ [] := fun h => h2 (by simp [h])
  repeat refine Wst (k := ?_)
  refine W.call (sp26 HV.out hl hn) (k' := ?_)
  rintro _ _ ⟨rfl, rfl⟩
  repeat refine Wst (k := ?_)
  refine W.cond rfl (fun h3 => ?_) (fun h3 => ?_)
  · repeat refine Wst (k := ?_)
    exact W.ret (B := [R, M, L]) ⟨R, M, by rw [e2 (.inr (.inr h3))], by rw [e2 (.inr (.inr h3))]; exact hR, rfl⟩
  have e : grantF T tok l = if 16 < (getK T tok).length + l.length then (T, 5) else if !hasK T tok ∧ 500 ≤ T.length then (T, 7) else (updK T tok (getK T tok ++ l), 0) := by
    unfold grantF; rw [if_neg (by simp [h1, h2, h3])]
  obtain ⟨mv, R', A, c, rfl, hn0, hn1, hrd, hrun⟩ := hR.split tok
  repeat refine Wst (k := ?_)
  refine W.lookup rfl rfl (fun w hO => (hrun _ _ _ hO.one).1 true) (k' := ?_)
  repeat refine Wst (k := ?_)
  refine W.cond rfl (fun h4 => ?_) (fun h4 => ?_)
  · repeat refine Wst (k := ?_)
    rw [if_pos (by omega)] at e
    exact W.ret (B := [_, M, L]) ⟨_, M, by rw [e], by rw [e]; exact hR, rfl⟩
  rw [if_neg (by omega)] at e
  repeat refine Wst (k := ?_)
  refine W.cutN 4 (fun fr S => ¬ (hasK T tok = false ∧ 500 ≤ T.length) ∧ fr = [(0, .pointer (some ⟨r, 0, none⟩)), (1, .string tok), (2, .slice Av l.length cv), (7, .slice A (getK T tok).length c)] ∧ S = [L, (r, .cells #[.map mv] 44 (0, 0)) :: R', M]) ?_ ?_
  case refine_2 =>
    refine W.gd rfl rfl (fun h5 => ?_) (fun h5 => ?_)
    · repeat refine Wst (k := ?_)
      refine W.lenR (fun w hO => (hrun _ _ _ hO.one).2 _) (k' := ?_)
      repeat refine Wst (k := ?_)
      refine W.cond rfl (fun h6 => ?_) (fun h6 => ?_)
      · repeat refine Wst (k := ?_)
        rw [if_pos ⟨by simp [h5], by omega⟩] at e
        exact W.ret (B := [_, M, L]) ⟨_, M, by rw [e], by rw [e]; exact hR, rfl⟩
      repeat refine Wst (k := ?_)
      exact W.post ⟨fun h => h6 (by omega), rfl, rfl⟩
    · repeat refine Wst (k := ?_)
      exact W.post ⟨fun h => by rw [h5] at h; simp at h, rfl, rfl⟩
  rintro _ _ ⟨h7, rfl, rfl⟩
  have e : grantF T tok l = (updK T tok (getK T tok ++ l), 0) := by rw [e, if_neg (by simpa using h7)]
  refine W.seq ?_
  refine W.cutN 1 (fun fr S => ∃ m es ck, Ents M es.toList T ∧ fr = [(0, .pointer (some ⟨r, 0, none⟩)), (1, .string tok), (2, .slice Av l.length cv), (7, .slice A (getK T tok).length c)] ∧ S = [L, [(r, .cells #[.map (some m)] 44 (0, 0))], [(m, .map es ck)], M]) ?_ ?_
  case refine_2 =>
    cases mv with
    | none =>
      obtain ⟨rfl, rfl⟩ := hn0 rfl
      repeat refine Wst (k := ?_)
      refine W.mapNil ?_
      repeat refine Wst (k := ?_)
      intro m
      repeat refine Wst (k := ?_)
      exact W.post ⟨m, #[], 0, trivial, rfl, rfl⟩
    | some m =>
      obtain ⟨es, ck, rfl, he⟩ := hn1 m rfl
      repeat refine Wst (k := ?_)
      refine W.mapNil ?_
      repeat refine Wst (k := ?_)
      exact W.post ⟨m, es, ck, he, rfl, rfl⟩
  rintro _ _ ⟨m, es, ck, he, rfl, rfl⟩
  refine W.seq ?_
  refine W.cutN 1 (fun fr S => ∃ R' M', RingC r (updK T tok (getK T tok ++ l)) M' R' ∧ fr = [] ∧ S = [R', M', L]) ?_ ?_
  case refine_2 =>
    refine W.draw [[(r, .cells #[.map (some m)] 44 (0, 0))]] ?_
    repeat' (first
      | refine Wst (k := ?_)
      | (refine W.call (sp29 hrd hk2 hk1) (k' := ?_); rintro _ _ ⟨A1, c1, K1, M1, rfl, ⟨xs1, _, hsl1, hr1, ho1⟩, rfl⟩)
      | (refine W.call (sp29 HV.out hl hn) (k' := ?_); rintro _ _ ⟨A2, c2, K2, M2, rfl, ⟨xs2, _, hsl2, hr2, ho2⟩, rfl⟩))
    all_goals
      refine W.append hsl1 hsl2.rd (fun A3 c3 K3 hsl3 => ?_) ho2 (by omega)
      have hv3 : RdR (K3 ++ (M2 ++ (M1 ++ M))) (K3 ++ (M2 ++ (M1 ++ M))) (.slice A3 ((getK T tok).length + l.length) c3) (getK T tok ++ l) :=
        ⟨xs1 ++ xs2, by rw [List.length_append]; exact hsl3.rd.mono (by intro p hp; simp [hp]), RtC.append (hr1.mono (by intro p hp; simp [hp])) (hr2.mono (by intro p hp; simp [hp]))⟩
      obtain ⟨es', ck', he', hrunU⟩ := upd_det (he.mono (N := K3 ++ (M2 ++ (M1 ++ M))) (by intro p hp; simp [hp])) tok hv3
      repeat refine Wst (k := ?_)
      refine W.mapUpdate rfl rfl rfl (fun w hO => ⟨_, hrunU w m hO.obj, hO.setMap⟩) ?_
      repeat refine Wst (k := ?_)
      exact W.post ⟨[(r, .cells #[.map (some m)] 44 (0, 0)), (m, .map es' ck')], K3 ++ (M2 ++ (M1 ++ M)), .inr ⟨m, es', ck', rfl, he'⟩, rfl, rfl⟩
  rintro _ _ ⟨R2, M2, h8, rfl, rfl⟩
  repeat refine Wst (k := ?_)
  exact W.ret (B := [R2, M2, L]) ⟨R2, M2, by rw [e], by rw [e]; exact h8, rfl⟩
end Go.Proofs.Yteghmoijhcdpeaa
