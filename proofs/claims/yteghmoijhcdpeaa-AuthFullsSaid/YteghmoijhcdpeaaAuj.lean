import Derived.Test.YteghmoijhcdpeaaAui
import Derived.MapKept
--KINDS
set_option linter.unusedSimpArgs false
set_option linter.unusedVariables false
set_option maxRecDepth 100000
namespace Go.Proofs.Yteghmoijhcdpeaa
open Go.RowKit

/-- Tokens with their rights, as the map has them. -/
abbrev Tk := List (ByteArray × List Rt)
def Ents (M : Chunk) : List MapEntry → Tk → Prop
  | [], [] => True
  | e :: es, p :: ps => e.key = .string p.1 ∧ RdR M M e.val p.2 ∧ Ents M es ps
  | _, _ => False
def idxK : Tk → ByteArray → Option Nat
  | [], _ => none
  | p :: ps, k => if p.1 = k then some 0 else (idxK ps k).map (· + 1)
def hasK (T : Tk) (k : ByteArray) : Bool := (idxK T k).isSome
def getK (T : Tk) (k : ByteArray) : List Rt := match idxK T k with | some j => ((T[j]?).map (·.2)).getD [] | none => []
def updK (T : Tk) (k : ByteArray) (rs : List Rt) : Tk := match idxK T k with | some j => T.set j (k, rs) | none => T ++ [(k, rs)]
def delK (T : Tk) (k : ByteArray) : Tk := match idxK T k with | some j => T.eraseIdx j | none => T
theorem Ents.len {M : Chunk} : ∀ {es : List MapEntry} {T : Tk}, Ents M es T → es.length = T.length
  | [], [], _ => rfl
  | e :: es, p :: ps, h => by simp [Ents.len h.2.2]
  | [], _ :: _, h => h.elim
  | _ :: _, [], h => h.elim
theorem Ents.mono {M N : Chunk} (hs : ∀ p ∈ M, p ∈ N) : ∀ {es : List MapEntry} {T : Tk}, Ents M es T → Ents N es T
  | [], [], _ => trivial
  | e :: es, p :: ps, h => ⟨h.1, h.2.1.mono hs hs, Ents.mono hs h.2.2⟩
  | [], _ :: _, h => h.elim
  | _ :: _, [], h => h.elim
theorem Ents.snoc {M : Chunk} : ∀ {es : List MapEntry} {T : Tk} {e : MapEntry} {p : ByteArray × List Rt}, Ents M es T → e.key = .string p.1 → RdR M M e.val p.2 → Ents M (es ++ [e]) (T ++ [p])
  | [], [], e, p, _, h1, h2 => ⟨h1, h2, trivial⟩
  | f :: es, q :: ps, e, p, h, h1, h2 => ⟨h.1, h.2.1, Ents.snoc h.2.2 h1 h2⟩
  | [], _ :: _, _, _, h, _, _ => h.elim
  | _ :: _, [], _, _, h, _, _ => h.elim
theorem Ents.set {M : Chunk} : ∀ {es : List MapEntry} {T : Tk} {j : Nat} {e : MapEntry} {p : ByteArray × List Rt}, Ents M es T → e.key = .string p.1 → RdR M M e.val p.2 → Ents M (es.set j e) (T.set j p)
  | [], [], j, e, p, _, h1, h2 => trivial
  | f :: es, q :: ps, 0, e, p, h, h1, h2 => ⟨h1, h2, h.2.2⟩
  | f :: es, q :: ps, j + 1, e, p, h, h1, h2 => ⟨h.1, h.2.1, Ents.set h.2.2 h1 h2⟩
  | [], _ :: _, _, _, _, h, _, _ => h.elim
  | _ :: _, [], _, _, _, h, _, _ => h.elim
theorem Ents.erase {M : Chunk} : ∀ {es : List MapEntry} {T : Tk} {j : Nat}, Ents M es T → Ents M (es.eraseIdx j) (T.eraseIdx j)
  | [], [], j, _ => by simp [Ents]
  | f :: es, q :: ps, 0, h => h.2.2
  | f :: es, q :: ps, j + 1, h => ⟨h.1, h.2.1, Ents.erase h.2.2⟩
  | [], _ :: _, _, h => h.elim
  | _ :: _, [], _, h => h.elim
theorem Ents.at_ {M : Chunk} : ∀ {es : List MapEntry} {T : Tk} {j : Nat} {p : ByteArray × List Rt}, Ents M es T → T[j]? = some p → ∃ e, es[j]? = some e ∧ e.key = .string p.1 ∧ RdR M M e.val p.2
  | [], [], j, p, _, h => by simp at h
  | f :: es, q :: ps, 0, p, h, hp => by
    simp only [List.getElem?_cons_zero, Option.some.injEq] at hp
    subst hp
    exact ⟨f, rfl, h.1, h.2.1⟩
  | f :: es, q :: ps, j + 1, p, h, hp => by
    obtain ⟨e, h1, h2⟩ := Ents.at_ h.2.2 (j := j) (p := p) (by simpa using hp)
    exact ⟨e, by simpa using h1, h2⟩
  | [], _ :: _, _, _, h, _ => h.elim
  | _ :: _, [], _, _, h, _ => h.elim
theorem idxK_lt : ∀ {T : Tk} {k : ByteArray} {j : Nat}, idxK T k = some j → ∃ p, T[j]? = some p ∧ p.1 = k
  | [], k, j, h => by simp [idxK] at h
  | p :: ps, k, j, h => by
    unfold idxK at h
    split at h
    · rename_i hp
      injection h with h
      subst h
      exact ⟨p, rfl, hp⟩
    · cases hq : idxK ps k with
      | none => rw [hq] at h; simp at h
      | some i =>
        rw [hq] at h
        simp at h
        subst h
        obtain ⟨q, h1, h2⟩ := idxK_lt hq
        exact ⟨q, by simpa using h1, h2⟩
theorem findNow_ents {M : Chunk} {k : ByteArray} : ∀ {es : List MapEntry} {T : Tk} (i : Nat), Ents M es T →
    Instr.findNow .string (.string k) es i = some (match idxK T k with | none => none | some j => (es[j]?).map fun e => (i + j, e.val))
  | [], [], i, _ => rfl
  | e :: es, p :: ps, i, h => by
    obtain ⟨h1, h2, h3⟩ := h
    have ih := findNow_ents (k := k) (i + 1) h3
    unfold Instr.findNow idxK
    rw [h1]
    simp only [Instr.sameNow]
    by_cases hk : p.1 = k
    · have hb : (k == p.1) = true := (MapKept.bytes_beq k p.1).2 hk.symm
      rw [hb, if_pos hk]
      rfl
    · have hb : (k == p.1) = false := by
        cases hq : (k == p.1) with
        | false => rfl
        | true => exact absurd ((MapKept.bytes_beq k p.1).1 hq).symm hk
      rw [hb, if_neg hk]
      simp only []
      rw [ih]
      cases idxK ps k with
      | none => rfl
      | some j => simp [Nat.add_assoc, Nat.add_comm 1 j]
  | [], _ :: _, _, h => h.elim
  | _ :: _, [], _, h => h.elim

theorem u42 : Try.prog.underlying 42 = some (.map 9 22) := Try.underlying42
theorem u9 : Try.prog.underlying 9 = some .string := Try.underlying9
theorem zero22 (w : World) : (zeroValue 22).run Try.prog w = .ok (.slice none 0 0) w := run_zeroValue_
/-- A lookup in a map that is there. -/
theorem look_run {M : Chunk} {es : Array MapEntry} {clock m : Nat} {T : Tk} {w : World} (hb : w.heap[m]? = some (.map es clock)) (he : Ents M es.toList T) (k : ByteArray) (co : Bool) :
    ∃ A n c, (Instr.lookup 42 (.map (some m)) (.string k) co).run Try.prog w = .ok (if co then .tuple #[.slice A n c, .bool (hasK T k)] else .slice A n c) w ∧ RdR M M (.slice A n c) (getK T k) := by
  have hf := findNow_ents (k := k) 0 he
  have hk : MapKept.IsKey .string (.string k) := trivial
  have h1 := MapKept.run_getObj_map (P := Try.prog) hb
  have h2 := MapKept.run_checkKey (P := Try.prog) (w := w) u9 hk es.isEmpty 9999
  have h3 := MapKept.run_findKey (P := Try.prog) (w := w) u9 hf
  have h4 := zero22 w
  unfold hasK getK
  cases hi : idxK T k with
  | none =>
    rw [hi] at h3
    refine ⟨none, 0, 0, ?_, rdR_nil _ _⟩
    simp [Instr.lookup, run_underlying u42, h1, h2, h3, h4]
    try (cases co <;> rfl)
  | some j =>
    rw [hi] at h3
    obtain ⟨p, hp, rfl⟩ := idxK_lt hi
    obtain ⟨e, e1, e2, e3⟩ := he.at_ hp
    obtain ⟨A, c, hv, _, hr⟩ := e3.split
    simp only [e1, Option.map_some] at h3
    rw [hv] at h3
    refine ⟨A, _, c, ?_, by simpa [hp] using hr.out⟩
    simp [Instr.lookup, run_underlying u42, h1, h2, h3]
    try (cases co <;> rfl)
theorem look_nil (w : World) (k : ByteArray) (co : Bool) :
    (Instr.lookup 42 (.map none) (.string k) co).run Try.prog w = .ok (if co then .tuple #[.slice none 0 0, .bool false] else .slice none 0 0) w := by
  have hk : MapKept.IsKey .string (.string k) := trivial
  have h2 := MapKept.run_checkKey (P := Try.prog) (w := w) u9 hk true 9999
  have h3 := MapKept.run_findKey (P := Try.prog) (w := w) (l := []) (k := .string k) (a := none) u9 rfl
  have h4 := zero22 w
  simp [Instr.lookup, run_underlying u42, h2, h3, h4]
  try (cases co <;> rfl)
/-- A store into a map. -/
theorem upd_run {M : Chunk} {es : Array MapEntry} {clock m : Nat} {T : Tk} {w : World} {v : Value} {rs : List Rt} (hb : w.heap[m]? = some (.map es clock)) (he : Ents M es.toList T) (k : ByteArray) (hv : RdR M M v rs) :
    ∃ es' clock', (Instr.mapUpdate 42 (.map (some m)) (.string k) v).run Try.prog w = .ok () { w with heap := w.heap.setIfInBounds m (.map es' clock') } ∧ Ents M es'.toList (updK T k rs) := by
  have hf := findNow_ents (k := k) 0 he
  have hk : MapKept.IsKey .string (.string k) := trivial
  have h1 := MapKept.run_getObj_map (P := Try.prog) hb
  have h2 := MapKept.run_checkKey (P := Try.prog) (w := w) u9 hk false 9999
  have h3 := MapKept.run_findKey (P := Try.prog) (w := w) u9 hf
  unfold updK
  cases hi : idxK T k with
  | none =>
    rw [hi] at h3
    refine ⟨es.push { key := .string k, val := v, born := clock }, clock + 1, ?_, ?_⟩
    · simp [Instr.mapUpdate, run_underlying u42, h1, h2, h3, MapKept.run_setObj_map (P := Try.prog) _ hb]
    · rw [Array.toList_push]
      exact he.snoc rfl hv
  | some j =>
    rw [hi] at h3
    obtain ⟨p, hp, rfl⟩ := idxK_lt hi
    obtain ⟨e, e1, e2, e3⟩ := he.at_ hp
    simp only [e1, Option.map_some, Nat.zero_add] at h3
    have e1' : es[j]? = some e := by simpa using e1
    refine ⟨es.modify j fun x => { x with key := .string p.1, val := v }, clock, ?_, ?_⟩
    · simp [Instr.mapUpdate, run_underlying u42, h1, h2, h3, e1', e2, MapKept.run_keyThatStays (P := Try.prog) hk, MapKept.run_setObj_map (P := Try.prog) _ hb]
    · have hs : (es.modify j fun x => { x with key := .string p.1, val := v }).toList = es.toList.set j { e with key := .string p.1, val := v } := by
        rw [Array.toList_modify]
        apply List.ext_getElem?
        intro i
        rw [List.getElem?_modify, List.getElem?_set]
        by_cases hij : j = i
        · subst hij
          have : j < es.toList.length := (List.getElem?_eq_some_iff.1 e1).1
          simp [e1', this]
          simpa using this
        · simp [hij]
      rw [hs]
      exact he.set rfl hv
/-- A deletion. -/
theorem del_run {M : Chunk} {es : Array MapEntry} {clock m : Nat} {T : Tk} {w : World} (hb : w.heap[m]? = some (.map es clock)) (he : Ents M es.toList T) (k : ByteArray) (ty : TypeId) :
    ∃ es' clock', (Builtin.delete_ #[42, 9] ty #[.map (some m), .string k]).run Try.prog w = .ok (.tuple #[]) { w with heap := w.heap.setIfInBounds m (.map es' clock') } ∧ Ents M es'.toList (delK T k) := by
  have hf := findNow_ents (k := k) 0 he
  have hk : MapKept.IsKey .string (.string k) := trivial
  have h1 := MapKept.run_getObj_map (P := Try.prog) hb
  have h2 := MapKept.run_checkKey (P := Try.prog) (w := w) u9 hk es.isEmpty 9999
  have h3 := MapKept.run_findKey (P := Try.prog) (w := w) u9 hf
  unfold delK
  cases hi : idxK T k with
  | none =>
    rw [hi] at h3
    refine ⟨es, clock, ?_, he⟩
    simp [Builtin.delete_, run_underlying u42, h1, h2, h3, MapKept.run_setObj_map (P := Try.prog) _ hb]
  | some j =>
    rw [hi] at h3
    obtain ⟨p, hp, rfl⟩ := idxK_lt hi
    obtain ⟨e, e1, e2, e3⟩ := he.at_ hp
    simp only [e1, Option.map_some, Nat.zero_add] at h3
    refine ⟨es.eraseIdxIfInBounds j, clock, ?_, ?_⟩
    · simp [Builtin.delete_, run_underlying u42, h1, h2, h3, MapKept.run_setObj_map (P := Try.prog) _ hb]
    · have hj : j < es.size := by simpa using (List.getElem?_eq_some_iff.1 e1).1
      have hs : (es.eraseIdxIfInBounds j).toList = es.toList.eraseIdx j := by
        simp [Array.eraseIdxIfInBounds, hj, Array.toList_eraseIdx]
      rw [hs]
      exact he.erase
end Go.Proofs.Yteghmoijhcdpeaa
