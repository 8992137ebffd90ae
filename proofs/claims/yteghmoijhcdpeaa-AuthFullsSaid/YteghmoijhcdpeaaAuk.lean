import Derived.Test.YteghmoijhcdpeaaAuj
--KINDS
set_option linter.unusedSimpArgs false
set_option linter.unusedVariables false
set_option maxRecDepth 100000
namespace Go.Proofs.Yteghmoijhcdpeaa
open Go.RowKit

theorem st_look {P : Program} {ops : Array Oper} {rest : List Oper} {o : Oper} {a : Act} {w : World} {Q : Exit → Act → World → Prop} {t : TypeId} {x y : Operand} {co : Bool} {m k v : Value}
    (hw : Region.wanted o (yielded ops a.tmps) = true) (ho : o.op = .lookup t x y co) (hx : a.eval x = m) (hy : a.eval y = k) (hr : (Instr.lookup t m k co).run P w = .ok v w)
    (h : wpList P ops Q rest (a.put o.dst v) w) : wpList P ops Q (o :: rest) a w := by
  refine st_val hw ?_ h
  simp [execOp, ho, hx, hy, hr]

/-- A ring in memory: its variable and its map; the rights lie in M. -/
def RingC (r : Nat) (T : Tk) (M R : Chunk) : Prop :=
  (T = [] ∧ R = [(r, .cells #[.map none] 44 (0, 0))]) ∨ ∃ m es clock, R = [(r, .cells #[.map (some m)] 44 (0, 0)), (m, .map es clock)] ∧ Ents M es.toList T
def TkOk (T : Tk) : Prop := ∀ p ∈ T, p.2.length ≤ 1000 ∧ ∀ r ∈ p.2, Short r
theorem getK_ok {T : Tk} (h : TkOk T) (k : ByteArray) : (getK T k).length ≤ 1000 ∧ ∀ r ∈ getK T k, Short r := by
  unfold getK
  cases hi : idxK T k with
  | none => simp
  | some j =>
    obtain ⟨p, hp, _⟩ := idxK_lt hi
    simp only [hp, Option.map_some, Option.getD_some]
    exact h p (List.mem_of_getElem? hp)
/-- The ring's map and what a lookup in it answers. -/
theorem RingC.look {r : Nat} {T : Tk} {M R : Chunk} (h : RingC r T M R) (k : ByteArray) : ∃ mv R', R = (r, .cells #[.map mv] 44 (0, 0)) :: R' ∧
    ∀ (w0 w : World) (C : List Chunk), Own w0 w (R' :: C) → ∀ co, ∃ A n c, (Instr.lookup 42 (.map mv) (.string k) co).run Try.prog w = .ok (if co then .tuple #[.slice A n c, .bool (hasK T k)] else .slice A n c) w ∧ RdR M M (.slice A n c) (getK T k) := by
  rcases h with ⟨rfl, rfl⟩ | ⟨m, es, clock, rfl, he⟩
  · exact ⟨none, [], rfl, fun _ _ _ _ co => ⟨none, 0, 0, look_nil _ k co, rdR_nil _ _⟩⟩
  · exact ⟨some m, [(m, .map es clock)], rfl, fun _ _ _ hO co => look_run (hO.block1 .here) he k co⟩

theorem namesF_size {q : Cmd} (h : Lite q) : ∀ s ∈ namesF q, s.size ≤ 300 := by
  have h1 := h.key
  have h2 := h.pfx
  have h3 := h.child
  have h4 := h.keys1
  have h0 : ByteArray.empty.size ≤ 300 := by decide
  unfold namesF
  repeat' split
  all_goals first
    | exact h4
    | (intro s hs; simp only [List.mem_cons, List.not_mem_nil, or_false] at hs; rcases hs with rfl | rfl <;> assumption)
    | (intro s hs; simp only [List.mem_cons, List.not_mem_nil, or_false] at hs; subst hs; assumption)
theorem namesF_n {q : Cmd} (h : Lite q) : (namesF q).length ≤ 20 := by
  have h1 := h.keys
  unfold namesF
  repeat' split
  all_goals first | exact h1 | simp
def checkF (T : Tk) (now : Nat) (tok : ByteArray) (q : Cmd) : Int :=
  if validF q then (if (namesF q).all (fun nm => (getK T tok).any fun r => permitsF r now q.op nm) then 0 else 15) else 2

set_option maxHeartbeats 4000000 in
theorem check16 {w0 w : World} {C CX : List Chunk} {X M R : Chunk} {r now : Nat} {T : Tk} {tok : ByteArray} {cs : Array Value} {q : Cmd} (hO : Own w0 w (R :: M :: C)) (hR : RingC r T M R) (hT : TkOk T) (hX : Pick C X CX) (hq : CmdV X cs q) (hL : Lite q) :
    Calls Try.prog 16 #[.pointer (some ⟨r, 0, none⟩), .int .u64 (now : Int), .string tok, .agg cs] w fun e w' => e = .returned (.int .i64 (checkF T now tok q)) ∧ Own w0 w' (R :: M :: C) := by
  obtain ⟨A1, n1, c1, A2, n2, c2, A3, n3, c3, rfl⟩ := hq.cells
  have HL := Lib.hid hL
  have HQ := Lib.hid hq
  obtain ⟨hk1, hk2⟩ := getK_ok hT tok
  obtain ⟨mv, R', rfl, hlook⟩ := hR.look tok
  have Hlook := Lib.hid hlook
  have Hk2 := Lib.hid hk2
  have hO : Own w0 w ([(r, .cells #[.map mv] 44 (0, 0))] :: R' :: M :: C) := hO.perm (by simp)
  clear hL hq hlook hk2
  have HF : Hid (checkF T now tok q = if validF q then (if (namesF q).all (fun nm => (getK T tok).any fun r => permitsF r now q.op nm) then 0 else 15) else 2) := (rfl : _ = _)
  go_enter Try.func16, Try.ntmps16
  go_wp2_with (first | ((with_reducible refine is_load ?_); refine a_load hO ?_; go_frame) | ((with_reducible refine is_load ?_); refine a_loadA hO ?_; go_frame) | ((with_reducible refine is_store ?_); refine a_store hO ?_; clear hO; intro w hO; go_frame) | ((with_reducible refine is_store ?_); refine a_storeA hO ?_; clear hO; intro w hO; go_frame) | ((with_reducible refine is_alloc ?_); refine a_alloc hO ?_; clear hO; intro w b_ hO; go_frame) | ((with_reducible refine is_box ?_); refine a_box hO ?_; clear hO; intro w b_ hO; go_frame) | ((with_reducible refine is_lit ?_); refine a_lit0 hO ?_; clear hO; intro w b_ hl_ hO; go_frame) | ((with_reducible refine is_lit ?_); refine a_lit1 hO ?_; clear hO; intro w b_ hl_ hO; go_frame) | ((with_reducible refine is_lit ?_); refine a_lit2 hO ?_; clear hO; intro w b_ hl_ hO; go_frame) | ((with_reducible refine is_lit ?_); refine a_lit3 hO ?_; clear hO; intro w b_ hl_ hO; go_frame))
  go_at_call 10
  refine (names10 hO (.there (.there (.there (.there (.there hX))))) HQ.out HL.out).mono ?_
  clear hO
  rintro e w ⟨A, n, c, K, rfl, hO, hsl, hn⟩
  have Hv := Lib.hid (fun h => validF_op (q := q) h)
  generalize hvq : validF q = v at *
  clear hvq
  cases v
  · simp only [Bool.false_eq_true, ↓reduceIte] at HF ⊢
    go_wp2_with (first | ((with_reducible refine is_load ?_); refine a_load hO ?_; go_frame) | ((with_reducible refine is_load ?_); refine a_loadA hO ?_; go_frame) | ((with_reducible refine is_store ?_); refine a_store hO ?_; clear hO; intro w hO; go_frame) | ((with_reducible refine is_store ?_); refine a_storeA hO ?_; clear hO; intro w hO; go_frame) | ((with_reducible refine is_alloc ?_); refine a_alloc hO ?_; clear hO; intro w b_ hO; go_frame) | ((with_reducible refine is_box ?_); refine a_box hO ?_; clear hO; intro w b_ hO; go_frame) | ((with_reducible refine is_lit ?_); refine a_lit0 hO ?_; clear hO; intro w b_ hl_ hO; go_frame) | ((with_reducible refine is_lit ?_); refine a_lit1 hO ?_; clear hO; intro w b_ hl_ hO; go_frame) | ((with_reducible refine is_lit ?_); refine a_lit2 hO ?_; clear hO; intro w b_ hl_ hO; go_frame) | ((with_reducible refine is_lit ?_); refine a_lit3 hO ?_; clear hO; intro w b_ hl_ hO; go_frame))
    go_ret
    rw [HF.out]
    exact ⟨rfl, (hO.drop.drop.drop).perm (by simp)⟩
  · simp only [↓reduceIte] at HF hsl hn ⊢
    have hop := Hv.out rfl
    have hN := Lib.hid (namesF_size HL.out)
    have hNn := namesF_n HL.out
    have hK : RdS K (.slice A n c) (namesF q) := by
      have h := hsl.rd
      rw [hn] at h ⊢
      exact h
    subst hn
    have HK := Lib.hid hK
    clear hK hsl
    generalize namesF q = nms at *
    go_wp2_with (first | ((with_reducible refine is_load ?_); refine a_load hO ?_; go_frame) | ((with_reducible refine is_load ?_); refine a_loadA hO ?_; go_frame) | ((with_reducible refine is_store ?_); refine a_store hO ?_; clear hO; intro w hO; go_frame) | ((with_reducible refine is_store ?_); refine a_storeA hO ?_; clear hO; intro w hO; go_frame) | ((with_reducible refine is_alloc ?_); refine a_alloc hO ?_; clear hO; intro w b_ hO; go_frame) | ((with_reducible refine is_box ?_); refine a_box hO ?_; clear hO; intro w b_ hO; go_frame) | ((with_reducible refine is_lit ?_); refine a_lit0 hO ?_; clear hO; intro w b_ hl_ hO; go_frame) | ((with_reducible refine is_lit ?_); refine a_lit1 hO ?_; clear hO; intro w b_ hl_ hO; go_frame) | ((with_reducible refine is_lit ?_); refine a_lit2 hO ?_; clear hO; intro w b_ hl_ hO; go_frame) | ((with_reducible refine is_lit ?_); refine a_lit3 hO ?_; clear hO; intro w b_ hl_ hO; go_frame))
    rename_i bn _ _ _
    go_loopw [25] (fun i wr => ∃ k : Nat, i = .int .i64 (k : Int) ∧ k ≤ nms.length ∧ (nms.take k).all (fun nm => (getK T tok).any fun r => permitsF r now q.op nm) = true ∧
      Own w0 wr (K :: [(b_, .cells #[.int .i64 q.op, .string q.key, .slice A1 n1 c1, .slice A2 n2 c2, .slice A3 n3 c3, .int .u64 q.life, .int .u64 q.version, .string q.tag, .string q.pfx, .string q.child] 29 (0, 0))] :: [(bn, .cells #[.int .u64 (now : Int)] 24 (0, 0))] :: [(r, .cells #[.map mv] 44 (0, 0))] :: R' :: M :: C)) (fun i _ => (nms.length - (intOf i).toNat))
    case atStart => exact ⟨0, rfl, by omega, rfl, hO⟩
    case round =>
      clear hO
      obtain ⟨k, rfl, hk, hall, hO⟩ := hrel
      have Hall := Lib.hid hall
      clear hall
      by_cases hlt : k < nms.length
      · obtain ⟨b, off, hA, hf⟩ := RdS.at_ HK.out hlt
        subst hA
        have e1 : nms.getD k ByteArray.empty = nms[k] := by simp [List.getD, hlt]
        have hsz := hN.out nms[k] (List.getElem_mem hlt)
        have HT : Hid ((nms.take (k + 1)).all (fun nm => (getK T tok).any fun r => permitsF r now q.op nm) = (getK T tok).any fun r => permitsF r now q.op nms[k]) := by
          show (nms.take (k + 1)).all _ = _
          rw [List.take_succ_eq_append_getElem hlt, List.all_append, Hall.out]
          simp
        have HNo : Hid (((getK T tok).any fun r => permitsF r now q.op nms[k]) = false → nms.all (fun nm => (getK T tok).any fun r => permitsF r now q.op nm) = false) := by
          intro h
          rw [List.all_eq_false]
          exact ⟨nms[k], List.getElem_mem hlt, by rw [h]; simp⟩
        rw [e1] at hf
        clear e1
        generalize nms[k] = nm at *
        go_wp2_with (first | ((with_reducible refine is_load ?_); refine a_load hO ?_; go_frame) | ((with_reducible refine is_load ?_); refine a_loadA hO ?_; go_frame) | ((with_reducible refine is_store ?_); refine a_store hO ?_; clear hO; intro w hO; go_frame) | ((with_reducible refine is_store ?_); refine a_storeA hO ?_; clear hO; intro w hO; go_frame) | ((with_reducible refine is_alloc ?_); refine a_alloc hO ?_; clear hO; intro w b_ hO; go_frame) | ((with_reducible refine is_box ?_); refine a_box hO ?_; clear hO; intro w b_ hO; go_frame) | ((with_reducible refine is_lit ?_); refine a_lit0 hO ?_; clear hO; intro w b_ hl_ hO; go_frame) | ((with_reducible refine is_lit ?_); refine a_lit1 hO ?_; clear hO; intro w b_ hl_ hO; go_frame) | ((with_reducible refine is_lit ?_); refine a_lit2 hO ?_; clear hO; intro w b_ hl_ hO; go_frame) | ((with_reducible refine is_lit ?_); refine a_lit3 hO ?_; clear hO; intro w b_ hl_ hO; go_frame) | ((with_reducible refine is_load ?_); (with_reducible apply st_loadF hO); rfl; rfl; rfl; infer_instance; assumption; (focus (repeat (first | exact Pick.here | assumption | apply Pick.there))); go_frame) | ((with_reducible refine is_look ?_); obtain ⟨Al, nl, cl, hrun, hrd⟩ := Hlook.out _ _ _ (hO.pick (by (focus (repeat (first | exact Pick.here | assumption | apply Pick.there))))) false; simp only [Bool.false_eq_true, ↓reduceIte] at hrun; (with_reducible refine is_look ?_); (with_reducible apply st_look); rfl; rfl; (simp only [Act.eval, Array.getD_eq_getD_getElem?, List.getElem?_toArray, List.getElem?_cons_succ, List.getElem?_cons_zero, Option.getD_some]; rfl); (simp only [Act.eval, Array.getD_eq_getD_getElem?, List.getElem?_toArray, List.getElem?_cons_succ, List.getElem?_cons_zero, Option.getD_some]; rfl); exact hrun; go_frame))
        go_at_call 26
        refine (contains26 (p := fun r => permitsF r now q.op nm) hO (by (focus (repeat (first | exact Pick.here | assumption | apply Pick.there)))) (by (focus (repeat (first | exact Pick.here | assumption | apply Pick.there)))) hrd (says30 (by (focus (repeat (first | exact Pick.here | assumption | apply Pick.there)))) (by (focus (repeat (first | exact Pick.here | assumption | apply Pick.there)))) (by (focus (repeat (first | exact Pick.here | assumption | apply Pick.there)))) (by (focus (repeat (first | exact Pick.here | assumption | apply Pick.there)))) rfl (by omega) hop) Hk2.out hk1).mono ?_
        clear hO
        rintro e w ⟨rfl, hO⟩
        generalize ((getK T tok).any fun r => permitsF r now q.op nm) = bb at *
        cases bb
        · go_wp2_with (first | ((with_reducible refine is_load ?_); refine a_load hO ?_; go_frame) | ((with_reducible refine is_load ?_); refine a_loadA hO ?_; go_frame) | ((with_reducible refine is_store ?_); refine a_store hO ?_; clear hO; intro w hO; go_frame) | ((with_reducible refine is_store ?_); refine a_storeA hO ?_; clear hO; intro w hO; go_frame) | ((with_reducible refine is_alloc ?_); refine a_alloc hO ?_; clear hO; intro w b_ hO; go_frame) | ((with_reducible refine is_box ?_); refine a_box hO ?_; clear hO; intro w b_ hO; go_frame) | ((with_reducible refine is_lit ?_); refine a_lit0 hO ?_; clear hO; intro w b_ hl_ hO; go_frame) | ((with_reducible refine is_lit ?_); refine a_lit1 hO ?_; clear hO; intro w b_ hl_ hO; go_frame) | ((with_reducible refine is_lit ?_); refine a_lit2 hO ?_; clear hO; intro w b_ hl_ hO; go_frame) | ((with_reducible refine is_lit ?_); refine a_lit3 hO ?_; clear hO; intro w b_ hl_ hO; go_frame))
          go_ret
          rw [HF.out, if_neg (by rw [HNo.out (by trivial)]; simp)]
          exact ⟨rfl, (hO.drop.drop.drop.drop).perm (by simp)⟩
        · go_wp2_with (first | ((with_reducible refine is_load ?_); refine a_load hO ?_; go_frame) | ((with_reducible refine is_load ?_); refine a_loadA hO ?_; go_frame) | ((with_reducible refine is_store ?_); refine a_store hO ?_; clear hO; intro w hO; go_frame) | ((with_reducible refine is_store ?_); refine a_storeA hO ?_; clear hO; intro w hO; go_frame) | ((with_reducible refine is_alloc ?_); refine a_alloc hO ?_; clear hO; intro w b_ hO; go_frame) | ((with_reducible refine is_box ?_); refine a_box hO ?_; clear hO; intro w b_ hO; go_frame) | ((with_reducible refine is_lit ?_); refine a_lit0 hO ?_; clear hO; intro w b_ hl_ hO; go_frame) | ((with_reducible refine is_lit ?_); refine a_lit1 hO ?_; clear hO; intro w b_ hl_ hO; go_frame) | ((with_reducible refine is_lit ?_); refine a_lit2 hO ?_; clear hO; intro w b_ hl_ hO; go_frame) | ((with_reducible refine is_lit ?_); refine a_lit3 hO ?_; clear hO; intro w b_ hl_ hO; go_frame))
          exact ⟨⟨k + 1, by simp, by omega, HT.out, hO.drop⟩, by simp [intOf]; omega⟩
      · have hkn : k = nms.length := by omega
        subst hkn
        have HA : Hid (nms.all (fun nm => (getK T tok).any fun r => permitsF r now q.op nm) = true) := by
          have h := Hall.out
          rwa [List.take_length] at h
        go_wp2_with (first | ((with_reducible refine is_load ?_); refine a_load hO ?_; go_frame) | ((with_reducible refine is_load ?_); refine a_loadA hO ?_; go_frame) | ((with_reducible refine is_store ?_); refine a_store hO ?_; clear hO; intro w hO; go_frame) | ((with_reducible refine is_store ?_); refine a_storeA hO ?_; clear hO; intro w hO; go_frame) | ((with_reducible refine is_alloc ?_); refine a_alloc hO ?_; clear hO; intro w b_ hO; go_frame) | ((with_reducible refine is_box ?_); refine a_box hO ?_; clear hO; intro w b_ hO; go_frame) | ((with_reducible refine is_lit ?_); refine a_lit0 hO ?_; clear hO; intro w b_ hl_ hO; go_frame) | ((with_reducible refine is_lit ?_); refine a_lit1 hO ?_; clear hO; intro w b_ hl_ hO; go_frame) | ((with_reducible refine is_lit ?_); refine a_lit2 hO ?_; clear hO; intro w b_ hl_ hO; go_frame) | ((with_reducible refine is_lit ?_); refine a_lit3 hO ?_; clear hO; intro w b_ hl_ hO; go_frame))
        go_ret
        rw [HF.out, if_pos HA.out]
        exact ⟨rfl, (hO.drop.drop.drop).perm (by simp)⟩
end Go.Proofs.Yteghmoijhcdpeaa
