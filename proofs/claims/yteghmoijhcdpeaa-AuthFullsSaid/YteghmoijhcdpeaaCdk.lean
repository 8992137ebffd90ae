import Derived.Test.YteghmoijhcdpeaaCdj
set_option linter.unusedSimpArgs false
set_option linter.unusedVariables false
set_option maxRecDepth 100000
namespace Go.Proofs.Yteghmoijhcdpeaa
open Go.RowKit

theorem wpList_app {P : Program} {ops : Array Oper} {Q : Exit → Act → World → Prop} {o : Oper} {l m : List Oper} {a : Act} {w : World} (h : wpList P ops Q (o :: (l.append m)) a w) : wpList P ops Q ((o :: l).append m) a w := h
theorem st_eqlI {P : Program} {ops : Array Oper} {rest : List Oper} {o : Oper} {a : Act} {w : World} {Q : Exit → Act → World → Prop} {t u : TypeId} {x y : Operand} {k : IntKind} {i j : Int}
    (hw : Region.wanted o (yielded ops a.tmps) = true) (ho : o.op = .binOp .eql t x y u) (hx : a.eval x = .int k i) (hy : a.eval y = .int k j)
    (h : ∀ bb, Hid (bb = decide (i = j)) → wpList P ops Q rest (a.put o.dst (.bool bb)) w) : wpList P ops Q (o :: rest) a w := by
  refine st_val hw ?_ (h _ (Lib.hid rfl))
  unfold execOp
  rw [ho]
  simp only [hx, hy]
  simp [go_sem]
  try (rw [Bool.eq_iff_iff]; simp)
theorem st_eqlS {P : Program} {ops : Array Oper} {rest : List Oper} {o : Oper} {a : Act} {w : World} {Q : Exit → Act → World → Prop} {t u : TypeId} {x y : Operand} {i j : ByteArray}
    (hw : Region.wanted o (yielded ops a.tmps) = true) (ho : o.op = .binOp .eql t x y u) (hx : a.eval x = .string i) (hy : a.eval y = .string j)
    (h : ∀ bb, Hid (bb = decide (i = j)) → wpList P ops Q rest (a.put o.dst (.bool bb)) w) : wpList P ops Q (o :: rest) a w := by
  refine st_val hw ?_ (h _ (Lib.hid rfl))
  rw [← strEq]
  unfold execOp
  rw [ho]
  simp only [hx, hy]
  simp [go_sem]
  try (rw [Bool.eq_iff_iff]; simp)
theorem natInj (x y : Nat) : ((x : Int) = (y : Int)) = (x = y) := propext ⟨fun h => by omega, fun h => by rw [h]⟩
def cmdEq (a b : Cmd) : Bool :=
  decide (a.op = b.op) && (decide (a.key = b.key) && (decide (a.keys = b.keys) && (decide (a.value = b.value) && (decide (a.tags = b.tags) && (decide (a.life = b.life) && (decide (a.version = b.version) && (decide (a.tag = b.tag) && (decide (a.pfx = b.pfx) && decide (a.child = b.child)))))))))

set_option maxHeartbeats 4000000 in
theorem equalC {w0 w : World} {C CX CY : List Chunk} {X Y : Chunk} {ca cb : Array Value} {a b : Cmd} (hO : Own w0 w C) (hX : Pick C X CX) (hY : Pick C Y CY) (ha : CmdV X ca a) (hb : CmdV Y cb b) (hn : a.keys.length ≤ 1000) (hm : a.tags.length ≤ 1000) :
    Calls Try.prog 49 #[.agg ca, .agg cb] w fun e w' => e = .returned (.bool (cmdEq a b)) ∧ Own w0 w' C := by
  obtain ⟨ak, av, at_, rfl, hak, hav, hat⟩ := ha
  obtain ⟨bk, bv, bt, rfl, hbk, hbv, hbt⟩ := hb
  go_enter Try.func49, Try.ntmps49
  dsimp only [List.append]
  go_step
  go_step
  go_step
  ((with_reducible refine is_box ?_); refine a_box hO ?_; clear hO; intro w b_ hO; go_frame)
  ((with_reducible refine is_box ?_); refine a_box hO ?_; clear hO; intro w b_ hO; go_frame)
  repeat' (first | go_skip | ((with_reducible refine is_load ?_); refine a_load hO ?_; go_frame) | (first | ((with_reducible apply st_eqlI); rfl; rfl; (simp only [Act.eval, Array.getD_eq_getD_getElem?, List.getElem?_toArray, List.getElem?_cons_succ, List.getElem?_cons_zero, Option.getD_some]; rfl); (simp only [Act.eval, Array.getD_eq_getD_getElem?, List.getElem?_toArray, List.getElem?_cons_succ, List.getElem?_cons_zero, Option.getD_some]; rfl); intro bb_ Hb_; cases bb_ <;> go_frame) | ((with_reducible apply st_eqlS); rfl; rfl; (simp only [Act.eval, Array.getD_eq_getD_getElem?, List.getElem?_toArray, List.getElem?_cons_succ, List.getElem?_cons_zero, Option.getD_some]; rfl); (simp only [Act.eval, Array.getD_eq_getD_getElem?, List.getElem?_toArray, List.getElem?_cons_succ, List.getElem?_cons_zero, Option.getD_some]; rfl); intro bb_ Hb_; cases bb_ <;> go_frame)) | go_guarded | go_step)
  any_goals (go_ret; refine ⟨?_, hO.drop.drop⟩; clear hO; simp only [Hid] at *; simp_all [cmdEq, natInj] <;> (try (intros; omega)))
  go_at_call 65
  refine (slicesEq hO (.there (.there hX)) (.there (.there hY)) hak hbk (by omega)).mono ?_
  rintro e w ⟨rfl, hO⟩
  generalize hg_ : decide (a.keys = b.keys) = bb_
  have Hb_ := Lib.hid hg_.symm
  clear hg_
  simp only []
  cases bb_
  · repeat' (first | go_skip | ((with_reducible refine is_load ?_); refine a_load hO ?_; go_frame) | (first | ((with_reducible apply st_eqlI); rfl; rfl; (simp only [Act.eval, Array.getD_eq_getD_getElem?, List.getElem?_toArray, List.getElem?_cons_succ, List.getElem?_cons_zero, Option.getD_some]; rfl); (simp only [Act.eval, Array.getD_eq_getD_getElem?, List.getElem?_toArray, List.getElem?_cons_succ, List.getElem?_cons_zero, Option.getD_some]; rfl); intro bb_ Hb_; cases bb_ <;> go_frame) | ((with_reducible apply st_eqlS); rfl; rfl; (simp only [Act.eval, Array.getD_eq_getD_getElem?, List.getElem?_toArray, List.getElem?_cons_succ, List.getElem?_cons_zero, Option.getD_some]; rfl); (simp only [Act.eval, Array.getD_eq_getD_getElem?, List.getElem?_toArray, List.getElem?_cons_succ, List.getElem?_cons_zero, Option.getD_some]; rfl); intro bb_ Hb_; cases bb_ <;> go_frame)) | go_guarded | go_step)
    (go_ret; refine ⟨?_, hO.drop.drop⟩; clear hO; simp only [Hid] at *; simp_all [cmdEq, natInj] <;> (try (intros; omega)))
  repeat' (first | go_skip | ((with_reducible refine is_load ?_); refine a_load hO ?_; go_frame) | (first | ((with_reducible apply st_eqlI); rfl; rfl; (simp only [Act.eval, Array.getD_eq_getD_getElem?, List.getElem?_toArray, List.getElem?_cons_succ, List.getElem?_cons_zero, Option.getD_some]; rfl); (simp only [Act.eval, Array.getD_eq_getD_getElem?, List.getElem?_toArray, List.getElem?_cons_succ, List.getElem?_cons_zero, Option.getD_some]; rfl); intro bb_ Hb_; cases bb_ <;> go_frame) | ((with_reducible apply st_eqlS); rfl; rfl; (simp only [Act.eval, Array.getD_eq_getD_getElem?, List.getElem?_toArray, List.getElem?_cons_succ, List.getElem?_cons_zero, Option.getD_some]; rfl); (simp only [Act.eval, Array.getD_eq_getD_getElem?, List.getElem?_toArray, List.getElem?_cons_succ, List.getElem?_cons_zero, Option.getD_some]; rfl); intro bb_ Hb_; cases bb_ <;> go_frame)) | go_guarded | go_step)
  go_at_call 66
  refine (bytesEq hO (.there (.there hX)) (.there (.there hY)) hav hbv).mono ?_
  rintro e w ⟨rfl, rfl⟩
  generalize hg_ : decide (a.value = b.value) = bb_
  have Hb_ := Lib.hid hg_.symm
  clear hg_
  simp only []
  cases bb_
  · repeat' (first | go_skip | ((with_reducible refine is_load ?_); refine a_load hO ?_; go_frame) | (first | ((with_reducible apply st_eqlI); rfl; rfl; (simp only [Act.eval, Array.getD_eq_getD_getElem?, List.getElem?_toArray, List.getElem?_cons_succ, List.getElem?_cons_zero, Option.getD_some]; rfl); (simp only [Act.eval, Array.getD_eq_getD_getElem?, List.getElem?_toArray, List.getElem?_cons_succ, List.getElem?_cons_zero, Option.getD_some]; rfl); intro bb_ Hb_; cases bb_ <;> go_frame) | ((with_reducible apply st_eqlS); rfl; rfl; (simp only [Act.eval, Array.getD_eq_getD_getElem?, List.getElem?_toArray, List.getElem?_cons_succ, List.getElem?_cons_zero, Option.getD_some]; rfl); (simp only [Act.eval, Array.getD_eq_getD_getElem?, List.getElem?_toArray, List.getElem?_cons_succ, List.getElem?_cons_zero, Option.getD_some]; rfl); intro bb_ Hb_; cases bb_ <;> go_frame)) | go_guarded | go_step)
    (go_ret; refine ⟨?_, hO.drop.drop⟩; clear hO; simp only [Hid] at *; simp_all [cmdEq, natInj] <;> (try (intros; omega)))
  repeat' (first | go_skip | ((with_reducible refine is_load ?_); refine a_load hO ?_; go_frame) | (first | ((with_reducible apply st_eqlI); rfl; rfl; (simp only [Act.eval, Array.getD_eq_getD_getElem?, List.getElem?_toArray, List.getElem?_cons_succ, List.getElem?_cons_zero, Option.getD_some]; rfl); (simp only [Act.eval, Array.getD_eq_getD_getElem?, List.getElem?_toArray, List.getElem?_cons_succ, List.getElem?_cons_zero, Option.getD_some]; rfl); intro bb_ Hb_; cases bb_ <;> go_frame) | ((with_reducible apply st_eqlS); rfl; rfl; (simp only [Act.eval, Array.getD_eq_getD_getElem?, List.getElem?_toArray, List.getElem?_cons_succ, List.getElem?_cons_zero, Option.getD_some]; rfl); (simp only [Act.eval, Array.getD_eq_getD_getElem?, List.getElem?_toArray, List.getElem?_cons_succ, List.getElem?_cons_zero, Option.getD_some]; rfl); intro bb_ Hb_; cases bb_ <;> go_frame)) | go_guarded | go_step)
  go_at_call 65
  refine (slicesEq hO (.there (.there hX)) (.there (.there hY)) hat hbt (by omega)).mono ?_
  rintro e w ⟨rfl, hO⟩
  generalize hg_ : decide (a.tags = b.tags) = bb_
  have Hb_ := Lib.hid hg_.symm
  clear hg_
  simp only []
  cases bb_
  · repeat' (first | go_skip | ((with_reducible refine is_load ?_); refine a_load hO ?_; go_frame) | (first | ((with_reducible apply st_eqlI); rfl; rfl; (simp only [Act.eval, Array.getD_eq_getD_getElem?, List.getElem?_toArray, List.getElem?_cons_succ, List.getElem?_cons_zero, Option.getD_some]; rfl); (simp only [Act.eval, Array.getD_eq_getD_getElem?, List.getElem?_toArray, List.getElem?_cons_succ, List.getElem?_cons_zero, Option.getD_some]; rfl); intro bb_ Hb_; cases bb_ <;> go_frame) | ((with_reducible apply st_eqlS); rfl; rfl; (simp only [Act.eval, Array.getD_eq_getD_getElem?, List.getElem?_toArray, List.getElem?_cons_succ, List.getElem?_cons_zero, Option.getD_some]; rfl); (simp only [Act.eval, Array.getD_eq_getD_getElem?, List.getElem?_toArray, List.getElem?_cons_succ, List.getElem?_cons_zero, Option.getD_some]; rfl); intro bb_ Hb_; cases bb_ <;> go_frame)) | go_guarded | go_step)
    (go_ret; refine ⟨?_, hO.drop.drop⟩; clear hO; simp only [Hid] at *; simp_all [cmdEq, natInj] <;> (try (intros; omega)))
  repeat' (first | go_skip | ((with_reducible refine is_load ?_); refine a_load hO ?_; go_frame) | (first | ((with_reducible apply st_eqlI); rfl; rfl; (simp only [Act.eval, Array.getD_eq_getD_getElem?, List.getElem?_toArray, List.getElem?_cons_succ, List.getElem?_cons_zero, Option.getD_some]; rfl); (simp only [Act.eval, Array.getD_eq_getD_getElem?, List.getElem?_toArray, List.getElem?_cons_succ, List.getElem?_cons_zero, Option.getD_some]; rfl); intro bb_ Hb_; cases bb_ <;> go_frame) | ((with_reducible apply st_eqlS); rfl; rfl; (simp only [Act.eval, Array.getD_eq_getD_getElem?, List.getElem?_toArray, List.getElem?_cons_succ, List.getElem?_cons_zero, Option.getD_some]; rfl); (simp only [Act.eval, Array.getD_eq_getD_getElem?, List.getElem?_toArray, List.getElem?_cons_succ, List.getElem?_cons_zero, Option.getD_some]; rfl); intro bb_ Hb_; cases bb_ <;> go_frame)) | go_guarded | go_step)
  all_goals (go_ret; refine ⟨?_, hO.drop.drop⟩; clear hO; simp only [Hid] at *; simp_all [cmdEq, natInj] <;> (try (intros; omega)))
end Go.Proofs.Yteghmoijhcdpeaa
