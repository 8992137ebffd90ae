import Derived.Test.YteghmoijhcdpeaaAuc
--KINDS
set_option linter.unusedSimpArgs false
set_option linter.unusedVariables false
set_option maxRecDepth 100000
namespace Go.Proofs.Yteghmoijhcdpeaa
open Go.RowKit

def LightR (w0 : World) (C : List Chunk) (a : Call) (e : Ending) (w' : World) : Prop := ∃ b, e = .returned (.bool b) ∧ (b = true → LiteA a) ∧ Own w0 w' C
theorem LightR.no {w0 w : World} {C : List Chunk} {a : Call} (h : Own w0 w C) : LightR w0 C a (.returned (.bool false)) w := ⟨false, rfl, by simp, h⟩

set_option maxHeartbeats 1000000 in
theorem light8 {w0 w : World} {C CX : List Chunk} {X : Chunk} {cs : Array Value} {a : Call} (hO : Own w0 w C) (hX : Pick C X CX) (ha : ActV X cs a) (hn : a.token.size ≤ 9223372036854775807) :
    Calls Try.prog 8 #[.agg cs] w (LightR w0 C a) := by
  obtain ⟨vr, ds, hr, hc, rfl⟩ := ha
  obtain ⟨vk, vv, vt, rfl, hk, hv, ht⟩ := hc
  obtain ⟨A1, c1, rfl, hc1, hk⟩ := hk.split
  obtain ⟨A2, c2, rfl, hc2, hv⟩ := hv.split
  obtain ⟨A3, c3, rfl, hc3, ht⟩ := ht.split
  obtain ⟨A0, c0, rfl, hc0, hr⟩ := hr.split
  simp only [List.append_toArray, List.cons_append, List.nil_append]
  go_enter Try.func8, Try.ntmps8
  iterate 20 (first | ((with_reducible refine is_load ?_); refine a_load hO ?_; go_frame) | ((with_reducible refine is_box ?_); refine a_box hO ?_; clear hO; intro w b_ hO; go_frame) | ((with_reducible refine is_alloc ?_); refine a_alloc hO ?_; clear hO; intro w b_ hO; go_frame) | ((with_reducible refine is_store ?_); refine a_storeA hO ?_; clear hO; intro w hO; go_frame) | ((with_reducible refine is_load ?_); (with_reducible apply st_loadX hO); rfl; rfl; rfl; infer_instance; (focus (repeat (first | exact Pick.here | assumption | apply Pick.there))); (focus (simp only [Array.toList, List.drop_succ_cons, List.drop_zero, List.take_succ_cons, List.take_zero]; rfl)); rfl; go_frame) | go_step)
  repeat' (first | go_skip | ((with_reducible refine is_load ?_); refine a_load hO ?_; go_frame) | ((with_reducible refine is_bin ?_); (with_reducible apply st_gtrI); rfl; rfl; (simp only [Act.eval, Array.getD_eq_getD_getElem?, List.getElem?_toArray, List.getElem?_cons_succ, List.getElem?_cons_zero, Option.getD_some]; rfl); (simp only [Act.eval, Array.getD_eq_getD_getElem?, List.getElem?_toArray, List.getElem?_cons_succ, List.getElem?_cons_zero, Option.getD_some]; rfl); intro bb_ Hb_; cases bb_ <;> go_frame) | go_guarded | go_step)
  all_goals (first | (go_ret; exact LightR.no hO.drop.drop) | skip)
  rename_i g1 g2 g3 g4 g5 g6 g7 g8 k9 k10
  have HA : Hid (a.token.size ≤ 100 ∧ a.rights.length ≤ 20 ∧ a.cmd.keys.length ≤ 20 ∧ a.cmd.tags.length ≤ 20 ∧ a.cmd.key.size ≤ 300 ∧ a.cmd.child.size ≤ 300 ∧ a.cmd.pfx.size ≤ 300 ∧ a.cmd.tag.size ≤ 300 ∧ a.cmd.value.length ≤ 300) := by
    simp only [Hid] at *
    have h1 := of_decide_eq_false g1.symm
    have h2 := of_decide_eq_false g2.symm
    have h3 := of_decide_eq_false g3.symm
    have h4 := of_decide_eq_false g4.symm
    have h5 := of_decide_eq_false g5.symm
    have h6 := of_decide_eq_false g6.symm
    have h7 := of_decide_eq_false g7.symm
    have h8 := of_decide_eq_false g8.symm
    have h9 := of_decide_eq_false Hb_.symm
    omega
  clear g1 g2 g3 g4 g5 g6 g7 g8 Hb_
  have hn20 : a.rights.length ≤ 20 := HA.out.2.1
  have hm20 : a.cmd.keys.length ≤ 20 := HA.out.2.2.1
  have ht20 : a.cmd.tags.length ≤ 20 := HA.out.2.2.2.1
  go_loopw [4] (fun i wr => ∃ k : Nat, i = .int .i64 (k : Int) ∧ k ≤ a.rights.length ∧ (∀ j (h : j < a.rights.length), j < k → a.rights[j].ops.length ≤ 20 ∧ a.rights[j].pfx.size ≤ 300) ∧ wr = w) (fun i _ => (a.rights.length - (intOf i).toNat))
  case atStart => exact ⟨0, rfl, by omega, by intro j h hj; omega, rfl⟩
  case round =>
    obtain ⟨k, rfl, hk0, hall, rfl⟩ := hrel
    have Hall := Lib.hid hall
    clear hall
    by_cases hlt : k < a.rights.length
    · obtain ⟨b, off, vo, hA, ho, f1, f2, f3⟩ := hr.out.at_ hlt
      subst hA
      obtain ⟨A5, c5, rfl, hc5, ho⟩ := ho.split
      clear f3
      have Hdef := Lib.hid (rfl : a.rights[k] = a.rights[k])
      generalize hrk : a.rights[k] = rk at *
      have Hrk := Lib.hid hrk
      clear hrk
      repeat' (first | go_skip | ((with_reducible refine is_load ?_); refine a_load hO ?_; go_frame) | ((with_reducible refine is_load ?_); (with_reducible apply st_loadF hO); rfl; rfl; rfl; infer_instance; assumption; (focus (repeat (first | exact Pick.here | assumption | apply Pick.there))); go_frame) | ((with_reducible refine is_bin ?_); (with_reducible apply st_gtrI); rfl; rfl; (simp only [Act.eval, Array.getD_eq_getD_getElem?, List.getElem?_toArray, List.getElem?_cons_succ, List.getElem?_cons_zero, Option.getD_some]; rfl); (simp only [Act.eval, Array.getD_eq_getD_getElem?, List.getElem?_toArray, List.getElem?_cons_succ, List.getElem?_cons_zero, Option.getD_some]; rfl); intro bb_ Hb_; cases bb_ <;> go_frame) | go_guarded | go_step)
      all_goals (first | (go_ret; exact LightR.no hO.drop.drop) | skip)
      have G1 := of_decide_eq_false (Hid.out ‹Hid (false = decide (20 < (rk.ops.length : Int)))›).symm
      have G2 := of_decide_eq_false (Hid.out ‹Hid (false = decide (300 < (rk.pfx.size : Int)))›).symm
      refine ⟨⟨k + 1, by simp, by omega, ?_, by first | rfl | trivial⟩, by simp [intOf]; omega⟩
      intro j hj hjk
      rcases (by omega : j < k ∨ j = k) with h | h
      · exact Hall.out j hj h
      · subst h
        rw [Hrk.out]
        omega
    · have hkn : k = a.rights.length := by omega
      subst hkn
      have HR : Hid (∀ r ∈ a.rights, r.ops.length ≤ 20 ∧ r.pfx.size ≤ 300) := by
        intro r hr
        obtain ⟨j, hj, rfl⟩ := List.mem_iff_getElem.1 hr
        exact Hall.out j hj hj
      clear Hall
      repeat' (first | go_skip | ((with_reducible refine is_load ?_); refine a_load hO ?_; go_frame) | ((with_reducible refine is_load ?_); (with_reducible apply st_loadF hO); rfl; rfl; rfl; infer_instance; assumption; (focus (repeat (first | exact Pick.here | assumption | apply Pick.there))); go_frame) | ((with_reducible refine is_bin ?_); (with_reducible apply st_gtrI); rfl; rfl; (simp only [Act.eval, Array.getD_eq_getD_getElem?, List.getElem?_toArray, List.getElem?_cons_succ, List.getElem?_cons_zero, Option.getD_some]; rfl); (simp only [Act.eval, Array.getD_eq_getD_getElem?, List.getElem?_toArray, List.getElem?_cons_succ, List.getElem?_cons_zero, Option.getD_some]; rfl); intro bb_ Hb_; cases bb_ <;> go_frame) | go_guarded | go_step)
      go_loopw [5] (fun i wr' => ∃ k : Nat, i = .int .i64 (k : Int) ∧ k ≤ a.cmd.keys.length ∧ (∀ j (h : j < a.cmd.keys.length), j < k → a.cmd.keys[j].size ≤ 300) ∧ wr' = wr) (fun i _ => (a.cmd.keys.length - (intOf i).toNat))
      case atStart => exact ⟨0, rfl, by omega, by intro j h hj; omega, rfl⟩
      case round =>
        obtain ⟨k, rfl, hk', hall, rfl⟩ := hrel
        have Hall := Lib.hid hall
        clear hall
        by_cases hlt : k < a.cmd.keys.length
        · obtain ⟨b, off, hA, f1⟩ := RdS.at_ hk.out hlt
          subst hA
          have E1 : Hid (a.cmd.keys.getD k ByteArray.empty = a.cmd.keys[k]) := Lib.hid (by simp [List.getD, hlt])
          generalize hrk : a.cmd.keys.getD k ByteArray.empty = rk at *
          clear hrk
          repeat' (first | go_skip | ((with_reducible refine is_load ?_); refine a_load hO ?_; go_frame) | ((with_reducible refine is_load ?_); (with_reducible apply st_loadF hO); rfl; rfl; rfl; infer_instance; assumption; (focus (repeat (first | exact Pick.here | assumption | apply Pick.there))); go_frame) | ((with_reducible refine is_bin ?_); (with_reducible apply st_gtrI); rfl; rfl; (simp only [Act.eval, Array.getD_eq_getD_getElem?, List.getElem?_toArray, List.getElem?_cons_succ, List.getElem?_cons_zero, Option.getD_some]; rfl); (simp only [Act.eval, Array.getD_eq_getD_getElem?, List.getElem?_toArray, List.getElem?_cons_succ, List.getElem?_cons_zero, Option.getD_some]; rfl); intro bb_ Hb_; cases bb_ <;> go_frame) | go_guarded | go_step)
          all_goals (first | (go_ret; exact LightR.no hO.drop.drop) | skip)
          have G2 := of_decide_eq_false (Hid.out ‹Hid (false = decide (300 < (rk.size : Int)))›).symm
          refine ⟨⟨k + 1, by simp, by omega, ?_, by first | rfl | trivial⟩, by simp [intOf]; omega⟩
          intro j hj hjk
          rcases (by omega : j < k ∨ j = k) with h | h
          · exact Hall.out j hj h
          · subst h
            rw [← E1.out]
            omega
        · have hkn : k = a.cmd.keys.length := by omega
          subst hkn
          have HK : Hid (∀ s ∈ a.cmd.keys, s.size ≤ 300) := by
            intro r hr
            obtain ⟨j, hj, rfl⟩ := List.mem_iff_getElem.1 hr
            exact Hall.out j hj hj
          clear Hall
          repeat' (first | go_skip | ((with_reducible refine is_load ?_); refine a_load hO ?_; go_frame) | ((with_reducible refine is_load ?_); (with_reducible apply st_loadF hO); rfl; rfl; rfl; infer_instance; assumption; (focus (repeat (first | exact Pick.here | assumption | apply Pick.there))); go_frame) | ((with_reducible refine is_bin ?_); (with_reducible apply st_gtrI); rfl; rfl; (simp only [Act.eval, Array.getD_eq_getD_getElem?, List.getElem?_toArray, List.getElem?_cons_succ, List.getElem?_cons_zero, Option.getD_some]; rfl); (simp only [Act.eval, Array.getD_eq_getD_getElem?, List.getElem?_toArray, List.getElem?_cons_succ, List.getElem?_cons_zero, Option.getD_some]; rfl); intro bb_ Hb_; cases bb_ <;> go_frame) | go_guarded | go_step)
          go_loopw [6] (fun i wr' => ∃ k : Nat, i = .int .i64 (k : Int) ∧ k ≤ a.cmd.tags.length ∧ (∀ j (h : j < a.cmd.tags.length), j < k → a.cmd.tags[j].size ≤ 300) ∧ wr' = wr) (fun i _ => (a.cmd.tags.length - (intOf i).toNat))
          case atStart => exact ⟨0, rfl, by omega, by intro j h hj; omega, rfl⟩
          case round =>
            obtain ⟨k, rfl, hk', hall, rfl⟩ := hrel
            have Hall := Lib.hid hall
            clear hall
            by_cases hlt : k < a.cmd.tags.length
            · obtain ⟨b, off, hA, f1⟩ := RdS.at_ ht.out hlt
              subst hA
              have E1 : Hid (a.cmd.tags.getD k ByteArray.empty = a.cmd.tags[k]) := Lib.hid (by simp [List.getD, hlt])
              generalize hrk : a.cmd.tags.getD k ByteArray.empty = rk at *
              clear hrk
              repeat' (first | go_skip | ((with_reducible refine is_load ?_); refine a_load hO ?_; go_frame) | ((with_reducible refine is_load ?_); (with_reducible apply st_loadF hO); rfl; rfl; rfl; infer_instance; assumption; (focus (repeat (first | exact Pick.here | assumption | apply Pick.there))); go_frame) | ((with_reducible refine is_bin ?_); (with_reducible apply st_gtrI); rfl; rfl; (simp only [Act.eval, Array.getD_eq_getD_getElem?, List.getElem?_toArray, List.getElem?_cons_succ, List.getElem?_cons_zero, Option.getD_some]; rfl); (simp only [Act.eval, Array.getD_eq_getD_getElem?, List.getElem?_toArray, List.getElem?_cons_succ, List.getElem?_cons_zero, Option.getD_some]; rfl); intro bb_ Hb_; cases bb_ <;> go_frame) | go_guarded | go_step)
              all_goals (first | (go_ret; exact LightR.no hO.drop.drop) | skip)
              have G2 := of_decide_eq_false (Hid.out ‹Hid (false = decide (300 < (rk.size : Int)))›).symm
              refine ⟨⟨k + 1, by simp, by omega, ?_, by first | rfl | trivial⟩, by simp [intOf]; omega⟩
              intro j hj hjk
              rcases (by omega : j < k ∨ j = k) with h | h
              · exact Hall.out j hj h
              · subst h
                rw [← E1.out]
                omega
            · have hkn : k = a.cmd.tags.length := by omega
              subst hkn
              have HT : Hid (∀ s ∈ a.cmd.tags, s.size ≤ 300) := by
                intro r hr
                obtain ⟨j, hj, rfl⟩ := List.mem_iff_getElem.1 hr
                exact Hall.out j hj hj
              clear Hall
              repeat' (first | go_skip | ((with_reducible refine is_load ?_); refine a_load hO ?_; go_frame) | ((with_reducible refine is_load ?_); (with_reducible apply st_loadF hO); rfl; rfl; rfl; infer_instance; assumption; (focus (repeat (first | exact Pick.here | assumption | apply Pick.there))); go_frame) | ((with_reducible refine is_bin ?_); (with_reducible apply st_gtrI); rfl; rfl; (simp only [Act.eval, Array.getD_eq_getD_getElem?, List.getElem?_toArray, List.getElem?_cons_succ, List.getElem?_cons_zero, Option.getD_some]; rfl); (simp only [Act.eval, Array.getD_eq_getD_getElem?, List.getElem?_toArray, List.getElem?_cons_succ, List.getElem?_cons_zero, Option.getD_some]; rfl); intro bb_ Hb_; cases bb_ <;> go_frame) | go_guarded | go_step)
              go_ret
              obtain ⟨g1, g2, g3, g4, g5, g6, g7, g8, g9⟩ := HA.out
              exact ⟨true, rfl, fun _ => ⟨g1, g2, HR.out, g5, g3, HK.out, g9, g4, HT.out, g8, g7, g6⟩, hO.drop.drop⟩
end Go.Proofs.Yteghmoijhcdpeaa
