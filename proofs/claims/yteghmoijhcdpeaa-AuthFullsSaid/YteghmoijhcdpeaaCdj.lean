import Derived.Test.YteghmoijhcdpeaaCdi
set_option linter.unusedSimpArgs false
set_option linter.unusedVariables false
set_option maxRecDepth 100000
namespace Go.Proofs.Yteghmoijhcdpeaa
open Go.RowKit

theorem strEq (s t : ByteArray) : (s.toList == t.toList) = decide (s = t) := by
  rw [Bool.eq_iff_iff]
  simp only [beq_iff_eq, decide_eq_true_eq]
  constructor
  · intro h
    rw [ByteArray.toList_eq, ByteArray.toList_eq] at h
    exact ByteArray.ext (Array.toList_inj.1 h)
  · rintro rfl; rfl
theorem bytesEq {w0 w : World} {C CX CY : List Chunk} {X Y : Chunk} {va vb : Value} {a b : List UInt8} (hO : Own w0 w C) (hX : Pick C X CX) (hY : Pick C Y CY) (ha : RdB X va a) (hb : RdB Y vb b) :
    Calls Try.prog 66 #[va, vb] w fun e w' => e = .returned (.bool (decide (a = b))) ∧ w = w' := by
  go_enter Try.func66, Try.ntmps66
  go_wp2_with (first | ((with_reducible refine is_load ?_); refine a_load hO ?_; go_frame) | ((with_reducible refine is_load ?_); refine a_loadA hO ?_; go_frame) | ((with_reducible refine is_store ?_); refine a_store hO ?_; clear hO; intro w hO; go_frame) | ((with_reducible refine is_store ?_); refine a_storeA hO ?_; clear hO; intro w hO; go_frame) | ((with_reducible refine is_alloc ?_); refine a_alloc hO ?_; clear hO; intro w b_ hO; go_frame) | ((with_reducible refine is_box ?_); refine a_box hO ?_; clear hO; intro w b_ hO; go_frame) | ((with_reducible refine is_lit ?_); refine a_lit0 hO ?_; clear hO; intro w b_ hl_ hO; go_frame) | ((with_reducible refine is_lit ?_); refine a_lit1 hO ?_; clear hO; intro w b_ hl_ hO; go_frame) | ((with_reducible refine is_lit ?_); refine a_lit2 hO ?_; clear hO; intro w b_ hl_ hO; go_frame) | ((with_reducible refine is_lit ?_); refine a_lit3 hO ?_; clear hO; intro w b_ hl_ hO; go_frame) | ((with_reducible apply st_bytesToStr hO); rfl; rfl; infer_instance; infer_instance; infer_instance; (simp only [Act.eval, Array.getD_eq_getD_getElem?, List.getElem?_toArray, List.getElem?_cons_succ, List.getElem?_cons_zero, Option.getD_some]; rfl); exact ha; (focus (repeat (first | exact Pick.here | assumption | apply Pick.there))); go_frame) | ((with_reducible apply st_bytesToStr hO); rfl; rfl; infer_instance; infer_instance; infer_instance; (simp only [Act.eval, Array.getD_eq_getD_getElem?, List.getElem?_toArray, List.getElem?_cons_succ, List.getElem?_cons_zero, Option.getD_some]; rfl); exact hb; (focus (repeat (first | exact Pick.here | assumption | apply Pick.there))); go_frame))
  go_ret
  exact ⟨by simp; rw [Bool.eq_iff_iff]; simp, rfl⟩

set_option maxHeartbeats 1000000 in
theorem slicesEq {w0 w : World} {C CX CY : List Chunk} {X Y : Chunk} {va vb : Value} {a b : List ByteArray} (hO : Own w0 w C) (hX : Pick C X CX) (hY : Pick C Y CY) (ha : RdS X va a) (hb : RdS Y vb b) (hn : a.length ≤ 1000) :
    Calls Try.prog 65 #[va, vb] w fun e w' => e = .returned (.bool (decide (a = b))) ∧ Own w0 w' C := by
  obtain ⟨Aa, ca, rfl, hca, HA⟩ := ha.split
  obtain ⟨Ab, cb, rfl, hcb, HB⟩ := hb.split
  clear ha hb
  by_cases hlen : a.length = b.length
  · go_enter Try.func65, Try.ntmps65
    go_wp2_with (first | ((with_reducible refine is_load ?_); refine a_load hO ?_; go_frame) | ((with_reducible refine is_load ?_); refine a_loadA hO ?_; go_frame) | ((with_reducible refine is_store ?_); refine a_store hO ?_; clear hO; intro w hO; go_frame) | ((with_reducible refine is_store ?_); refine a_storeA hO ?_; clear hO; intro w hO; go_frame) | ((with_reducible refine is_alloc ?_); refine a_alloc hO ?_; clear hO; intro w b_ hO; go_frame) | ((with_reducible refine is_box ?_); refine a_box hO ?_; clear hO; intro w b_ hO; go_frame) | ((with_reducible refine is_lit ?_); refine a_lit0 hO ?_; clear hO; intro w b_ hl_ hO; go_frame) | ((with_reducible refine is_lit ?_); refine a_lit1 hO ?_; clear hO; intro w b_ hl_ hO; go_frame) | ((with_reducible refine is_lit ?_); refine a_lit2 hO ?_; clear hO; intro w b_ hl_ hO; go_frame) | ((with_reducible refine is_lit ?_); refine a_lit3 hO ?_; clear hO; intro w b_ hl_ hO; go_frame))
    go_loopw [13] (fun i wr => ∃ k : Nat, i = .int .i64 (k : Int) ∧ k ≤ a.length ∧ a.take k = b.take k ∧ Own w0 wr C) (fun i _ => (a.length - (intOf i).toNat))
    case atStart => exact ⟨0, rfl, by omega, by simp, hO⟩
    case round =>
      clear hO
      obtain ⟨k, rfl, hk, htk, hO⟩ := hrel
      have Htk := Lib.hid htk
      clear htk
      by_cases hlt : k < a.length
      · obtain ⟨ba, oa, hA, hf⟩ := RdS.at_ HA.out hlt
        obtain ⟨bb, ob, hB, hg⟩ := RdS.at_ HB.out (by omega : k < b.length)
        subst hA hB
        have e1 : a.getD k ByteArray.empty = a[k]'hlt := by simp [List.getD, hlt]
        have e2 : b.getD k ByteArray.empty = b[k]'(by omega) := by simp [List.getD]; rw [List.getElem?_eq_getElem (by omega)]; rfl
        have E1 := Lib.hid e1
        have E2 := Lib.hid e2
        clear e1 e2
        generalize hs : a.getD k ByteArray.empty = s at *
        generalize ht : b.getD k ByteArray.empty = t at *
        have Hs := Lib.hid hs
        have Ht := Lib.hid ht
        clear hs ht
        go_wp2_with (first | ((with_reducible refine is_load ?_); refine a_load hO ?_; go_frame) | ((with_reducible refine is_load ?_); refine a_loadA hO ?_; go_frame) | ((with_reducible refine is_store ?_); refine a_store hO ?_; clear hO; intro w hO; go_frame) | ((with_reducible refine is_store ?_); refine a_storeA hO ?_; clear hO; intro w hO; go_frame) | ((with_reducible refine is_alloc ?_); refine a_alloc hO ?_; clear hO; intro w b_ hO; go_frame) | ((with_reducible refine is_box ?_); refine a_box hO ?_; clear hO; intro w b_ hO; go_frame) | ((with_reducible refine is_lit ?_); refine a_lit0 hO ?_; clear hO; intro w b_ hl_ hO; go_frame) | ((with_reducible refine is_lit ?_); refine a_lit1 hO ?_; clear hO; intro w b_ hl_ hO; go_frame) | ((with_reducible refine is_lit ?_); refine a_lit2 hO ?_; clear hO; intro w b_ hl_ hO; go_frame) | ((with_reducible refine is_lit ?_); refine a_lit3 hO ?_; clear hO; intro w b_ hl_ hO; go_frame))
        have f1 := hO.fcell hX hf
        have f2 := hO.fcell hY hg
        have l1 := hO.ltF hX hf
        have l2 := hO.ltF hY hg
        go_region
        have hO := hO.drew
        generalize wr.drew = wd at *
        have he := strEq s t
        have Hst : Hid ((s.toList == t.toList) = decide (s = t)) := Lib.hid he
        clear he f1 f2 hf hg
        generalize (s.toList == t.toList) = bb at *
        cases bb
        · have hst : s ≠ t := by have := Hst.out; simpa using this
          have Hst := Lib.hid hst
          clear hst
          go_wp2_with (first | ((with_reducible refine is_load ?_); refine a_load hO ?_; go_frame) | ((with_reducible refine is_load ?_); refine a_loadA hO ?_; go_frame) | ((with_reducible refine is_store ?_); refine a_store hO ?_; clear hO; intro w hO; go_frame) | ((with_reducible refine is_store ?_); refine a_storeA hO ?_; clear hO; intro w hO; go_frame) | ((with_reducible refine is_alloc ?_); refine a_alloc hO ?_; clear hO; intro w b_ hO; go_frame) | ((with_reducible refine is_box ?_); refine a_box hO ?_; clear hO; intro w b_ hO; go_frame) | ((with_reducible refine is_lit ?_); refine a_lit0 hO ?_; clear hO; intro w b_ hl_ hO; go_frame) | ((with_reducible refine is_lit ?_); refine a_lit1 hO ?_; clear hO; intro w b_ hl_ hO; go_frame) | ((with_reducible refine is_lit ?_); refine a_lit2 hO ?_; clear hO; intro w b_ hl_ hO; go_frame) | ((with_reducible refine is_lit ?_); refine a_lit3 hO ?_; clear hO; intro w b_ hl_ hO; go_frame))
          go_ret
          refine ⟨?_, hO⟩
          have hne : a ≠ b := by
            intro hab
            apply Hst.out
            rw [E1.out, E2.out]
            simp [hab]
          simp [hne]
        · have hst : s = t := by have := Hst.out; simpa using this
          have Hst := Lib.hid hst
          clear hst
          go_wp2_with (first | ((with_reducible refine is_load ?_); refine a_load hO ?_; go_frame) | ((with_reducible refine is_load ?_); refine a_loadA hO ?_; go_frame) | ((with_reducible refine is_store ?_); refine a_store hO ?_; clear hO; intro w hO; go_frame) | ((with_reducible refine is_store ?_); refine a_storeA hO ?_; clear hO; intro w hO; go_frame) | ((with_reducible refine is_alloc ?_); refine a_alloc hO ?_; clear hO; intro w b_ hO; go_frame) | ((with_reducible refine is_box ?_); refine a_box hO ?_; clear hO; intro w b_ hO; go_frame) | ((with_reducible refine is_lit ?_); refine a_lit0 hO ?_; clear hO; intro w b_ hl_ hO; go_frame) | ((with_reducible refine is_lit ?_); refine a_lit1 hO ?_; clear hO; intro w b_ hl_ hO; go_frame) | ((with_reducible refine is_lit ?_); refine a_lit2 hO ?_; clear hO; intro w b_ hl_ hO; go_frame) | ((with_reducible refine is_lit ?_); refine a_lit3 hO ?_; clear hO; intro w b_ hl_ hO; go_frame))
          refine ⟨⟨k + 1, by simp, by omega, ?_, hO⟩, by simp [intOf]; omega⟩
          rw [List.take_succ_eq_append_getElem hlt, List.take_succ_eq_append_getElem (by omega), Htk.out, ← E1.out, ← E2.out, Hst.out]
      · have hkn : k = a.length := by omega
        subst hkn
        go_wp2_with (first | ((with_reducible refine is_load ?_); refine a_load hO ?_; go_frame) | ((with_reducible refine is_load ?_); refine a_loadA hO ?_; go_frame) | ((with_reducible refine is_store ?_); refine a_store hO ?_; clear hO; intro w hO; go_frame) | ((with_reducible refine is_store ?_); refine a_storeA hO ?_; clear hO; intro w hO; go_frame) | ((with_reducible refine is_alloc ?_); refine a_alloc hO ?_; clear hO; intro w b_ hO; go_frame) | ((with_reducible refine is_box ?_); refine a_box hO ?_; clear hO; intro w b_ hO; go_frame) | ((with_reducible refine is_lit ?_); refine a_lit0 hO ?_; clear hO; intro w b_ hl_ hO; go_frame) | ((with_reducible refine is_lit ?_); refine a_lit1 hO ?_; clear hO; intro w b_ hl_ hO; go_frame) | ((with_reducible refine is_lit ?_); refine a_lit2 hO ?_; clear hO; intro w b_ hl_ hO; go_frame) | ((with_reducible refine is_lit ?_); refine a_lit3 hO ?_; clear hO; intro w b_ hl_ hO; go_frame))
        go_ret
        refine ⟨?_, hO⟩
        have hab : a = b := by
          have h := Htk.out
          rwa [List.take_length, hlen, List.take_length] at h
        simp [hab]
  · go_enter Try.func65, Try.ntmps65
    go_wp2_with (first | ((with_reducible refine is_load ?_); refine a_load hO ?_; go_frame) | ((with_reducible refine is_load ?_); refine a_loadA hO ?_; go_frame) | ((with_reducible refine is_store ?_); refine a_store hO ?_; clear hO; intro w hO; go_frame) | ((with_reducible refine is_store ?_); refine a_storeA hO ?_; clear hO; intro w hO; go_frame) | ((with_reducible refine is_alloc ?_); refine a_alloc hO ?_; clear hO; intro w b_ hO; go_frame) | ((with_reducible refine is_box ?_); refine a_box hO ?_; clear hO; intro w b_ hO; go_frame) | ((with_reducible refine is_lit ?_); refine a_lit0 hO ?_; clear hO; intro w b_ hl_ hO; go_frame) | ((with_reducible refine is_lit ?_); refine a_lit1 hO ?_; clear hO; intro w b_ hl_ hO; go_frame) | ((with_reducible refine is_lit ?_); refine a_lit2 hO ?_; clear hO; intro w b_ hl_ hO; go_frame) | ((with_reducible refine is_lit ?_); refine a_lit3 hO ?_; clear hO; intro w b_ hl_ hO; go_frame))
    go_ret
    refine ⟨?_, hO⟩
    have hne : a ≠ b := fun h => hlen (by rw [h])
    simp [hne]
end Go.Proofs.Yteghmoijhcdpeaa
