import Derived.Test.YteghmoijhcdpeaaCdl
set_option linter.unusedSimpArgs false
set_option linter.unusedVariables false
set_option maxRecDepth 100000
namespace Go.Proofs.Yteghmoijhcdpeaa
open Go.RowKit

def tokB (b : UInt8) : Bool := decide (33 ≤ b.toNat) && decide (b.toNat ≤ 126)
/-- Whether a string is a token. -/
def tokF (s : ByteArray) : Bool := s.data.toList.all tokB && (decide (8 ≤ s.size) && decide (s.size ≤ 64))
theorem at_byte (s : ByteArray) (k : Nat) (h : k < s.size) : s.data.toList[k]? = some s[k] := by
  have h' : k < s.data.size := h
  rw [Array.getElem?_toList, Array.getElem?_eq_getElem h']
  rfl
theorem tok_step (s : ByteArray) (k : Nat) (h : k < s.size) : (s.data.toList.take (k + 1)).all tokB = ((s.data.toList.take k).all tokB && tokB s[k]) := by
  rw [List.take_add_one, at_byte s k h]
  simp
theorem tok_no (s : ByteArray) (k : Nat) (h : k < s.size) (hb : tokB s[k] = false) : tokF s = false := by
  have : s.data.toList.all tokB = false := by
    rw [List.all_eq_false]
    refine ⟨s[k], List.mem_of_getElem? (at_byte s k h), by simp [hb]⟩
  simp [tokF, this]

theorem tok12 (s : ByteArray) (hs : s.size ≤ 1000) (w : World) : Calls Try.prog 12 #[.string s] w fun e w' => e = .returned (.bool (tokF s)) ∧ w = w' := by
  go_enter Try.func12, Try.ntmps12
  go_wp2
  go_loopw [6] (fun i wr => ∃ k : Nat, i = .int .i64 (k : Int) ∧ k ≤ s.size ∧ (s.data.toList.take k).all tokB = true ∧ wr = w) (fun i _ => (s.size - (intOf i).toNat))
  case atStart => exact ⟨0, rfl, by omega, by simp, rfl⟩
  case round =>
    obtain ⟨k, rfl, hk, hall, rfl⟩ := hrel
    have Hall := Lib.hid hall
    clear hall
    by_cases hlt : k < s.size
    · have hT := Lib.hid (tok_step s k hlt)
      have hN := Lib.hid (tok_no s k hlt)
      go_wp2
      · go_ret
        refine ⟨?_, rfl⟩
        rw [hN.out (by simp [tokB]; omega)]
        rfl
      · go_ret
        refine ⟨?_, rfl⟩
        rw [hN.out (by simp [tokB]; omega)]
        rfl
      · refine ⟨⟨k + 1, by simp, by omega, ?_, trivial⟩, by simp [intOf]; omega⟩
        rw [hT.out, Hall.out]
        simp [tokB]; omega
    · have hkn : k = s.size := by omega
      subst hkn
      have hF : Hid (tokF s = (decide (8 ≤ s.size) && decide (s.size ≤ 64))) := by
        show tokF s = _
        have h := Hall.out
        rw [List.take_of_length_le (by rw [Array.length_toList]; exact Nat.le_refl _)] at h
        rw [tokF, h, Bool.true_and]
      go_wp2
      all_goals
        go_ret
        refine ⟨?_, rfl⟩
        rw [hF.out]
        simp [Array.getD_eq_getD_getElem?]
        try omega
        try (rw [Bool.eq_iff_iff]; simp; omega)

theorem tok13 (s : ByteArray) (hs : s.size ≤ 1000) (w : World) : Calls Try.prog 13 #[.string s] w fun e w' => e = .returned (.bool (tokF s)) ∧ w = w' := by
  go_enter Try.func13, Try.ntmps13
  go_wp2
  go_loopw [3] (fun i wr => ∃ k : Nat, i = .int .i64 (k : Int) ∧ k ≤ s.size ∧ (s.data.toList.take k).all tokB = true ∧ wr = w) (fun i _ => (s.size - (intOf i).toNat))
  case atStart => exact ⟨0, rfl, by omega, by simp, rfl⟩
  case round =>
    obtain ⟨k, rfl, hk, hall, rfl⟩ := hrel
    have Hall := Lib.hid hall
    clear hall
    by_cases hlt : k < s.size
    · have hT := Lib.hid (tok_step s k hlt)
      have hN := Lib.hid (tok_no s k hlt)
      go_wp2
      · go_ret
        refine ⟨?_, rfl⟩
        rw [hN.out (by simp [tokB]; omega)]
        rfl
      · go_ret
        refine ⟨?_, rfl⟩
        rw [hN.out (by simp [tokB]; omega)]
        rfl
      · refine ⟨⟨k + 1, by simp, by omega, ?_, trivial⟩, by simp [intOf]; omega⟩
        rw [hT.out, Hall.out]
        simp [tokB]; omega
    · have hkn : k = s.size := by omega
      subst hkn
      have hF : Hid (tokF s = (decide (8 ≤ s.size) && decide (s.size ≤ 64))) := by
        show tokF s = _
        have h := Hall.out
        rw [List.take_of_length_le (by rw [Array.length_toList]; exact Nat.le_refl _)] at h
        rw [tokF, h, Bool.true_and]
      go_wp2
      all_goals
        go_ret
        refine ⟨?_, rfl⟩
        rw [hF.out]
        simp [Array.getD_eq_getD_getElem?]
        try omega
        try (rw [Bool.eq_iff_iff]; simp; omega)

set_option maxHeartbeats 1000000 in
theorem same14 {w0 w : World} {C CX CY : List Chunk} {X Y : Chunk} {va vb : Value} {a b : List ByteArray} (hO : Own w0 w C) (hX : Pick C X CX) (hY : Pick C Y CY) (ha : RdS X va a) (hb : RdS Y vb b) (hn : a.length ≤ 1000) :
    Calls Try.prog 14 #[va, vb] w fun e w' => e = .returned (.bool (decide (a = b))) ∧ Own w0 w' C := by
  obtain ⟨Aa, ca, rfl, hca, HA⟩ := ha.split
  obtain ⟨Ab, cb, rfl, hcb, HB⟩ := hb.split
  clear ha hb
  by_cases hlen : a.length = b.length
  · go_enter Try.func14, Try.ntmps14
    go_wp2_with (first | ((with_reducible refine is_load ?_); refine a_load hO ?_; go_frame) | ((with_reducible refine is_load ?_); refine a_loadA hO ?_; go_frame) | ((with_reducible refine is_store ?_); refine a_store hO ?_; clear hO; intro w hO; go_frame) | ((with_reducible refine is_store ?_); refine a_storeA hO ?_; clear hO; intro w hO; go_frame) | ((with_reducible refine is_alloc ?_); refine a_alloc hO ?_; clear hO; intro w b_ hO; go_frame) | ((with_reducible refine is_box ?_); refine a_box hO ?_; clear hO; intro w b_ hO; go_frame) | ((with_reducible refine is_lit ?_); refine a_lit0 hO ?_; clear hO; intro w b_ hl_ hO; go_frame) | ((with_reducible refine is_lit ?_); refine a_lit1 hO ?_; clear hO; intro w b_ hl_ hO; go_frame) | ((with_reducible refine is_lit ?_); refine a_lit2 hO ?_; clear hO; intro w b_ hl_ hO; go_frame) | ((with_reducible refine is_lit ?_); refine a_lit3 hO ?_; clear hO; intro w b_ hl_ hO; go_frame))
    go_loopw [5] (fun i wr => ∃ k : Nat, i = .int .i64 (k : Int) ∧ k ≤ a.length ∧ a.take k = b.take k ∧ Own w0 wr C) (fun i _ => (a.length - (intOf i).toNat))
    case atStart => exact ⟨0, rfl, by omega, by simp, hO⟩
    case round =>
      clear hO
      obtain ⟨k, rfl, hk, htk, hO⟩ := hrel
      have Htk := Lib.hid htk
      clear htk
      by_cases hlt : k < a.length
      · obtain ⟨ba, oa, hA, hf⟩ := RdS.at_ HA.out hlt
        obtain ⟨bb, ob, hB, hg⟩ := RdS.at_ HB.out (by omega : k < b.length)
        subst hA hB
        have e1 : a.getD k ByteArray.empty = a[k]'hlt := by simp [List.getD, hlt]
        have e2 : b.getD k ByteArray.empty = b[k]'(by omega) := by simp [List.getD]; rw [List.getElem?_eq_getElem (by omega)]; rfl
        have E1 := Lib.hid e1
        have E2 := Lib.hid e2
        clear e1 e2
        generalize hs : a.getD k ByteArray.empty = s at *
        generalize ht : b.getD k ByteArray.empty = t at *
        have Hs := Lib.hid hs
        have Ht := Lib.hid ht
        clear hs ht
        go_wp2_with (first | ((with_reducible refine is_load ?_); refine a_load hO ?_; go_frame) | ((with_reducible refine is_load ?_); refine a_loadA hO ?_; go_frame) | ((with_reducible refine is_store ?_); refine a_store hO ?_; clear hO; intro w hO; go_frame) | ((with_reducible refine is_store ?_); refine a_storeA hO ?_; clear hO; intro w hO; go_frame) | ((with_reducible refine is_alloc ?_); refine a_alloc hO ?_; clear hO; intro w b_ hO; go_frame) | ((with_reducible refine is_box ?_); refine a_box hO ?_; clear hO; intro w b_ hO; go_frame) | ((with_reducible refine is_lit ?_); refine a_lit0 hO ?_; clear hO; intro w b_ hl_ hO; go_frame) | ((with_reducible refine is_lit ?_); refine a_lit1 hO ?_; clear hO; intro w b_ hl_ hO; go_frame) | ((with_reducible refine is_lit ?_); refine a_lit2 hO ?_; clear hO; intro w b_ hl_ hO; go_frame) | ((with_reducible refine is_lit ?_); refine a_lit3 hO ?_; clear hO; intro w b_ hl_ hO; go_frame))
        have f1 := hO.fcell hX hf
        have f2 := hO.fcell hY hg
        have l1 := hO.ltF hX hf
        have l2 := hO.ltF hY hg
        go_region
        have hO := hO.drew
        generalize wr.drew = wd at *
        have he := strEq s t
        have Hst : Hid ((s.toList == t.toList) = decide (s = t)) := Lib.hid he
        clear he f1 f2 hf hg
        generalize (s.toList == t.toList) = bb at *
        cases bb
        · have hst : s ≠ t := by have := Hst.out; simpa using this
          have Hst := Lib.hid hst
          clear hst
          go_wp2_with (first | ((with_reducible refine is_load ?_); refine a_load hO ?_; go_frame) | ((with_reducible refine is_load ?_); refine a_loadA hO ?_; go_frame) | ((with_reducible refine is_store ?_); refine a_store hO ?_; clear hO; intro w hO; go_frame) | ((with_reducible refine is_store ?_); refine a_storeA hO ?_; clear hO; intro w hO; go_frame) | ((with_reducible refine is_alloc ?_); refine a_alloc hO ?_; clear hO; intro w b_ hO; go_frame) | ((with_reducible refine is_box ?_); refine a_box hO ?_; clear hO; intro w b_ hO; go_frame) | ((with_reducible refine is_lit ?_); refine a_lit0 hO ?_; clear hO; intro w b_ hl_ hO; go_frame) | ((with_reducible refine is_lit ?_); refine a_lit1 hO ?_; clear hO; intro w b_ hl_ hO; go_frame) | ((with_reducible refine is_lit ?_); refine a_lit2 hO ?_; clear hO; intro w b_ hl_ hO; go_frame) | ((with_reducible refine is_lit ?_); refine a_lit3 hO ?_; clear hO; intro w b_ hl_ hO; go_frame))
          go_ret
          refine ⟨?_, hO⟩
          have hne : a ≠ b := by
            intro hab
            apply Hst.out
            rw [E1.out, E2.out]
            simp [hab]
          simp [hne]
        · have hst : s = t := by have := Hst.out; simpa using this
          have Hst := Lib.hid hst
          clear hst
          go_wp2_with (first | ((with_reducible refine is_load ?_); refine a_load hO ?_; go_frame) | ((with_reducible refine is_load ?_); refine a_loadA hO ?_; go_frame) | ((with_reducible refine is_store ?_); refine a_store hO ?_; clear hO; intro w hO; go_frame) | ((with_reducible refine is_store ?_); refine a_storeA hO ?_; clear hO; intro w hO; go_frame) | ((with_reducible refine is_alloc ?_); refine a_alloc hO ?_; clear hO; intro w b_ hO; go_frame) | ((with_reducible refine is_box ?_); refine a_box hO ?_; clear hO; intro w b_ hO; go_frame) | ((with_reducible refine is_lit ?_); refine a_lit0 hO ?_; clear hO; intro w b_ hl_ hO; go_frame) | ((with_reducible refine is_lit ?_); refine a_lit1 hO ?_; clear hO; intro w b_ hl_ hO; go_frame) | ((with_reducible refine is_lit ?_); refine a_lit2 hO ?_; clear hO; intro w b_ hl_ hO; go_frame) | ((with_reducible refine is_lit ?_); refine a_lit3 hO ?_; clear hO; intro w b_ hl_ hO; go_frame))
          refine ⟨⟨k + 1, by simp, by omega, ?_, hO⟩, by simp [intOf]; omega⟩
          rw [List.take_succ_eq_append_getElem hlt, List.take_succ_eq_append_getElem (by omega), Htk.out, ← E1.out, ← E2.out, Hst.out]
      · have hkn : k = a.length := by omega
        subst hkn
        go_wp2_with (first | ((with_reducible refine is_load ?_); refine a_load hO ?_; go_frame) | ((with_reducible refine is_load ?_); refine a_loadA hO ?_; go_frame) | ((with_reducible refine is_store ?_); refine a_store hO ?_; clear hO; intro w hO; go_frame) | ((with_reducible refine is_store ?_); refine a_storeA hO ?_; clear hO; intro w hO; go_frame) | ((with_reducible refine is_alloc ?_); refine a_alloc hO ?_; clear hO; intro w b_ hO; go_frame) | ((with_reducible refine is_box ?_); refine a_box hO ?_; clear hO; intro w b_ hO; go_frame) | ((with_reducible refine is_lit ?_); refine a_lit0 hO ?_; clear hO; intro w b_ hl_ hO; go_frame) | ((with_reducible refine is_lit ?_); refine a_lit1 hO ?_; clear hO; intro w b_ hl_ hO; go_frame) | ((with_reducible refine is_lit ?_); refine a_lit2 hO ?_; clear hO; intro w b_ hl_ hO; go_frame) | ((with_reducible refine is_lit ?_); refine a_lit3 hO ?_; clear hO; intro w b_ hl_ hO; go_frame))
        go_ret
        refine ⟨?_, hO⟩
        have hab : a = b := by
          have h := Htk.out
          rwa [List.take_length, hlen, List.take_length] at h
        simp [hab]
  · go_enter Try.func14, Try.ntmps14
    go_wp2_with (first | ((with_reducible refine is_load ?_); refine a_load hO ?_; go_frame) | ((with_reducible refine is_load ?_); refine a_loadA hO ?_; go_frame) | ((with_reducible refine is_store ?_); refine a_store hO ?_; clear hO; intro w hO; go_frame) | ((with_reducible refine is_store ?_); refine a_storeA hO ?_; clear hO; intro w hO; go_frame) | ((with_reducible refine is_alloc ?_); refine a_alloc hO ?_; clear hO; intro w b_ hO; go_frame) | ((with_reducible refine is_box ?_); refine a_box hO ?_; clear hO; intro w b_ hO; go_frame) | ((with_reducible refine is_lit ?_); refine a_lit0 hO ?_; clear hO; intro w b_ hl_ hO; go_frame) | ((with_reducible refine is_lit ?_); refine a_lit1 hO ?_; clear hO; intro w b_ hl_ hO; go_frame) | ((with_reducible refine is_lit ?_); refine a_lit2 hO ?_; clear hO; intro w b_ hl_ hO; go_frame) | ((with_reducible refine is_lit ?_); refine a_lit3 hO ?_; clear hO; intro w b_ hl_ hO; go_frame))
    go_ret
    refine ⟨?_, hO⟩
    have hne : a ≠ b := fun h => hlen (by rw [h])
    simp [hne]

/-- What a command names. -/
def namesF (q : Cmd) : List ByteArray :=
  if q.op = 5 then (if q.keys = [] then [ByteArray.empty] else q.keys)
  else if q.op = 11 ∨ q.op = 12 then [q.key, q.child]
  else if q.op = 10 then [q.pfx]
  else if q.op = 8 ∨ q.op = 9 ∨ q.op = 14 ∨ q.op = 15 then [ByteArray.empty]
  else [q.key]
theorem validF_op {q : Cmd} (h : validF q = true) : 1 ≤ q.op ∧ q.op ≤ 15 := by
  unfold validF at h
  split at h
  · assumption
  · cases h
def NamesR (w0 : World) (C : List Chunk) (q : Cmd) (e : Ending) (w' : World) : Prop :=
  ∃ A n c K, e = .returned (.tuple #[.slice A n c, .int .i64 (if validF q then 0 else 2)]) ∧ Own w0 w' (K :: C) ∧ Sl 9 1 (.slice A n c) n (strs (if validF q then namesF q else [])) K ∧ n = (if validF q then namesF q else []).length
end Go.Proofs.Yteghmoijhcdpeaa
