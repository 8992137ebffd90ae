import Derived.Test.YteghmoijhcdpeaaAue
--KINDS
set_option linter.unusedSimpArgs false
set_option linter.unusedVariables false
set_option maxRecDepth 100000
namespace Go.Proofs.Yteghmoijhcdpeaa
open Go.RowKit

/-- Whether a right is right. -/
def validR (r : Rt) : Bool := (bitsF r.ops).2 && pfxOk r.pfx
theorem valid28 {w0 w : World} {C CX : List Chunk} {X : Chunk} {vo : Value} {r : Rt} (hO : Own w0 w C) (hX : Pick C X CX) (ho : RdO X vo r.ops) (hn : r.ops.length ≤ 1000) :
    Calls Try.prog 28 #[.agg #[vo, .string r.pfx, .int .u64 (r.til : Int)]] w fun e w' => e = .returned (.bool (validR r)) ∧ Own w0 w' C := by
  obtain ⟨A, c, rfl, hc, HO⟩ := ho.split
  clear ho
  go_enter Try.func28, Try.ntmps28
  go_wp2_with (first | ((with_reducible refine is_load ?_); refine a_load hO ?_; go_frame) | ((with_reducible refine is_load ?_); refine a_loadA hO ?_; go_frame) | ((with_reducible refine is_store ?_); refine a_store hO ?_; clear hO; intro w hO; go_frame) | ((with_reducible refine is_store ?_); refine a_storeA hO ?_; clear hO; intro w hO; go_frame) | ((with_reducible refine is_alloc ?_); refine a_alloc hO ?_; clear hO; intro w b_ hO; go_frame) | ((with_reducible refine is_box ?_); refine a_box hO ?_; clear hO; intro w b_ hO; go_frame) | ((with_reducible refine is_lit ?_); refine a_lit0 hO ?_; clear hO; intro w b_ hl_ hO; go_frame) | ((with_reducible refine is_lit ?_); refine a_lit1 hO ?_; clear hO; intro w b_ hl_ hO; go_frame) | ((with_reducible refine is_lit ?_); refine a_lit2 hO ?_; clear hO; intro w b_ hl_ hO; go_frame) | ((with_reducible refine is_lit ?_); refine a_lit3 hO ?_; clear hO; intro w b_ hl_ hO; go_frame))
  go_at_call 40
  refine (bits40 hO (.there hX) HO.out hn).mono ?_
  rintro e w ⟨rfl, rfl⟩
  have HF : Hid (validR r = ((bitsF r.ops).2 && pfxOk r.pfx)) := (rfl : _ = _)
  generalize bitsF r.ops = q at *
  obtain ⟨m, is⟩ := q
  cases is
  · go_wp2_with (first | ((with_reducible refine is_load ?_); refine a_load hO ?_; go_frame) | ((with_reducible refine is_load ?_); refine a_loadA hO ?_; go_frame) | ((with_reducible refine is_store ?_); refine a_store hO ?_; clear hO; intro w hO; go_frame) | ((with_reducible refine is_store ?_); refine a_storeA hO ?_; clear hO; intro w hO; go_frame) | ((with_reducible refine is_alloc ?_); refine a_alloc hO ?_; clear hO; intro w b_ hO; go_frame) | ((with_reducible refine is_box ?_); refine a_box hO ?_; clear hO; intro w b_ hO; go_frame) | ((with_reducible refine is_lit ?_); refine a_lit0 hO ?_; clear hO; intro w b_ hl_ hO; go_frame) | ((with_reducible refine is_lit ?_); refine a_lit1 hO ?_; clear hO; intro w b_ hl_ hO; go_frame) | ((with_reducible refine is_lit ?_); refine a_lit2 hO ?_; clear hO; intro w b_ hl_ hO; go_frame) | ((with_reducible refine is_lit ?_); refine a_lit3 hO ?_; clear hO; intro w b_ hl_ hO; go_frame))
    go_ret
    rw [HF.out]
    exact ⟨rfl, hO.drop⟩
  · go_wp2_with (first | ((with_reducible refine is_load ?_); refine a_load hO ?_; go_frame) | ((with_reducible refine is_load ?_); refine a_loadA hO ?_; go_frame) | ((with_reducible refine is_store ?_); refine a_store hO ?_; clear hO; intro w hO; go_frame) | ((with_reducible refine is_store ?_); refine a_storeA hO ?_; clear hO; intro w hO; go_frame) | ((with_reducible refine is_alloc ?_); refine a_alloc hO ?_; clear hO; intro w b_ hO; go_frame) | ((with_reducible refine is_box ?_); refine a_box hO ?_; clear hO; intro w b_ hO; go_frame) | ((with_reducible refine is_lit ?_); refine a_lit0 hO ?_; clear hO; intro w b_ hl_ hO; go_frame) | ((with_reducible refine is_lit ?_); refine a_lit1 hO ?_; clear hO; intro w b_ hl_ hO; go_frame) | ((with_reducible refine is_lit ?_); refine a_lit2 hO ?_; clear hO; intro w b_ hl_ hO; go_frame) | ((with_reducible refine is_lit ?_); refine a_lit3 hO ?_; clear hO; intro w b_ hl_ hO; go_frame))
    go_at_call 41
    refine (asks41.does _ _).mono ?_
    rintro e w ⟨rfl, rfl⟩
    go_wp2_with (first | ((with_reducible refine is_load ?_); refine a_load hO ?_; go_frame) | ((with_reducible refine is_load ?_); refine a_loadA hO ?_; go_frame) | ((with_reducible refine is_store ?_); refine a_store hO ?_; clear hO; intro w hO; go_frame) | ((with_reducible refine is_store ?_); refine a_storeA hO ?_; clear hO; intro w hO; go_frame) | ((with_reducible refine is_alloc ?_); refine a_alloc hO ?_; clear hO; intro w b_ hO; go_frame) | ((with_reducible refine is_box ?_); refine a_box hO ?_; clear hO; intro w b_ hO; go_frame) | ((with_reducible refine is_lit ?_); refine a_lit0 hO ?_; clear hO; intro w b_ hl_ hO; go_frame) | ((with_reducible refine is_lit ?_); refine a_lit1 hO ?_; clear hO; intro w b_ hl_ hO; go_frame) | ((with_reducible refine is_lit ?_); refine a_lit2 hO ?_; clear hO; intro w b_ hl_ hO; go_frame) | ((with_reducible refine is_lit ?_); refine a_lit3 hO ?_; clear hO; intro w b_ hl_ hO; go_frame))
    go_ret
    rw [HF.out]
    exact ⟨by simp, hO.drop⟩
theorem grant27 {w0 w : World} {C CX : List Chunk} {X : Chunk} {vo : Value} {r : Rt} (hO : Own w0 w C) (hX : Pick C X CX) (ho : RdO X vo r.ops) (hn : r.ops.length ≤ 1000) :
    Calls Try.prog 27 #[.agg #[vo, .string r.pfx, .int .u64 (r.til : Int)]] w fun e w' => e = .returned (.bool (!validR r)) ∧ Own w0 w' C := by
  obtain ⟨A, c, rfl, hc, HO⟩ := ho.split
  clear ho
  go_enter Try.func27, Try.ntmps27
  go_wp2_with (first | ((with_reducible refine is_load ?_); refine a_load hO ?_; go_frame) | ((with_reducible refine is_load ?_); refine a_loadA hO ?_; go_frame) | ((with_reducible refine is_store ?_); refine a_store hO ?_; clear hO; intro w hO; go_frame) | ((with_reducible refine is_store ?_); refine a_storeA hO ?_; clear hO; intro w hO; go_frame) | ((with_reducible refine is_alloc ?_); refine a_alloc hO ?_; clear hO; intro w b_ hO; go_frame) | ((with_reducible refine is_box ?_); refine a_box hO ?_; clear hO; intro w b_ hO; go_frame) | ((with_reducible refine is_lit ?_); refine a_lit0 hO ?_; clear hO; intro w b_ hl_ hO; go_frame) | ((with_reducible refine is_lit ?_); refine a_lit1 hO ?_; clear hO; intro w b_ hl_ hO; go_frame) | ((with_reducible refine is_lit ?_); refine a_lit2 hO ?_; clear hO; intro w b_ hl_ hO; go_frame) | ((with_reducible refine is_lit ?_); refine a_lit3 hO ?_; clear hO; intro w b_ hl_ hO; go_frame))
  go_at_call 28
  refine (valid28 hO (.there hX) HO.out hn).mono ?_
  clear hO
  rintro e w ⟨rfl, hO⟩
  go_wp2_with (first | ((with_reducible refine is_load ?_); refine a_load hO ?_; go_frame) | ((with_reducible refine is_load ?_); refine a_loadA hO ?_; go_frame) | ((with_reducible refine is_store ?_); refine a_store hO ?_; clear hO; intro w hO; go_frame) | ((with_reducible refine is_store ?_); refine a_storeA hO ?_; clear hO; intro w hO; go_frame) | ((with_reducible refine is_alloc ?_); refine a_alloc hO ?_; clear hO; intro w b_ hO; go_frame) | ((with_reducible refine is_box ?_); refine a_box hO ?_; clear hO; intro w b_ hO; go_frame) | ((with_reducible refine is_lit ?_); refine a_lit0 hO ?_; clear hO; intro w b_ hl_ hO; go_frame) | ((with_reducible refine is_lit ?_); refine a_lit1 hO ?_; clear hO; intro w b_ hl_ hO; go_frame) | ((with_reducible refine is_lit ?_); refine a_lit2 hO ?_; clear hO; intro w b_ hl_ hO; go_frame) | ((with_reducible refine is_lit ?_); refine a_lit3 hO ?_; clear hO; intro w b_ hl_ hO; go_frame))
  go_ret
  exact ⟨by simp, hO.drop⟩

def dueF (t now : Nat) : Bool := decide (t ≠ 18446744073709551615) && decide (t ≤ now)
theorem due44 (t now : Nat) (w : World) : Calls Try.prog 44 #[.int .u64 (t : Int), .int .u64 (now : Int)] w fun e w' => e = .returned (.bool (dueF t now)) ∧ w = w' := by
  by_cases h : t = 18446744073709551615
  · subst h
    go_enter Try.func44, Try.ntmps44
    go_wp2
    all_goals (go_ret; exact ⟨by simp [dueF], rfl⟩)
  · have h' : (t : Int) ≠ 18446744073709551615 := by omega
    go_enter Try.func44, Try.ntmps44
    go_wp2
    all_goals (go_ret; exact ⟨by simp [dueF, h], rfl⟩)
def hasF (s p : ByteArray) : Bool := decide (p.size ≤ s.size) && decide ((s.extract 0 p.size) = p)
theorem has70 (s p : ByteArray) (w : World) (h1 : s.size ≤ 1000000) (h2 : p.size ≤ 1000000) : Calls Try.prog 70 #[.string s, .string p] w fun e w' => e = .returned (.bool (hasF s p)) ∧ w = w' := by
  by_cases h : p.size ≤ s.size
  · go_enter Try.func70, Try.ntmps70
    go_wp2
    all_goals trace_state
    all_goals (go_ret; exact ⟨by simp [hasF, h, strEq], rfl⟩)
  · go_enter Try.func70, Try.ntmps70
    go_wp2
    all_goals (go_ret; exact ⟨by simp [hasF, h], rfl⟩)
end Go.Proofs.Yteghmoijhcdpeaa
