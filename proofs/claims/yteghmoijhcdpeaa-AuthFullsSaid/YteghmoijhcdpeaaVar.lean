/- The walks of slices.Clone and of package varint: what each call returns and what memory it makes. -/
import Derived.Test.YteghmoijhcdpeaaTypes
import Derived.Maps.RangeWalk
set_option linter.unusedSimpArgs false
set_option linter.unusedVariables false
set_option maxRecDepth 100000
namespace Go.Proofs.Yteghmoijhcdpeaa
open Go.RowKit

def CloneR (w0 : World) (C : List Chunk) (T size n : Nat) (xs : List Value) (e : Ending) (w' : World) : Prop := ∃ A' c' K', e = .returned (.slice A' n c') ∧ Sl T size (.slice A' n c') n xs K' ∧ Own w0 w' (K' :: C)

theorem clone76 {w0 w : World} {C CX : List Chunk} {X : Chunk} {v : Value} {n : Nat} {xs : List Value} (hO : Own w0 w C) (hX : Pick C X CX) (hr : Rd X 1 v n xs) (hone : ∀ u ∈ xs, u.oneCell' = true) (hn : n ≤ 1099511627776) :
    Calls Try.prog 76 #[v] w (CloneR w0 C 5 1 n xs) := by
  have hnil := @Lib.run_eql_slice_nil Try.prog
  obtain ⟨A, c, rfl, hc, hl, hf⟩ := hr
  have HR : Hid (Rd X 1 (.slice A n c) n xs) := Lib.hid ⟨A, c, rfl, hc, hl, hf⟩
  cases A with
  | none =>
    have h0 : n = 0 := by
      rcases Nat.eq_zero_or_pos n with h | h
      · exact h
      · obtain ⟨_, _, h, _⟩ := hf h; cases h
    subst h0
    have : xs = [] := by simpa using hl
    subst this
    go_enter Try.func76, Try.ntmps76
    go_wp2_with (first | ((with_reducible refine is_load ?_); refine a_load hO ?_; go_frame) | ((with_reducible refine is_load ?_); refine a_loadA hO ?_; go_frame) | ((with_reducible refine is_store ?_); refine a_store hO ?_; clear hO; intro w hO; go_frame) | ((with_reducible refine is_store ?_); refine a_storeA hO ?_; clear hO; intro w hO; go_frame) | ((with_reducible refine is_alloc ?_); refine a_alloc hO ?_; clear hO; intro w b_ hO; go_frame) | ((with_reducible refine is_box ?_); refine a_box hO ?_; clear hO; intro w b_ hO; go_frame) | ((with_reducible refine is_lit ?_); refine a_lit0 hO ?_; clear hO; intro w b_ hl_ hO; go_frame) | ((with_reducible refine is_lit ?_); refine a_lit1 hO ?_; clear hO; intro w b_ hl_ hO; go_frame) | ((with_reducible refine is_lit ?_); refine a_lit2 hO ?_; clear hO; intro w b_ hl_ hO; go_frame) | ((with_reducible refine is_lit ?_); refine a_lit3 hO ?_; clear hO; intro w b_ hl_ hO; go_frame))
    go_ret
    exact ⟨_, _, _, rfl, Sl.none_ _ _, hO.none_⟩
  | some ad =>
    go_enter Try.func76, Try.ntmps76
    go_wp2_with (first | ((with_reducible refine is_load ?_); refine a_load hO ?_; go_frame) | ((with_reducible refine is_load ?_); refine a_loadA hO ?_; go_frame) | ((with_reducible refine is_store ?_); refine a_store hO ?_; clear hO; intro w hO; go_frame) | ((with_reducible refine is_store ?_); refine a_storeA hO ?_; clear hO; intro w hO; go_frame) | ((with_reducible refine is_alloc ?_); refine a_alloc hO ?_; clear hO; intro w b_ hO; go_frame) | ((with_reducible refine is_box ?_); refine a_box hO ?_; clear hO; intro w b_ hO; go_frame) | ((with_reducible refine is_lit ?_); refine a_lit0 hO ?_; clear hO; intro w b_ hl_ hO; go_frame) | ((with_reducible refine is_lit ?_); refine a_lit1 hO ?_; clear hO; intro w b_ hl_ hO; go_frame) | ((with_reducible refine is_lit ?_); refine a_lit2 hO ?_; clear hO; intro w b_ hl_ hO; go_frame) | ((with_reducible refine is_lit ?_); refine a_lit3 hO ?_; clear hO; intro w b_ hl_ hO; go_frame) | ((with_reducible apply st_append hO); rfl; rfl; infer_instance; infer_instance; infer_instance; rfl; decide; (simp only [Act.eval, Array.getD_eq_getD_getElem?, List.getElem?_toArray, List.getElem?_cons_succ, List.getElem?_cons_zero, Option.getD_some]; rfl); (simp only [Act.eval, Array.getD_eq_getD_getElem?, List.getElem?_toArray, List.getElem?_cons_succ, List.getElem?_cons_zero, Option.getD_some]; rfl); exact hl_; (focus (repeat (first | exact Pick.here | assumption | apply Pick.there))); exact HR.out; (focus (repeat (first | exact Pick.here | assumption | apply Pick.there))); exact hone; (first | omega | (simp only [maxLen]; omega) | (simp only [maxLen, List.length_append]; omega) | (simp only [List.length_append]; omega)); (first | omega | (simp only [maxLen]; omega) | (simp only [maxLen, List.length_append]; omega) | (simp only [List.length_append]; omega)); clear hO; intro w A_ c_ K_ hs_ hO; go_frame))
    go_ret
    exact ⟨A_, c_, K_, by simp, by simpa using hs_, hO⟩
theorem clone99 {w0 w : World} {C CX : List Chunk} {X : Chunk} {v : Value} {n : Nat} {xs : List Value} (hO : Own w0 w C) (hX : Pick C X CX) (hr : Rd X 1 v n xs) (hone : ∀ u ∈ xs, u.oneCell' = true) (hn : n ≤ 1099511627776) :
    Calls Try.prog 99 #[v] w (CloneR w0 C 5 1 n xs) := by
  have hnil := @Lib.run_eql_slice_nil Try.prog
  obtain ⟨A, c, rfl, hc, hl, hf⟩ := hr
  have HR : Hid (Rd X 1 (.slice A n c) n xs) := Lib.hid ⟨A, c, rfl, hc, hl, hf⟩
  cases A with
  | none =>
    have h0 : n = 0 := by
      rcases Nat.eq_zero_or_pos n with h | h
      · exact h
      · obtain ⟨_, _, h, _⟩ := hf h; cases h
    subst h0
    have : xs = [] := by simpa using hl
    subst this
    go_enter Try.func99, Try.ntmps99
    go_wp2_with (first | ((with_reducible refine is_load ?_); refine a_load hO ?_; go_frame) | ((with_reducible refine is_load ?_); refine a_loadA hO ?_; go_frame) | ((with_reducible refine is_store ?_); refine a_store hO ?_; clear hO; intro w hO; go_frame) | ((with_reducible refine is_store ?_); refine a_storeA hO ?_; clear hO; intro w hO; go_frame) | ((with_reducible refine is_alloc ?_); refine a_alloc hO ?_; clear hO; intro w b_ hO; go_frame) | ((with_reducible refine is_box ?_); refine a_box hO ?_; clear hO; intro w b_ hO; go_frame) | ((with_reducible refine is_lit ?_); refine a_lit0 hO ?_; clear hO; intro w b_ hl_ hO; go_frame) | ((with_reducible refine is_lit ?_); refine a_lit1 hO ?_; clear hO; intro w b_ hl_ hO; go_frame) | ((with_reducible refine is_lit ?_); refine a_lit2 hO ?_; clear hO; intro w b_ hl_ hO; go_frame) | ((with_reducible refine is_lit ?_); refine a_lit3 hO ?_; clear hO; intro w b_ hl_ hO; go_frame))
    go_ret
    exact ⟨_, _, _, rfl, Sl.none_ _ _, hO.none_⟩
  | some ad =>
    go_enter Try.func99, Try.ntmps99
    go_wp2_with (first | ((with_reducible refine is_load ?_); refine a_load hO ?_; go_frame) | ((with_reducible refine is_load ?_); refine a_loadA hO ?_; go_frame) | ((with_reducible refine is_store ?_); refine a_store hO ?_; clear hO; intro w hO; go_frame) | ((with_reducible refine is_store ?_); refine a_storeA hO ?_; clear hO; intro w hO; go_frame) | ((with_reducible refine is_alloc ?_); refine a_alloc hO ?_; clear hO; intro w b_ hO; go_frame) | ((with_reducible refine is_box ?_); refine a_box hO ?_; clear hO; intro w b_ hO; go_frame) | ((with_reducible refine is_lit ?_); refine a_lit0 hO ?_; clear hO; intro w b_ hl_ hO; go_frame) | ((with_reducible refine is_lit ?_); refine a_lit1 hO ?_; clear hO; intro w b_ hl_ hO; go_frame) | ((with_reducible refine is_lit ?_); refine a_lit2 hO ?_; clear hO; intro w b_ hl_ hO; go_frame) | ((with_reducible refine is_lit ?_); refine a_lit3 hO ?_; clear hO; intro w b_ hl_ hO; go_frame) | ((with_reducible apply st_append hO); rfl; rfl; infer_instance; infer_instance; infer_instance; rfl; decide; (simp only [Act.eval, Array.getD_eq_getD_getElem?, List.getElem?_toArray, List.getElem?_cons_succ, List.getElem?_cons_zero, Option.getD_some]; rfl); (simp only [Act.eval, Array.getD_eq_getD_getElem?, List.getElem?_toArray, List.getElem?_cons_succ, List.getElem?_cons_zero, Option.getD_some]; rfl); exact hl_; (focus (repeat (first | exact Pick.here | assumption | apply Pick.there))); exact HR.out; (focus (repeat (first | exact Pick.here | assumption | apply Pick.there))); exact hone; (first | omega | (simp only [maxLen]; omega) | (simp only [maxLen, List.length_append]; omega) | (simp only [List.length_append]; omega)); (first | omega | (simp only [maxLen]; omega) | (simp only [maxLen, List.length_append]; omega) | (simp only [List.length_append]; omega)); clear hO; intro w A_ c_ K_ hs_ hO; go_frame))
    go_ret
    exact ⟨A_, c_, K_, by simp, by simpa using hs_, hO⟩
theorem clone25 {w0 w : World} {C CX : List Chunk} {X : Chunk} {v : Value} {n : Nat} {xs : List Value} (hO : Own w0 w C) (hX : Pick C X CX) (hr : Rd X 1 v n xs) (hone : ∀ u ∈ xs, u.oneCell' = true) (hn : n ≤ 1099511627776) :
    Calls Try.prog 25 #[v] w (CloneR w0 C 9 1 n xs) := by
  have hnil := @Lib.run_eql_slice_nil Try.prog
  obtain ⟨A, c, rfl, hc, hl, hf⟩ := hr
  have HR : Hid (Rd X 1 (.slice A n c) n xs) := Lib.hid ⟨A, c, rfl, hc, hl, hf⟩
  cases A with
  | none =>
    have h0 : n = 0 := by
      rcases Nat.eq_zero_or_pos n with h | h
      · exact h
      · obtain ⟨_, _, h, _⟩ := hf h; cases h
    subst h0
    have : xs = [] := by simpa using hl
    subst this
    go_enter Try.func25, Try.ntmps25
    go_wp2_with (first | ((with_reducible refine is_load ?_); refine a_load hO ?_; go_frame) | ((with_reducible refine is_load ?_); refine a_loadA hO ?_; go_frame) | ((with_reducible refine is_store ?_); refine a_store hO ?_; clear hO; intro w hO; go_frame) | ((with_reducible refine is_store ?_); refine a_storeA hO ?_; clear hO; intro w hO; go_frame) | ((with_reducible refine is_alloc ?_); refine a_alloc hO ?_; clear hO; intro w b_ hO; go_frame) | ((with_reducible refine is_box ?_); refine a_box hO ?_; clear hO; intro w b_ hO; go_frame) | ((with_reducible refine is_lit ?_); refine a_lit0 hO ?_; clear hO; intro w b_ hl_ hO; go_frame) | ((with_reducible refine is_lit ?_); refine a_lit1 hO ?_; clear hO; intro w b_ hl_ hO; go_frame) | ((with_reducible refine is_lit ?_); refine a_lit2 hO ?_; clear hO; intro w b_ hl_ hO; go_frame) | ((with_reducible refine is_lit ?_); refine a_lit3 hO ?_; clear hO; intro w b_ hl_ hO; go_frame))
    go_ret
    exact ⟨_, _, _, rfl, Sl.none_ _ _, hO.none_⟩
  | some ad =>
    go_enter Try.func25, Try.ntmps25
    go_wp2_with (first | ((with_reducible refine is_load ?_); refine a_load hO ?_; go_frame) | ((with_reducible refine is_load ?_); refine a_loadA hO ?_; go_frame) | ((with_reducible refine is_store ?_); refine a_store hO ?_; clear hO; intro w hO; go_frame) | ((with_reducible refine is_store ?_); refine a_storeA hO ?_; clear hO; intro w hO; go_frame) | ((with_reducible refine is_alloc ?_); refine a_alloc hO ?_; clear hO; intro w b_ hO; go_frame) | ((with_reducible refine is_box ?_); refine a_box hO ?_; clear hO; intro w b_ hO; go_frame) | ((with_reducible refine is_lit ?_); refine a_lit0 hO ?_; clear hO; intro w b_ hl_ hO; go_frame) | ((with_reducible refine is_lit ?_); refine a_lit1 hO ?_; clear hO; intro w b_ hl_ hO; go_frame) | ((with_reducible refine is_lit ?_); refine a_lit2 hO ?_; clear hO; intro w b_ hl_ hO; go_frame) | ((with_reducible refine is_lit ?_); refine a_lit3 hO ?_; clear hO; intro w b_ hl_ hO; go_frame) | ((with_reducible apply st_append hO); rfl; rfl; infer_instance; infer_instance; infer_instance; rfl; decide; (simp only [Act.eval, Array.getD_eq_getD_getElem?, List.getElem?_toArray, List.getElem?_cons_succ, List.getElem?_cons_zero, Option.getD_some]; rfl); (simp only [Act.eval, Array.getD_eq_getD_getElem?, List.getElem?_toArray, List.getElem?_cons_succ, List.getElem?_cons_zero, Option.getD_some]; rfl); exact hl_; (focus (repeat (first | exact Pick.here | assumption | apply Pick.there))); exact HR.out; (focus (repeat (first | exact Pick.here | assumption | apply Pick.there))); exact hone; (first | omega | (simp only [maxLen]; omega) | (simp only [maxLen, List.length_append]; omega) | (simp only [List.length_append]; omega)); (first | omega | (simp only [maxLen]; omega) | (simp only [maxLen, List.length_append]; omega) | (simp only [List.length_append]; omega)); clear hO; intro w A_ c_ K_ hs_ hO; go_frame))
    go_ret
    exact ⟨A_, c_, K_, by simp, by simpa using hs_, hO⟩
theorem clone43 {w0 w : World} {C CX : List Chunk} {X : Chunk} {v : Value} {n : Nat} {xs : List Value} (hO : Own w0 w C) (hX : Pick C X CX) (hr : Rd X 1 v n xs) (hone : ∀ u ∈ xs, u.oneCell' = true) (hn : n ≤ 1099511627776) :
    Calls Try.prog 43 #[v] w (CloneR w0 C 25 1 n xs) := by
  have hnil := @Lib.run_eql_slice_nil Try.prog
  obtain ⟨A, c, rfl, hc, hl, hf⟩ := hr
  have HR : Hid (Rd X 1 (.slice A n c) n xs) := Lib.hid ⟨A, c, rfl, hc, hl, hf⟩
  cases A with
  | none =>
    have h0 : n = 0 := by
      rcases Nat.eq_zero_or_pos n with h | h
      · exact h
      · obtain ⟨_, _, h, _⟩ := hf h; cases h
    subst h0
    have : xs = [] := by simpa using hl
    subst this
    go_enter Try.func43, Try.ntmps43
    go_wp2_with (first | ((with_reducible refine is_load ?_); refine a_load hO ?_; go_frame) | ((with_reducible refine is_load ?_); refine a_loadA hO ?_; go_frame) | ((with_reducible refine is_store ?_); refine a_store hO ?_; clear hO; intro w hO; go_frame) | ((with_reducible refine is_store ?_); refine a_storeA hO ?_; clear hO; intro w hO; go_frame) | ((with_reducible refine is_alloc ?_); refine a_alloc hO ?_; clear hO; intro w b_ hO; go_frame) | ((with_reducible refine is_box ?_); refine a_box hO ?_; clear hO; intro w b_ hO; go_frame) | ((with_reducible refine is_lit ?_); refine a_lit0 hO ?_; clear hO; intro w b_ hl_ hO; go_frame) | ((with_reducible refine is_lit ?_); refine a_lit1 hO ?_; clear hO; intro w b_ hl_ hO; go_frame) | ((with_reducible refine is_lit ?_); refine a_lit2 hO ?_; clear hO; intro w b_ hl_ hO; go_frame) | ((with_reducible refine is_lit ?_); refine a_lit3 hO ?_; clear hO; intro w b_ hl_ hO; go_frame))
    go_ret
    exact ⟨_, _, _, rfl, Sl.none_ _ _, hO.none_⟩
  | some ad =>
    go_enter Try.func43, Try.ntmps43
    go_wp2_with (first | ((with_reducible refine is_load ?_); refine a_load hO ?_; go_frame) | ((with_reducible refine is_load ?_); refine a_loadA hO ?_; go_frame) | ((with_reducible refine is_store ?_); refine a_store hO ?_; clear hO; intro w hO; go_frame) | ((with_reducible refine is_store ?_); refine a_storeA hO ?_; clear hO; intro w hO; go_frame) | ((with_reducible refine is_alloc ?_); refine a_alloc hO ?_; clear hO; intro w b_ hO; go_frame) | ((with_reducible refine is_box ?_); refine a_box hO ?_; clear hO; intro w b_ hO; go_frame) | ((with_reducible refine is_lit ?_); refine a_lit0 hO ?_; clear hO; intro w b_ hl_ hO; go_frame) | ((with_reducible refine is_lit ?_); refine a_lit1 hO ?_; clear hO; intro w b_ hl_ hO; go_frame) | ((with_reducible refine is_lit ?_); refine a_lit2 hO ?_; clear hO; intro w b_ hl_ hO; go_frame) | ((with_reducible refine is_lit ?_); refine a_lit3 hO ?_; clear hO; intro w b_ hl_ hO; go_frame) | ((with_reducible apply st_append hO); rfl; rfl; infer_instance; infer_instance; infer_instance; rfl; decide; (simp only [Act.eval, Array.getD_eq_getD_getElem?, List.getElem?_toArray, List.getElem?_cons_succ, List.getElem?_cons_zero, Option.getD_some]; rfl); (simp only [Act.eval, Array.getD_eq_getD_getElem?, List.getElem?_toArray, List.getElem?_cons_succ, List.getElem?_cons_zero, Option.getD_some]; rfl); exact hl_; (focus (repeat (first | exact Pick.here | assumption | apply Pick.there))); exact HR.out; (focus (repeat (first | exact Pick.here | assumption | apply Pick.there))); exact hone; (first | omega | (simp only [maxLen]; omega) | (simp only [maxLen, List.length_append]; omega) | (simp only [List.length_append]; omega)); (first | omega | (simp only [maxLen]; omega) | (simp only [maxLen, List.length_append]; omega) | (simp only [List.length_append]; omega)); clear hO; intro w A_ c_ K_ hs_ hO; go_frame))
    go_ret
    exact ⟨A_, c_, K_, by simp, by simpa using hs_, hO⟩
theorem clone42 {w0 w : World} {C CX : List Chunk} {X : Chunk} {v : Value} {n : Nat} {xs : List Value} (hO : Own w0 w C) (hX : Pick C X CX) (hr : Rd X 3 v n xs) (hone : ∀ u ∈ xs, u.oneCell' = true) (hn : n ≤ 1099511627776) :
    Calls Try.prog 42 #[v] w (CloneR w0 C 50 3 n xs) := by
  have hnil := @Lib.run_eql_slice_nil Try.prog
  obtain ⟨A, c, rfl, hc, hl, hf⟩ := hr
  have HR : Hid (Rd X 3 (.slice A n c) n xs) := Lib.hid ⟨A, c, rfl, hc, hl, hf⟩
  cases A with
  | none =>
    have h0 : n = 0 := by
      rcases Nat.eq_zero_or_pos n with h | h
      · exact h
      · obtain ⟨_, _, h, _⟩ := hf h; cases h
    subst h0
    have : xs = [] := by simpa using hl
    subst this
    go_enter Try.func42, Try.ntmps42
    go_wp2_with (first | ((with_reducible refine is_load ?_); refine a_load hO ?_; go_frame) | ((with_reducible refine is_load ?_); refine a_loadA hO ?_; go_frame) | ((with_reducible refine is_store ?_); refine a_store hO ?_; clear hO; intro w hO; go_frame) | ((with_reducible refine is_store ?_); refine a_storeA hO ?_; clear hO; intro w hO; go_frame) | ((with_reducible refine is_alloc ?_); refine a_alloc hO ?_; clear hO; intro w b_ hO; go_frame) | ((with_reducible refine is_box ?_); refine a_box hO ?_; clear hO; intro w b_ hO; go_frame) | ((with_reducible refine is_lit ?_); refine a_lit0 hO ?_; clear hO; intro w b_ hl_ hO; go_frame) | ((with_reducible refine is_lit ?_); refine a_lit1 hO ?_; clear hO; intro w b_ hl_ hO; go_frame) | ((with_reducible refine is_lit ?_); refine a_lit2 hO ?_; clear hO; intro w b_ hl_ hO; go_frame) | ((with_reducible refine is_lit ?_); refine a_lit3 hO ?_; clear hO; intro w b_ hl_ hO; go_frame))
    go_ret
    exact ⟨_, _, _, rfl, Sl.none_ _ _, hO.none_⟩
  | some ad =>
    go_enter Try.func42, Try.ntmps42
    go_wp2_with (first | ((with_reducible refine is_load ?_); refine a_load hO ?_; go_frame) | ((with_reducible refine is_load ?_); refine a_loadA hO ?_; go_frame) | ((with_reducible refine is_store ?_); refine a_store hO ?_; clear hO; intro w hO; go_frame) | ((with_reducible refine is_store ?_); refine a_storeA hO ?_; clear hO; intro w hO; go_frame) | ((with_reducible refine is_alloc ?_); refine a_alloc hO ?_; clear hO; intro w b_ hO; go_frame) | ((with_reducible refine is_box ?_); refine a_box hO ?_; clear hO; intro w b_ hO; go_frame) | ((with_reducible refine is_lit ?_); refine a_lit0 hO ?_; clear hO; intro w b_ hl_ hO; go_frame) | ((with_reducible refine is_lit ?_); refine a_lit1 hO ?_; clear hO; intro w b_ hl_ hO; go_frame) | ((with_reducible refine is_lit ?_); refine a_lit2 hO ?_; clear hO; intro w b_ hl_ hO; go_frame) | ((with_reducible refine is_lit ?_); refine a_lit3 hO ?_; clear hO; intro w b_ hl_ hO; go_frame) | ((with_reducible apply st_append hO); rfl; rfl; infer_instance; infer_instance; infer_instance; rfl; decide; (simp only [Act.eval, Array.getD_eq_getD_getElem?, List.getElem?_toArray, List.getElem?_cons_succ, List.getElem?_cons_zero, Option.getD_some]; rfl); (simp only [Act.eval, Array.getD_eq_getD_getElem?, List.getElem?_toArray, List.getElem?_cons_succ, List.getElem?_cons_zero, Option.getD_some]; rfl); exact hl_; (focus (repeat (first | exact Pick.here | assumption | apply Pick.there))); exact HR.out; (focus (repeat (first | exact Pick.here | assumption | apply Pick.there))); exact hone; (first | omega | (simp only [maxLen]; omega) | (simp only [maxLen, List.length_append]; omega) | (simp only [List.length_append]; omega)); (first | omega | (simp only [maxLen]; omega) | (simp only [maxLen, List.length_append]; omega) | (simp only [List.length_append]; omega)); clear hO; intro w A_ c_ K_ hs_ hO; go_frame))
    go_ret
    exact ⟨A_, c_, K_, by simp, by simpa using hs_, hO⟩
def PutR (w0 : World) (C : List Chunk) (l : List UInt8) (e : Ending) (w' : World) : Prop := ∃ A' n c' K', e = .returned (.slice A' n c') ∧ n = l.length ∧ Sl 5 1 (.slice A' n c') n (bys l) K' ∧ Own w0 w' (K' :: C)
def putF : Nat → Nat → List UInt8
  | 0, _ => []
  | f + 1, n => if 127 < n then UInt8.ofNat (n % 128 + 128) :: putF f (n / 128) else [UInt8.ofNat n]

theorem putF_len : ∀ f n, (putF f n).length ≤ f
  | 0, _ => by simp [putF]
  | f + 1, n => by
    have := putF_len f (n / 128)
    unfold putF
    split <;> simp <;> omega
theorem or128 : ∀ r : Fin 256, bits .or .u8 ((r.val : Nat) : Int) 128 = ((UInt8.ofNat (r.val % 128 + 128)).toNat : Int) := by decide +kernel
theorem or128' (k : Nat) : bits .or .u8 ((k : Int) % 256) 128 = ((UInt8.ofNat (k % 128 + 128)).toNat : Int) := by
  have := or128 ⟨k % 256, Nat.mod_lt _ (by decide)⟩
  simp only [] at this
  rw [show (k % 256) % 128 = k % 128 by omega] at this
  rw [← this]
  simp
theorem u8_small (k : Nat) (h : k < 256) : ((UInt8.ofNat k).toNat : Int) = (k : Int) := by
  simp [UInt8.toNat_ofNat']
  omega
theorem put_spec {w0 w : World} {C CX : List Chunk} {X : Chunk} {v : Value} {l : List UInt8} (n : Nat) (hO : Own w0 w C) (hX : Pick C X CX) (hr : RdB X v l) (hl : l.length ≤ 1073741824) (hn : n < 18446744073709551616) :
    Calls Try.prog 74 #[v, .int .u64 n] w (PutR w0 C (l ++ putF 10 n)) := by
  have Hn := Lib.hid hn
  clear hn
  go_enter Try.func74, Try.ntmps74
  go_wp2_with (first | ((with_reducible refine is_load ?_); refine a_load hO ?_; go_frame) | ((with_reducible refine is_load ?_); refine a_loadA hO ?_; go_frame) | ((with_reducible refine is_store ?_); refine a_store hO ?_; clear hO; intro w hO; go_frame) | ((with_reducible refine is_store ?_); refine a_storeA hO ?_; clear hO; intro w hO; go_frame) | ((with_reducible refine is_alloc ?_); refine a_alloc hO ?_; clear hO; intro w b_ hO; go_frame) | ((with_reducible refine is_box ?_); refine a_box hO ?_; clear hO; intro w b_ hO; go_frame) | ((with_reducible refine is_lit ?_); refine a_lit0 hO ?_; clear hO; intro w b_ hl_ hO; go_frame) | ((with_reducible refine is_lit ?_); refine a_lit1 hO ?_; clear hO; intro w b_ hl_ hO; go_frame) | ((with_reducible refine is_lit ?_); refine a_lit2 hO ?_; clear hO; intro w b_ hl_ hO; go_frame) | ((with_reducible refine is_lit ?_); refine a_lit3 hO ?_; clear hO; intro w b_ hl_ hO; go_frame))
  go_at_call 76
  refine (clone76 hO hX hr (bys_one l) (by omega)).mono ?_
  rintro e w ⟨A1, c1, K1, rfl, hs1, hO⟩
  go_wp2_with (first | ((with_reducible refine is_load ?_); refine a_load hO ?_; go_frame) | ((with_reducible refine is_load ?_); refine a_loadA hO ?_; go_frame) | ((with_reducible refine is_store ?_); refine a_store hO ?_; clear hO; intro w hO; go_frame) | ((with_reducible refine is_store ?_); refine a_storeA hO ?_; clear hO; intro w hO; go_frame) | ((with_reducible refine is_alloc ?_); refine a_alloc hO ?_; clear hO; intro w b_ hO; go_frame) | ((with_reducible refine is_box ?_); refine a_box hO ?_; clear hO; intro w b_ hO; go_frame) | ((with_reducible refine is_lit ?_); refine a_lit0 hO ?_; clear hO; intro w b_ hl_ hO; go_frame) | ((with_reducible refine is_lit ?_); refine a_lit1 hO ?_; clear hO; intro w b_ hl_ hO; go_frame) | ((with_reducible refine is_lit ?_); refine a_lit2 hO ?_; clear hO; intro w b_ hl_ hO; go_frame) | ((with_reducible refine is_lit ?_); refine a_lit3 hO ?_; clear hO; intro w b_ hl_ hO; go_frame))
  go_loopw [5, 1] (fun o i wr => ∃ (f k : Nat) (d : List UInt8) (K : Chunk), i = .int .u64 (k : Int) ∧ 1 ≤ f ∧ k < 128 ^ f ∧ d ++ putF f k = putF 10 n ∧ d.length + f = 10 ∧ Sl 5 1 o (l ++ d).length (bys (l ++ d)) K ∧ Own w0 wr (K :: C)) (fun _ i _ => (intOf i).toNat)
  case atStart => exact ⟨10, n, [], K1, rfl, by omega, by have := Hn.out; omega, rfl, rfl, by simpa using hs1, hO⟩
  case round =>
    clear hO hs1
    obtain ⟨f, k, d, K, rfl, hf1, hk, hd, hf, hsK, hO⟩ := hrel
    have Hk := Lib.hid hk
    have Hd := Lib.hid hd
    clear hk hd
    by_cases h : 127 < k
    · have hd1 : l.length + d.length ≤ 1073741900 := by omega
      go_wp2_with (first | ((with_reducible refine is_load ?_); refine a_load hO ?_; go_frame) | ((with_reducible refine is_load ?_); refine a_loadA hO ?_; go_frame) | ((with_reducible refine is_store ?_); refine a_store hO ?_; clear hO; intro w hO; go_frame) | ((with_reducible refine is_store ?_); refine a_storeA hO ?_; clear hO; intro w hO; go_frame) | ((with_reducible refine is_alloc ?_); refine a_alloc hO ?_; clear hO; intro w b_ hO; go_frame) | ((with_reducible refine is_box ?_); refine a_box hO ?_; clear hO; intro w b_ hO; go_frame) | ((with_reducible refine is_lit ?_); refine a_lit0 hO ?_; clear hO; intro w b_ hl_ hO; go_frame) | ((with_reducible refine is_lit ?_); refine a_lit1 hO ?_; clear hO; intro w b_ hl_ hO; go_frame) | ((with_reducible refine is_lit ?_); refine a_lit2 hO ?_; clear hO; intro w b_ hl_ hO; go_frame) | ((with_reducible refine is_lit ?_); refine a_lit3 hO ?_; clear hO; intro w b_ hl_ hO; go_frame) | ((with_reducible apply st_append hO); rfl; rfl; infer_instance; infer_instance; infer_instance; rfl; decide; (simp only [Act.eval, Array.getD_eq_getD_getElem?, List.getElem?_toArray, List.getElem?_cons_succ, List.getElem?_cons_zero, Option.getD_some]; rfl); (simp only [Act.eval, Array.getD_eq_getD_getElem?, List.getElem?_toArray, List.getElem?_cons_succ, List.getElem?_cons_zero, Option.getD_some]; rfl); exact hsK; (focus (repeat (first | exact Pick.here | assumption | apply Pick.there))); exact hl_.rd; (focus (repeat (first | exact Pick.here | assumption | apply Pick.there))); (simp [Value.oneCell']); (first | omega | (simp only [maxLen]; omega) | (simp only [maxLen, List.length_append]; omega) | (simp only [List.length_append]; omega)); (first | omega | (simp only [maxLen]; omega) | (simp only [maxLen, List.length_append]; omega) | (simp only [List.length_append]; omega)); clear hO; intro w A_ c_ K_ hs_ hO; go_frame))
      obtain ⟨f, rfl⟩ : ∃ g, f = g + 1 := ⟨f - 1, by omega⟩
      refine ⟨⟨f, k / 128, d ++ [UInt8.ofNat (k % 128 + 128)], K_, by simp, ?_, ?_, ?_, by simp; omega, ?_, hO.dropAt (.there .here)⟩, by simp [intOf]; omega⟩
      · rcases Nat.eq_zero_or_pos f with h0 | h0
        · subst h0; have := Hk.out; simp at this; omega
        · exact h0
      · have := Hk.out; rw [Nat.pow_succ] at this; exact Nat.div_lt_of_lt_mul (by omega)
      · have := Hd.out
        rw [← this]
        simp [putF, h]
      · rw [or128'] at hs_
        have e : bys (l ++ (d ++ [UInt8.ofNat (k % 128 + 128)])) = bys (l ++ d) ++ [.int .u8 ((UInt8.ofNat (k % 128 + 128)).toNat : Int)] := by simp [bys]
        rw [e]
        simpa [Nat.add_assoc] using hs_
    · go_wp2_with (first | ((with_reducible refine is_load ?_); refine a_load hO ?_; go_frame) | ((with_reducible refine is_load ?_); refine a_loadA hO ?_; go_frame) | ((with_reducible refine is_store ?_); refine a_store hO ?_; clear hO; intro w hO; go_frame) | ((with_reducible refine is_store ?_); refine a_storeA hO ?_; clear hO; intro w hO; go_frame) | ((with_reducible refine is_alloc ?_); refine a_alloc hO ?_; clear hO; intro w b_ hO; go_frame) | ((with_reducible refine is_box ?_); refine a_box hO ?_; clear hO; intro w b_ hO; go_frame) | ((with_reducible refine is_lit ?_); refine a_lit0 hO ?_; clear hO; intro w b_ hl_ hO; go_frame) | ((with_reducible refine is_lit ?_); refine a_lit1 hO ?_; clear hO; intro w b_ hl_ hO; go_frame) | ((with_reducible refine is_lit ?_); refine a_lit2 hO ?_; clear hO; intro w b_ hl_ hO; go_frame) | ((with_reducible refine is_lit ?_); refine a_lit3 hO ?_; clear hO; intro w b_ hl_ hO; go_frame) | ((with_reducible apply st_append hO); rfl; rfl; infer_instance; infer_instance; infer_instance; rfl; decide; (simp only [Act.eval, Array.getD_eq_getD_getElem?, List.getElem?_toArray, List.getElem?_cons_succ, List.getElem?_cons_zero, Option.getD_some]; rfl); (simp only [Act.eval, Array.getD_eq_getD_getElem?, List.getElem?_toArray, List.getElem?_cons_succ, List.getElem?_cons_zero, Option.getD_some]; rfl); exact hsK; (focus (repeat (first | exact Pick.here | assumption | apply Pick.there))); exact hl_.rd; (focus (repeat (first | exact Pick.here | assumption | apply Pick.there))); (simp [Value.oneCell']); (first | omega | (simp only [maxLen]; omega) | (simp only [maxLen, List.length_append]; omega) | (simp only [List.length_append]; omega)); (first | omega | (simp only [maxLen]; omega) | (simp only [maxLen, List.length_append]; omega) | (simp only [List.length_append]; omega)); clear hO; intro w A_ c_ K_ hs_ hO; go_frame))
      go_ret
      have e0 : putF 10 n = d ++ [UInt8.ofNat k] := by
        rw [← Hd.out]
        cases f with
        | zero => omega
        | succ g => simp [putF, h]
      have e : bys (l ++ putF 10 n) = bys (l ++ d) ++ [.int .u8 (k : Int)] := by
        rw [e0, ← u8_small k (by omega)]
        simp [bys]
      refine ⟨A_, _, c_, K_, rfl, by rw [e0]; simp [Nat.add_assoc], ?_, hO.dropAt (.there .here)⟩
      rw [e]
      simpa [Nat.add_assoc] using hs_
theorem putBytes_spec {w0 w : World} {C CX CY : List Chunk} {X Y : Chunk} {v v2 : Value} {l m : List UInt8} (hO : Own w0 w C) (hX : Pick C X CX) (hr : RdB X v l) (hY : Pick C Y CY) (hr2 : RdB Y v2 m) (hl : l.length ≤ 1073741824) (hm : m.length ≤ 1073741824) :
    Calls Try.prog 71 #[v, v2] w (PutR w0 C (l ++ putF 10 m.length ++ m)) := by
  have hlen := putF_len 10 m.length
  obtain ⟨A2, c2, rfl, hc2, HR2⟩ := hr2.split
  go_enter Try.func71, Try.ntmps71
  go_wp2_with (first | ((with_reducible refine is_load ?_); refine a_load hO ?_; go_frame) | ((with_reducible refine is_load ?_); refine a_loadA hO ?_; go_frame) | ((with_reducible refine is_store ?_); refine a_store hO ?_; clear hO; intro w hO; go_frame) | ((with_reducible refine is_store ?_); refine a_storeA hO ?_; clear hO; intro w hO; go_frame) | ((with_reducible refine is_alloc ?_); refine a_alloc hO ?_; clear hO; intro w b_ hO; go_frame) | ((with_reducible refine is_box ?_); refine a_box hO ?_; clear hO; intro w b_ hO; go_frame) | ((with_reducible refine is_lit ?_); refine a_lit0 hO ?_; clear hO; intro w b_ hl_ hO; go_frame) | ((with_reducible refine is_lit ?_); refine a_lit1 hO ?_; clear hO; intro w b_ hl_ hO; go_frame) | ((with_reducible refine is_lit ?_); refine a_lit2 hO ?_; clear hO; intro w b_ hl_ hO; go_frame) | ((with_reducible refine is_lit ?_); refine a_lit3 hO ?_; clear hO; intro w b_ hl_ hO; go_frame))
  go_at_call 74
  refine (put_spec m.length hO hX hr (by omega) (by omega)).mono ?_
  rintro e w ⟨A1, n1, c1, K1, rfl, hn1, hs1, hO⟩
  have hn2 : n1 ≤ 2147483648 := by rw [hn1]; simp; omega
  have Hn1 := Lib.hid hn1
  clear hn1
  go_wp2_with (first | ((with_reducible refine is_load ?_); refine a_load hO ?_; go_frame) | ((with_reducible refine is_load ?_); refine a_loadA hO ?_; go_frame) | ((with_reducible refine is_store ?_); refine a_store hO ?_; clear hO; intro w hO; go_frame) | ((with_reducible refine is_store ?_); refine a_storeA hO ?_; clear hO; intro w hO; go_frame) | ((with_reducible refine is_alloc ?_); refine a_alloc hO ?_; clear hO; intro w b_ hO; go_frame) | ((with_reducible refine is_box ?_); refine a_box hO ?_; clear hO; intro w b_ hO; go_frame) | ((with_reducible refine is_lit ?_); refine a_lit0 hO ?_; clear hO; intro w b_ hl_ hO; go_frame) | ((with_reducible refine is_lit ?_); refine a_lit1 hO ?_; clear hO; intro w b_ hl_ hO; go_frame) | ((with_reducible refine is_lit ?_); refine a_lit2 hO ?_; clear hO; intro w b_ hl_ hO; go_frame) | ((with_reducible refine is_lit ?_); refine a_lit3 hO ?_; clear hO; intro w b_ hl_ hO; go_frame) | ((with_reducible apply st_append hO); rfl; rfl; infer_instance; infer_instance; infer_instance; rfl; decide; (simp only [Act.eval, Array.getD_eq_getD_getElem?, List.getElem?_toArray, List.getElem?_cons_succ, List.getElem?_cons_zero, Option.getD_some]; rfl); (simp only [Act.eval, Array.getD_eq_getD_getElem?, List.getElem?_toArray, List.getElem?_cons_succ, List.getElem?_cons_zero, Option.getD_some]; rfl); exact hs1; (focus (repeat (first | exact Pick.here | assumption | apply Pick.there))); exact HR2.out; (focus (repeat (first | exact Pick.here | assumption | apply Pick.there))); exact bys_one m; (first | omega | (simp only [maxLen]; omega) | (simp only [maxLen, List.length_append]; omega) | (simp only [List.length_append]; omega)); (first | omega | (simp only [maxLen]; omega) | (simp only [maxLen, List.length_append]; omega) | (simp only [List.length_append]; omega)); clear hO; intro w A_ c_ K_ hs_ hO; go_frame))
  go_ret
  exact ⟨A_, _, c_, K_, rfl, by rw [Hn1.out]; simp [Nat.add_assoc], by simpa [bys, Nat.add_assoc] using hs_, hO⟩

def getF : List UInt8 → Nat → Int → Int × Int × Int
  | [], _, _ => (0, 0, 4)
  | c :: cs, i, n =>
    if (i = 9 ∧ 1 < c.toNat) ∨ (0 < i ∧ c.toNat = 0) then (0, 0, 6)
    else if c.toNat < 128 then (bits .or .u64 n (IntKind.u64.wrap (c.toNat * 2 ^ (7 * i))), i + 1, 0)
    else getF cs (i + 1) (bits .or .u64 n (IntKind.u64.wrap (IntKind.u64.wrap (bits .and .u8 c.toNat 127) * 2 ^ (7 * i))))
def GetR (w : World) (r : Int × Int × Int) (e : Ending) (w' : World) : Prop := e = .returned (.tuple #[.int .u64 r.1, .int .i64 r.2.1, .int .i64 r.2.2]) ∧ w = w'

theorem wrap9 (x : Int) (h0 : 0 ≤ x) (h1 : x ≤ 1) : IntKind.u64.wrap (x * 2 ^ (7 * 9)) = x * 9223372036854775808 := by
  rcases (by omega : x = 0 ∨ x = 1) with rfl | rfl <;> decide
theorem get_spec {w0 w : World} {C CX : List Chunk} {X : Chunk} {v : Value} {l : List UInt8} (hO : Own w0 w C) (hX : Pick C X CX) (hr : RdB X v l) (hl : l.length ≤ 1073741824) :
    Calls Try.prog 92 #[v] w (GetR w (getF l 0 0)) := by
  obtain ⟨A, c, rfl, hc, HR⟩ := hr.split
  go_enter Try.func92, Try.ntmps92
  go_wp2_with (first | ((with_reducible refine is_load ?_); refine a_load hO ?_; go_frame) | ((with_reducible refine is_load ?_); refine a_loadA hO ?_; go_frame) | ((with_reducible refine is_store ?_); refine a_store hO ?_; clear hO; intro w hO; go_frame) | ((with_reducible refine is_store ?_); refine a_storeA hO ?_; clear hO; intro w hO; go_frame) | ((with_reducible refine is_alloc ?_); refine a_alloc hO ?_; clear hO; intro w b_ hO; go_frame) | ((with_reducible refine is_box ?_); refine a_box hO ?_; clear hO; intro w b_ hO; go_frame) | ((with_reducible refine is_lit ?_); refine a_lit0 hO ?_; clear hO; intro w b_ hl_ hO; go_frame) | ((with_reducible refine is_lit ?_); refine a_lit1 hO ?_; clear hO; intro w b_ hl_ hO; go_frame) | ((with_reducible refine is_lit ?_); refine a_lit2 hO ?_; clear hO; intro w b_ hl_ hO; go_frame) | ((with_reducible refine is_lit ?_); refine a_lit3 hO ?_; clear hO; intro w b_ hl_ hO; go_frame))
  go_loop [9, 2] (fun i n => ∃ (k : Nat) (m : Int), i = .int .i64 (k : Int) ∧ n = .int .u64 m ∧ k ≤ l.length ∧ k ≤ 9 ∧ getF (l.drop k) k m = getF l 0 0) (fun i _ => (l.length - (intOf i).toNat))
  case atStart => exact ⟨0, 0, rfl, rfl, by omega, by omega, rfl⟩
  case round =>
    obtain ⟨k, m, rfl, rfl, hk, hk9, hg⟩ := hrel
    have Hg := Lib.hid hg
    clear hg
    by_cases hlt : k < l.length
    · obtain ⟨b, off, hA, hf⟩ : ∃ b off, A = some ⟨b, off, none⟩ ∧ ∀ j u, (bys l)[j]? = some u → FCell X ⟨b, off + j, none⟩ u := by
        obtain ⟨A', c', hv, _, _, hf⟩ := HR.out
        injection hv with h1 h2 h3
        subst h1
        exact hf (by omega)
      subst hA
      have hcell : w.cell? ⟨b, off + k, none⟩ = some (.int .u8 (l[k].toNat : Int)) := hO.fcell hX (hf k _ (by simp [bys, List.getElem?_eq_getElem hlt]))
      have hc8 : (l[k].toNat : Int) ≤ 255 := by have := l[k].toNat_lt; omega
      generalize hlk : l[k] = c8 at *
      have Hlk := Lib.hid hlk
      clear hlk hf
      have hst : getF (l.drop k) k m = if (k = 9 ∧ 1 < c8.toNat) ∨ (0 < k ∧ c8.toNat = 0) then (0, 0, 6)
          else if c8.toNat < 128 then (bits .or .u64 m (IntKind.u64.wrap (c8.toNat * 2 ^ (7 * k))), (k : Int) + 1, 0)
          else getF (l.drop (k + 1)) (k + 1) (bits .or .u64 m (IntKind.u64.wrap (IntKind.u64.wrap (bits .and .u8 c8.toNat 127) * 2 ^ (7 * k)))) := by
        rw [List.drop_eq_getElem_cons hlt, Hlk.out, getF]
      have Hst := Lib.hid hst
      clear hst
      go_wp2_with fail
      all_goals (try simp only [beq_iff_eq, beq_eq_false_iff_ne, ne_eq] at *)
      · go_ret3
        exact ⟨by rw [← Hg.out, Hst.out, if_pos (by omega)]; first | done | rfl, rfl⟩
      · go_ret3
        exact ⟨by rw [← Hg.out, Hst.out, if_pos (by omega)]; first | done | rfl, rfl⟩
      · go_ret3
        have hk : k = 9 := by omega
        subst hk
        exact ⟨by rw [← Hg.out, Hst.out, if_neg (by omega), if_pos (by omega), wrap9 _ (by omega) (by omega)]; first | done | rfl, rfl⟩
      · go_ret3
        exact ⟨by rw [← Hg.out, Hst.out, if_pos (by omega)]; first | done | rfl, rfl⟩
      · go_ret3
        exact ⟨by rw [← Hg.out, Hst.out, if_neg (by omega), if_pos (by omega)]; first | done | rfl, rfl⟩
      · exact ⟨⟨k + 1, _, by simp, rfl, by omega, by omega, by rw [← Hg.out, Hst.out, if_neg (by omega), if_neg (by omega)]⟩, by simp [intOf]; omega⟩
      · go_ret3
        exact ⟨by rw [← Hg.out, Hst.out, if_neg (by omega), if_pos (by omega)]; first | done | rfl, rfl⟩
      · exact ⟨⟨k + 1, _, by simp, rfl, by omega, by omega, by rw [← Hg.out, Hst.out, if_neg (by omega), if_neg (by omega)]⟩, by simp [intOf]; omega⟩
    · go_wp2_with fail
      go_ret3
      have : k = l.length := by omega
      subst this
      exact ⟨by rw [← Hg.out]; simp [getF], rfl⟩
theorem bys_take_drop (l : List UInt8) (i j : Nat) : bys ((l.drop i).take j) = (bys l |>.drop i).take j := by simp [bys]
theorem bits_u64 (op : BinOp) (a b : Int) : 0 ≤ bits op .u64 a b := by
  unfold bits
  exact wrap_u64_nonneg _
theorem getF_ok : ∀ (l : List UInt8) (i : Nat) (n : Int), (getF l i n).2.2 = 0 → 0 ≤ (getF l i n).1 ∧ (i : Int) + 1 ≤ (getF l i n).2.1 ∧ (getF l i n).2.1 ≤ i + l.length
  | [], i, n, h => by simp [getF] at h
  | c :: cs, i, n, h => by
    unfold getF at h ⊢
    split
    · rename_i hc; rw [if_pos hc] at h; simp at h
    · rename_i hc
      rw [if_neg hc] at h
      split
      · exact ⟨bits_u64 .or n _, by simp, by simp; omega⟩
      · rename_i hc2
        rw [if_neg hc2] at h
        obtain ⟨h1, h2, h3⟩ := getF_ok cs (i + 1) _ h
        refine ⟨h1, by simp at h2; omega, by simp at h3 ⊢; omega⟩
theorem getF_err : ∀ (l : List UInt8) (i : Nat) (n : Int), (getF l i n).2.2 ≠ 0 → (getF l i n).1 = 0 ∧ (getF l i n).2.1 = 0
  | [], i, n, h => by simp [getF]
  | c :: cs, i, n, h => by
    unfold getF at h ⊢
    split
    · simp
    · rename_i hc
      rw [if_neg hc] at h
      split
      · rename_i hc2; rw [if_pos hc2] at h; simp at h
      · rename_i hc2
        rw [if_neg hc2] at h
        exact getF_err cs (i + 1) _ h

/-- What GetBytes answers: the bytes, how many both have, the error. -/
def gbF (l : List UInt8) (most : Int) : List UInt8 × Int × Int :=
  let g := getF l 0 0
  if g.2.2 ≠ 0 then ([], 0, g.2.2)
  else if most < g.1 then ([], 0, 5)
  else if (l.length : Int) - g.2.1 < g.1 then ([], 0, 4)
  else ((l.drop g.2.1.toNat).take g.1.toNat, g.2.1 + g.1, 0)
def GbR (w0 : World) (C : List Chunk) (r : List UInt8 × Int × Int) (e : Ending) (w' : World) : Prop :=
  ∃ A' c' K, e = .returned (.tuple #[.slice A' r.1.length c', .int .i64 r.2.1, .int .i64 r.2.2]) ∧ Sl 5 1 (.slice A' r.1.length c') r.1.length (bys r.1) K ∧ Own w0 w' (K :: C)

theorem getBytes_spec {w0 w : World} {C CX : List Chunk} {X : Chunk} {v : Value} {l : List UInt8} (most : Int) (hO : Own w0 w C) (hX : Pick C X CX) (hr : RdB X v l) (hl : l.length ≤ 1073741824) (h0 : 0 ≤ most) (h1 : most ≤ 1073741824) :
    Calls Try.prog 90 #[v, .int .i64 most] w (GbR w0 C (gbF l most)) := by
  obtain ⟨A, c, rfl, hc, HR⟩ := hr.split
  generalize hg : getF l 0 0 = g
  have hok := getF_ok l 0 0
  have herr := getF_err l 0 0
  rw [hg] at hok herr
  obtain ⟨g1, g2, g3⟩ := g
  simp only [] at hok herr
  have HF : Hid (gbF l most = if g3 ≠ 0 then ([], 0, g3) else if most < g1 then ([], 0, 5) else if (l.length : Int) - g2 < g1 then ([], 0, 4) else ((l.drop g2.toNat).take g1.toNat, g2 + g1, 0)) := by
    show gbF l most = _
    unfold gbF
    rw [hg]
  have Hg := Lib.hid hg
  clear hg
  by_cases e3 : g3 = 0
  · subst e3
    obtain ⟨k1, k2, k3⟩ := hok rfl
    clear hok herr
    by_cases c1 : most < g1
    · have HF : Hid (gbF l most = ([], 0, 5)) := by
        show gbF l most = _
        rw [HF.out, if_neg (by simp), if_pos c1]
      go_enter Try.func90, Try.ntmps90
      go_wp2_with (first | ((with_reducible refine is_load ?_); refine a_load hO ?_; go_frame) | ((with_reducible refine is_load ?_); refine a_loadA hO ?_; go_frame) | ((with_reducible refine is_store ?_); refine a_store hO ?_; clear hO; intro w hO; go_frame) | ((with_reducible refine is_store ?_); refine a_storeA hO ?_; clear hO; intro w hO; go_frame) | ((with_reducible refine is_alloc ?_); refine a_alloc hO ?_; clear hO; intro w b_ hO; go_frame) | ((with_reducible refine is_box ?_); refine a_box hO ?_; clear hO; intro w b_ hO; go_frame) | ((with_reducible refine is_lit ?_); refine a_lit0 hO ?_; clear hO; intro w b_ hl_ hO; go_frame) | ((with_reducible refine is_lit ?_); refine a_lit1 hO ?_; clear hO; intro w b_ hl_ hO; go_frame) | ((with_reducible refine is_lit ?_); refine a_lit2 hO ?_; clear hO; intro w b_ hl_ hO; go_frame) | ((with_reducible refine is_lit ?_); refine a_lit3 hO ?_; clear hO; intro w b_ hl_ hO; go_frame))
      go_at_call 92
      refine (get_spec hO hX hr hl).mono ?_
      rw [Hg.out]
      rintro e w ⟨rfl, rfl⟩
      go_wp2_with (first | ((with_reducible refine is_load ?_); refine a_load hO ?_; go_frame) | ((with_reducible refine is_load ?_); refine a_loadA hO ?_; go_frame) | ((with_reducible refine is_store ?_); refine a_store hO ?_; clear hO; intro w hO; go_frame) | ((with_reducible refine is_store ?_); refine a_storeA hO ?_; clear hO; intro w hO; go_frame) | ((with_reducible refine is_alloc ?_); refine a_alloc hO ?_; clear hO; intro w b_ hO; go_frame) | ((with_reducible refine is_box ?_); refine a_box hO ?_; clear hO; intro w b_ hO; go_frame) | ((with_reducible refine is_lit ?_); refine a_lit0 hO ?_; clear hO; intro w b_ hl_ hO; go_frame) | ((with_reducible refine is_lit ?_); refine a_lit1 hO ?_; clear hO; intro w b_ hl_ hO; go_frame) | ((with_reducible refine is_lit ?_); refine a_lit2 hO ?_; clear hO; intro w b_ hl_ hO; go_frame) | ((with_reducible refine is_lit ?_); refine a_lit3 hO ?_; clear hO; intro w b_ hl_ hO; go_frame))
      go_ret3
      exact ⟨none, 0, [], by rw [HF.out]; rfl, by rw [HF.out]; exact Sl.none_ _ _, hO.none_⟩
    · by_cases c2 : (l.length : Int) - g2 < g1
      · have HF : Hid (gbF l most = ([], 0, 4)) := by
          show gbF l most = _
          rw [HF.out, if_neg (by simp), if_neg c1, if_pos c2]
        go_enter Try.func90, Try.ntmps90
        go_wp2_with (first | ((with_reducible refine is_load ?_); refine a_load hO ?_; go_frame) | ((with_reducible refine is_load ?_); refine a_loadA hO ?_; go_frame) | ((with_reducible refine is_store ?_); refine a_store hO ?_; clear hO; intro w hO; go_frame) | ((with_reducible refine is_store ?_); refine a_storeA hO ?_; clear hO; intro w hO; go_frame) | ((with_reducible refine is_alloc ?_); refine a_alloc hO ?_; clear hO; intro w b_ hO; go_frame) | ((with_reducible refine is_box ?_); refine a_box hO ?_; clear hO; intro w b_ hO; go_frame) | ((with_reducible refine is_lit ?_); refine a_lit0 hO ?_; clear hO; intro w b_ hl_ hO; go_frame) | ((with_reducible refine is_lit ?_); refine a_lit1 hO ?_; clear hO; intro w b_ hl_ hO; go_frame) | ((with_reducible refine is_lit ?_); refine a_lit2 hO ?_; clear hO; intro w b_ hl_ hO; go_frame) | ((with_reducible refine is_lit ?_); refine a_lit3 hO ?_; clear hO; intro w b_ hl_ hO; go_frame))
        go_at_call 92
        refine (get_spec hO hX hr hl).mono ?_
        rw [Hg.out]
        rintro e w ⟨rfl, rfl⟩
        go_wp2_with (first | ((with_reducible refine is_load ?_); refine a_load hO ?_; go_frame) | ((with_reducible refine is_load ?_); refine a_loadA hO ?_; go_frame) | ((with_reducible refine is_store ?_); refine a_store hO ?_; clear hO; intro w hO; go_frame) | ((with_reducible refine is_store ?_); refine a_storeA hO ?_; clear hO; intro w hO; go_frame) | ((with_reducible refine is_alloc ?_); refine a_alloc hO ?_; clear hO; intro w b_ hO; go_frame) | ((with_reducible refine is_box ?_); refine a_box hO ?_; clear hO; intro w b_ hO; go_frame) | ((with_reducible refine is_lit ?_); refine a_lit0 hO ?_; clear hO; intro w b_ hl_ hO; go_frame) | ((with_reducible refine is_lit ?_); refine a_lit1 hO ?_; clear hO; intro w b_ hl_ hO; go_frame) | ((with_reducible refine is_lit ?_); refine a_lit2 hO ?_; clear hO; intro w b_ hl_ hO; go_frame) | ((with_reducible refine is_lit ?_); refine a_lit3 hO ?_; clear hO; intro w b_ hl_ hO; go_frame))
        go_ret3
        exact ⟨none, 0, [], by rw [HF.out]; rfl, by rw [HF.out]; exact Sl.none_ _ _, hO.none_⟩
      · have HF : Hid (gbF l most = ((l.drop g2.toNat).take g1.toNat, g2 + g1, 0)) := by
          show gbF l most = _
          rw [HF.out, if_neg (by simp), if_neg c1, if_neg c2]
        have hlen : ((l.drop g2.toNat).take g1.toNat).length = g1.toNat := by simp; omega
        have HL := Lib.hid hlen
        clear hlen
        go_enter Try.func90, Try.ntmps90
        go_wp2_with (first | ((with_reducible refine is_load ?_); refine a_load hO ?_; go_frame) | ((with_reducible refine is_load ?_); refine a_loadA hO ?_; go_frame) | ((with_reducible refine is_store ?_); refine a_store hO ?_; clear hO; intro w hO; go_frame) | ((with_reducible refine is_store ?_); refine a_storeA hO ?_; clear hO; intro w hO; go_frame) | ((with_reducible refine is_alloc ?_); refine a_alloc hO ?_; clear hO; intro w b_ hO; go_frame) | ((with_reducible refine is_box ?_); refine a_box hO ?_; clear hO; intro w b_ hO; go_frame) | ((with_reducible refine is_lit ?_); refine a_lit0 hO ?_; clear hO; intro w b_ hl_ hO; go_frame) | ((with_reducible refine is_lit ?_); refine a_lit1 hO ?_; clear hO; intro w b_ hl_ hO; go_frame) | ((with_reducible refine is_lit ?_); refine a_lit2 hO ?_; clear hO; intro w b_ hl_ hO; go_frame) | ((with_reducible refine is_lit ?_); refine a_lit3 hO ?_; clear hO; intro w b_ hl_ hO; go_frame))
        go_at_call 92
        refine (get_spec hO hX hr hl).mono ?_
        rw [Hg.out]
        rintro e w ⟨rfl, rfl⟩
        go_wp2_with (first | ((with_reducible refine is_load ?_); refine a_load hO ?_; go_frame) | ((with_reducible refine is_load ?_); refine a_loadA hO ?_; go_frame) | ((with_reducible refine is_store ?_); refine a_store hO ?_; clear hO; intro w hO; go_frame) | ((with_reducible refine is_store ?_); refine a_storeA hO ?_; clear hO; intro w hO; go_frame) | ((with_reducible refine is_alloc ?_); refine a_alloc hO ?_; clear hO; intro w b_ hO; go_frame) | ((with_reducible refine is_box ?_); refine a_box hO ?_; clear hO; intro w b_ hO; go_frame) | ((with_reducible refine is_lit ?_); refine a_lit0 hO ?_; clear hO; intro w b_ hl_ hO; go_frame) | ((with_reducible refine is_lit ?_); refine a_lit1 hO ?_; clear hO; intro w b_ hl_ hO; go_frame) | ((with_reducible refine is_lit ?_); refine a_lit2 hO ?_; clear hO; intro w b_ hl_ hO; go_frame) | ((with_reducible refine is_lit ?_); refine a_lit3 hO ?_; clear hO; intro w b_ hl_ hO; go_frame) | ((with_reducible apply st_sub3); rfl; rfl; infer_instance; infer_instance; (simp only [Act.eval, Array.getD_eq_getD_getElem?, List.getElem?_toArray, List.getElem?_cons_succ, List.getElem?_cons_zero, Option.getD_some]; rfl); exact HR.out; (simp only [Act.eval, Array.getD_eq_getD_getElem?, List.getElem?_toArray, List.getElem?_cons_succ, List.getElem?_cons_zero, Option.getD_some]; rfl); (simp only [Act.eval, Array.getD_eq_getD_getElem?, List.getElem?_toArray, List.getElem?_cons_succ, List.getElem?_cons_zero, Option.getD_some]; rfl); (simp only [Act.eval, Array.getD_eq_getD_getElem?, List.getElem?_toArray, List.getElem?_cons_succ, List.getElem?_cons_zero, Option.getD_some]; rfl); omega; omega; omega; omega; intro A_ c_ hr_; go_frame))
        go_at_call 99
        refine (clone99 hO hX hr_ ?_ ?_).mono ?_
        · intro u hu; exact bys_one l u (List.mem_of_mem_drop (List.mem_of_mem_take hu))
        · omega
        rintro e w ⟨A1, cc, K1, rfl, hs1, hO⟩
        go_wp2_with (first | ((with_reducible refine is_load ?_); refine a_load hO ?_; go_frame) | ((with_reducible refine is_load ?_); refine a_loadA hO ?_; go_frame) | ((with_reducible refine is_store ?_); refine a_store hO ?_; clear hO; intro w hO; go_frame) | ((with_reducible refine is_store ?_); refine a_storeA hO ?_; clear hO; intro w hO; go_frame) | ((with_reducible refine is_alloc ?_); refine a_alloc hO ?_; clear hO; intro w b_ hO; go_frame) | ((with_reducible refine is_box ?_); refine a_box hO ?_; clear hO; intro w b_ hO; go_frame) | ((with_reducible refine is_lit ?_); refine a_lit0 hO ?_; clear hO; intro w b_ hl_ hO; go_frame) | ((with_reducible refine is_lit ?_); refine a_lit1 hO ?_; clear hO; intro w b_ hl_ hO; go_frame) | ((with_reducible refine is_lit ?_); refine a_lit2 hO ?_; clear hO; intro w b_ hl_ hO; go_frame) | ((with_reducible refine is_lit ?_); refine a_lit3 hO ?_; clear hO; intro w b_ hl_ hO; go_frame))
        go_ret3
        have e1 : (g2 + g1).toNat - g2.toNat = g1.toNat := by omega
        rw [e1] at hs1 ⊢
        rw [Nat.mul_one, Nat.mul_one, ← bys_take_drop] at hs1
        refine ⟨A1, cc, K1, ?_, ?_, hO⟩
        · rw [HF.out, HL.out]; rfl
        · rw [HF.out, HL.out]; exact hs1
  · have hg12 := herr e3
    obtain ⟨rfl, rfl⟩ := hg12
    clear hok herr
    have HF : Hid (gbF l most = ([], 0, g3)) := by
      show gbF l most = _
      rw [HF.out, if_pos e3]
    have e3' : (g3 == 0) = false := by simpa using e3
    go_enter Try.func90, Try.ntmps90
    go_wp2_with (first | ((with_reducible refine is_load ?_); refine a_load hO ?_; go_frame) | ((with_reducible refine is_load ?_); refine a_loadA hO ?_; go_frame) | ((with_reducible refine is_store ?_); refine a_store hO ?_; clear hO; intro w hO; go_frame) | ((with_reducible refine is_store ?_); refine a_storeA hO ?_; clear hO; intro w hO; go_frame) | ((with_reducible refine is_alloc ?_); refine a_alloc hO ?_; clear hO; intro w b_ hO; go_frame) | ((with_reducible refine is_box ?_); refine a_box hO ?_; clear hO; intro w b_ hO; go_frame) | ((with_reducible refine is_lit ?_); refine a_lit0 hO ?_; clear hO; intro w b_ hl_ hO; go_frame) | ((with_reducible refine is_lit ?_); refine a_lit1 hO ?_; clear hO; intro w b_ hl_ hO; go_frame) | ((with_reducible refine is_lit ?_); refine a_lit2 hO ?_; clear hO; intro w b_ hl_ hO; go_frame) | ((with_reducible refine is_lit ?_); refine a_lit3 hO ?_; clear hO; intro w b_ hl_ hO; go_frame))
    go_at_call 92
    refine (get_spec hO hX hr hl).mono ?_
    rw [Hg.out]
    rintro e w ⟨rfl, rfl⟩
    go_wp2_with (first | ((with_reducible refine is_load ?_); refine a_load hO ?_; go_frame) | ((with_reducible refine is_load ?_); refine a_loadA hO ?_; go_frame) | ((with_reducible refine is_store ?_); refine a_store hO ?_; clear hO; intro w hO; go_frame) | ((with_reducible refine is_store ?_); refine a_storeA hO ?_; clear hO; intro w hO; go_frame) | ((with_reducible refine is_alloc ?_); refine a_alloc hO ?_; clear hO; intro w b_ hO; go_frame) | ((with_reducible refine is_box ?_); refine a_box hO ?_; clear hO; intro w b_ hO; go_frame) | ((with_reducible refine is_lit ?_); refine a_lit0 hO ?_; clear hO; intro w b_ hl_ hO; go_frame) | ((with_reducible refine is_lit ?_); refine a_lit1 hO ?_; clear hO; intro w b_ hl_ hO; go_frame) | ((with_reducible refine is_lit ?_); refine a_lit2 hO ?_; clear hO; intro w b_ hl_ hO; go_frame) | ((with_reducible refine is_lit ?_); refine a_lit3 hO ?_; clear hO; intro w b_ hl_ hO; go_frame))
    go_ret3
    exact ⟨none, 0, [], by rw [HF.out]; rfl, by rw [HF.out]; exact Sl.none_ _ _, hO.none_⟩
end Go.Proofs.Yteghmoijhcdpeaa
