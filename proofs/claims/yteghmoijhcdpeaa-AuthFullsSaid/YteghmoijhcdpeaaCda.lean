import Derived.Test.YteghmoijhcdpeaaRdr
import Derived.Maps.RangeWalk
import Derived.Deep.RegionWith
set_option linter.unusedSimpArgs false
set_option linter.unusedVariables false
set_option maxRecDepth 100000
namespace Go.Proofs.Yteghmoijhcdpeaa
open Go.RowKit

/-- A codec that writes: what is out so far, whether something was not allowed. -/
def WSt (w0 : World) (x : Nat) (cv : Value) (C : List Chunk) (l : List UInt8) (bad : Bool) (w : World) : Prop :=
  ∃ A cc K, Rd K 1 (.slice A l.length cc) l.length (bys l) ∧ Own w0 w ([(x, .cells #[cv, .pointer none, .slice A l.length cc, .bool bad] 96 (0, 0))] :: K :: C)
def Did (R : World → Prop) (e : Ending) (w' : World) : Prop := e = .returned (.tuple #[]) ∧ R w'

theorem numberW {w0 w : World} {C CY : List Chunk} {Y : Chunk} {x : Nat} {cv : Value} {l : List UInt8} {bad : Bool} {p : Addr} (k : Nat) (hs : WSt w0 x cv C l bad w) (hY : Pick C Y CY) (hp : FCell Y p (.int .u64 k)) (hk : k < 18446744073709551616) (hl : l.length ≤ 1000000) :
    Calls Try.prog 62 #[.pointer (some ⟨x, 0, none⟩), .pointer (some p)] w (Did (WSt w0 x cv C (l ++ putF 10 k) bad)) := by
  obtain ⟨A, cc, K, hr, hO⟩ := hs
  have hcp : w.cell? p = some (.int .u64 k) := hO.fcell (.there (.there hY)) hp
  have Hk := Lib.hid hk
  have Hp := Lib.hid hp
  clear hk hp
  go_enter Try.func62, Try.ntmps62
  go_wp2_with (first | ((with_reducible refine is_load ?_); refine a_load hO ?_; go_frame) | ((with_reducible refine is_load ?_); refine a_loadA hO ?_; go_frame) | ((with_reducible refine is_store ?_); refine a_store hO ?_; clear hO; intro w hO; go_frame) | ((with_reducible refine is_store ?_); refine a_storeA hO ?_; clear hO; intro w hO; go_frame) | ((with_reducible refine is_alloc ?_); refine a_alloc hO ?_; clear hO; intro w b_ hO; go_frame) | ((with_reducible refine is_box ?_); refine a_box hO ?_; clear hO; intro w b_ hO; go_frame) | ((with_reducible refine is_lit ?_); refine a_lit0 hO ?_; clear hO; intro w b_ hl_ hO; go_frame) | ((with_reducible refine is_lit ?_); refine a_lit1 hO ?_; clear hO; intro w b_ hl_ hO; go_frame) | ((with_reducible refine is_lit ?_); refine a_lit2 hO ?_; clear hO; intro w b_ hl_ hO; go_frame) | ((with_reducible refine is_lit ?_); refine a_lit3 hO ?_; clear hO; intro w b_ hl_ hO; go_frame))
  have f1 := hO.cells .here
  go_region_with (go_at_call 74; refine (put_spec (X := K) (l := l) k (hO.drew) (.there .here) hr (by omega) Hk.out).mono ?_; rintro e w ⟨A1, n1, c1, K1, rfl, hn1, hs1, hO⟩; have f1 := hO.cells (.there .here); have g1 := hO.free (.there .here); have Hn1 := Lib.hid hn1; clear hn1)
  all_goals
    have hO := hO.setCell (off := 2) (v := .slice A1 n1 c1) (.there .here)
    clear f1 g1
    obtain ⟨w2, hw2⟩ : ∃ w2, w2 = w.setCell ⟨x, 2, none⟩ (.slice A1 n1 c1) := ⟨_, rfl⟩
    rw [← hw2] at hO ⊢
    clear hw2
    (try simp only [List.setIfInBounds_toArray, List.set_cons_succ, List.set_cons_zero, Value.cells] at hO)
    go_wp2_with (first | ((with_reducible refine is_load ?_); refine a_load hO ?_; go_frame) | ((with_reducible refine is_load ?_); refine a_loadA hO ?_; go_frame) | ((with_reducible refine is_store ?_); refine a_store hO ?_; clear hO; intro w hO; go_frame) | ((with_reducible refine is_store ?_); refine a_storeA hO ?_; clear hO; intro w hO; go_frame) | ((with_reducible refine is_alloc ?_); refine a_alloc hO ?_; clear hO; intro w b_ hO; go_frame) | ((with_reducible refine is_box ?_); refine a_box hO ?_; clear hO; intro w b_ hO; go_frame) | ((with_reducible refine is_lit ?_); refine a_lit0 hO ?_; clear hO; intro w b_ hl_ hO; go_frame) | ((with_reducible refine is_lit ?_); refine a_lit1 hO ?_; clear hO; intro w b_ hl_ hO; go_frame) | ((with_reducible refine is_lit ?_); refine a_lit2 hO ?_; clear hO; intro w b_ hl_ hO; go_frame) | ((with_reducible refine is_lit ?_); refine a_lit3 hO ?_; clear hO; intro w b_ hl_ hO; go_frame))
    refine bodyPost_ret (results_none rfl _ _ _) rfl ?_
    have hn := Hn1.out
    subst hn
    exact ⟨rfl, A1, c1, K1, hs1.rd, (hO.dropAt (.there (.there .here))).swap⟩
end Go.Proofs.Yteghmoijhcdpeaa
