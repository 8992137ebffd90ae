import Derived.Test.YteghmoijhcdpeaaCdd
set_option linter.unusedSimpArgs false
set_option linter.unusedVariables false
set_option maxRecDepth 100000
namespace Go.Proofs.Yteghmoijhcdpeaa
open Go.RowKit

theorem rdB_nil (X : Chunk) : RdB X (.slice none 0 0) [] := Rd.none_ X 1
theorem rdS_nil (X : Chunk) : RdS X (.slice none 0 0) [] := Rd.none_ X 1

set_option maxHeartbeats 2000000 in
theorem valueR {w0 w : World} {C : List Chunk} {x r c : Nat} {v0 v1 v2 v4 v5 v6 v7 v8 v9 : Value} {l : List UInt8} {bad : Bool}
    (hs : RSt w0 x r (.pointer (some ⟨c, 0, none⟩)) ([(c, .cells #[v0, v1, v2, .slice none 0 0, v4, v5, v6, v7, v8, v9] 29 (0, 0))] :: C) l bad w) (hl : l.length ≤ 1000000) :
    Calls Try.prog 58 #[.pointer (some ⟨x, 0, none⟩)] w (Did fun w' => ∃ A n cc V, RdB V (.slice A n cc) (bytF l 65536).1 ∧
      RSt w0 x r (.pointer (some ⟨c, 0, none⟩)) ([(c, .cells #[v0, v1, v2, .slice A n cc, v4, v5, v6, v7, v8, v9] 29 (0, 0))] :: V :: C) (bytF l 65536).2.2 ((bad || (bytF l 65536).2.1 != 0) || !valOk ⟨(bytF l 65536).1.toArray⟩) w') := by
  obtain ⟨X, rest, hr, hO⟩ := hs
  unfold Rdr at hO
  generalize hq : bytF l 65536 = q
  obtain ⟨q1, q2, q3⟩ := q
  have Hq := Lib.hid hq
  clear hq
  go_enter Try.func58, Try.ntmps58
  go_wp2_with (first | ((with_reducible refine is_load ?_); refine a_load hO ?_; go_frame) | ((with_reducible refine is_load ?_); refine a_loadA hO ?_; go_frame) | ((with_reducible refine is_store ?_); refine a_store hO ?_; clear hO; intro w hO; go_frame) | ((with_reducible refine is_store ?_); refine a_storeA hO ?_; clear hO; intro w hO; go_frame) | ((with_reducible refine is_alloc ?_); refine a_alloc hO ?_; clear hO; intro w b_ hO; go_frame) | ((with_reducible refine is_box ?_); refine a_box hO ?_; clear hO; intro w b_ hO; go_frame) | ((with_reducible refine is_lit ?_); refine a_lit0 hO ?_; clear hO; intro w b_ hl_ hO; go_frame) | ((with_reducible refine is_lit ?_); refine a_lit1 hO ?_; clear hO; intro w b_ hl_ hO; go_frame) | ((with_reducible refine is_lit ?_); refine a_lit2 hO ?_; clear hO; intro w b_ hl_ hO; go_frame) | ((with_reducible refine is_lit ?_); refine a_lit3 hO ?_; clear hO; intro w b_ hl_ hO; go_frame) | ((with_reducible apply st_bytesToStr hO); rfl; rfl; infer_instance; infer_instance; infer_instance; (simp only [Act.eval, Array.getD_eq_getD_getElem?, List.getElem?_toArray, List.getElem?_cons_succ, List.getElem?_cons_zero, Option.getD_some]; rfl); exact (rdB_nil X); (focus (repeat (first | exact Pick.here | assumption | apply Pick.there))); go_frame))
  go_at_call 56
  refine (partR asks73 (w0 := w0) (r := r) (b := b_) (off := 0) (T := 9) (cs := #[.string ⟨([] : List UInt8).toArray⟩]) (l := l) (bad := bad) (C := [(c, .cells #[v0, v1, v2, .slice none 0 0, v4, v5, v6, v7, v8, v9] 29 (0, 0))] :: C) ⟨X, rest, hr, hO.pick3 (.there .here) (.there .here) (.there .here)⟩ (by decide) hl).mono ?_
  rw [Hq.out]
  rintro e w ⟨rfl, X2, rest2, hr2, hO⟩
  simp only [] at hr2
  unfold Rdr at hO
  (try simp only [List.setIfInBounds_toArray, List.set_cons_succ, List.set_cons_zero, Value.cells] at hO)
  by_cases h0 : 0 < q1.length
  · have hsz : (⟨q1.toArray⟩ : ByteArray).size = q1.length := by simp [ByteArray.size]
    have Hsz := Lib.hid hsz
    generalize hsv : (⟨q1.toArray⟩ : ByteArray) = sv at *
    have Hsv := Lib.hid hsv
    clear hsv hsz
    have hpos : 0 < sv.size := by rw [Hsz.out]; exact h0
    go_wp2_with (first | ((with_reducible refine is_load ?_); refine a_load hO ?_; go_frame) | ((with_reducible refine is_load ?_); refine a_loadA hO ?_; go_frame) | ((with_reducible refine is_store ?_); refine a_store hO ?_; clear hO; intro w hO; go_frame) | ((with_reducible refine is_store ?_); refine a_storeA hO ?_; clear hO; intro w hO; go_frame) | ((with_reducible refine is_alloc ?_); refine a_alloc hO ?_; clear hO; intro w b_ hO; go_frame) | ((with_reducible refine is_box ?_); refine a_box hO ?_; clear hO; intro w b_ hO; go_frame) | ((with_reducible refine is_lit ?_); refine a_lit0 hO ?_; clear hO; intro w b_ hl_ hO; go_frame) | ((with_reducible refine is_lit ?_); refine a_lit1 hO ?_; clear hO; intro w b_ hl_ hO; go_frame) | ((with_reducible refine is_lit ?_); refine a_lit2 hO ?_; clear hO; intro w b_ hl_ hO; go_frame) | ((with_reducible refine is_lit ?_); refine a_lit3 hO ?_; clear hO; intro w b_ hl_ hO; go_frame))
    have f1 := hO.cells .here
    have f2 := hO.cells (.there (.there (.there .here)))
    have f3 := hO.cells (.there (.there (.there (.there .here))))
    have g3 := hO.free (.there (.there (.there (.there .here))))
    have l1 := hO.lt1 .here
    have l2 := hO.lt1 (.there (.there (.there .here)))
    have l3 := hO.lt1 (.there (.there (.there (.there .here))))
    have hcv := fun (w : World) => run_bytes_of_string (P := Try.prog) w 9 27 5 sv Try.underlying9 Try.underlying27 Try.underlying5
    go_region
    have hO := (((hO.setCell (off := 3) (v := .slice (some ⟨w.heap.size, 0, none⟩) sv.size (grownCap w.drew sv.size 0 5)) (.there (.there (.there (.there .here))))).alloc
      (.cells (bytesRow sv (grownCap w.drew sv.size 0 5)) 5 ((bytesRow sv (grownCap w.drew sv.size 0 5)).size, (bytesRow sv (grownCap w.drew sv.size 0 5)).size + 1))).drew.drew)
    have hrd := rdB_bytes (w.heap.size) 5 sv (grownCap w.drew sv.size 0 5) ((bytesRow sv (grownCap w.drew sv.size 0 5)).size, (bytesRow sv (grownCap w.drew sv.size 0 5)).size + 1) (grownCap_ge _ _ _ _)
    simp only [World.size_setCell] at hO
    (try simp only [List.setIfInBounds_toArray, List.set_cons_succ, List.set_cons_zero, Value.cells] at hO)
    clear f1 f2 f3 g3 l1 l2 l3 hcv
    generalize hG : ((w.setCell ⟨c, 3, none⟩ (.slice (some ⟨w.heap.size, 0, none⟩) sv.size (grownCap w.drew sv.size 0 5))).alloc
      (.cells (bytesRow sv (grownCap w.drew sv.size 0 5)) 5 ((bytesRow sv (grownCap w.drew sv.size 0 5)).size, (bytesRow sv (grownCap w.drew sv.size 0 5)).size + 1))).drew.drew = w2 at hO ⊢
    clear hG
    generalize (bytesRow sv (grownCap w.drew sv.size 0 5)) = row at *
    generalize (grownCap w.drew sv.size 0 5) = cap at *
    generalize w.heap.size = nb at *
    have hO := (hO.dropAt (.there (.there (.there (.there .here)))))
    go_wp2_with (first | ((with_reducible refine is_load ?_); refine a_load hO ?_; go_frame) | ((with_reducible refine is_load ?_); refine a_loadA hO ?_; go_frame) | ((with_reducible refine is_store ?_); refine a_store hO ?_; clear hO; intro w hO; go_frame) | ((with_reducible refine is_store ?_); refine a_storeA hO ?_; clear hO; intro w hO; go_frame) | ((with_reducible refine is_alloc ?_); refine a_alloc hO ?_; clear hO; intro w b_ hO; go_frame) | ((with_reducible refine is_box ?_); refine a_box hO ?_; clear hO; intro w b_ hO; go_frame) | ((with_reducible refine is_lit ?_); refine a_lit0 hO ?_; clear hO; intro w b_ hl_ hO; go_frame) | ((with_reducible refine is_lit ?_); refine a_lit1 hO ?_; clear hO; intro w b_ hl_ hO; go_frame) | ((with_reducible refine is_lit ?_); refine a_lit2 hO ?_; clear hO; intro w b_ hl_ hO; go_frame) | ((with_reducible refine is_lit ?_); refine a_lit3 hO ?_; clear hO; intro w b_ hl_ hO; go_frame))
    go_end0
    have hd : sv.data.toList = q1 := by rw [← Hsv.out]
    rw [hd] at hrd
    exact ⟨rfl, _, _, _, _, hrd, X2, rest2, hr2, by simpa [Rdr, Hsv.out] using (hO.pick (.there (.there (.there (.there .here))))).pick3 (.there (.there .here)) (.there (.there .here)) (.there (.there .here))⟩
  · have h00 : q1 = [] := List.eq_nil_of_length_eq_zero (by omega)
    subst h00
    go_wp2_with (first | ((with_reducible refine is_load ?_); refine a_load hO ?_; go_frame) | ((with_reducible refine is_load ?_); refine a_loadA hO ?_; go_frame) | ((with_reducible refine is_store ?_); refine a_store hO ?_; clear hO; intro w hO; go_frame) | ((with_reducible refine is_store ?_); refine a_storeA hO ?_; clear hO; intro w hO; go_frame) | ((with_reducible refine is_alloc ?_); refine a_alloc hO ?_; clear hO; intro w b_ hO; go_frame) | ((with_reducible refine is_box ?_); refine a_box hO ?_; clear hO; intro w b_ hO; go_frame) | ((with_reducible refine is_lit ?_); refine a_lit0 hO ?_; clear hO; intro w b_ hl_ hO; go_frame) | ((with_reducible refine is_lit ?_); refine a_lit1 hO ?_; clear hO; intro w b_ hl_ hO; go_frame) | ((with_reducible refine is_lit ?_); refine a_lit2 hO ?_; clear hO; intro w b_ hl_ hO; go_frame) | ((with_reducible refine is_lit ?_); refine a_lit3 hO ?_; clear hO; intro w b_ hl_ hO; go_frame))
    go_end0
    exact ⟨rfl, none, 0, 0, [], rdB_nil _, X2, rest2, hr2, (hO.dropAt (.there (.there (.there .here)))).perm (by simp [Rdr])⟩
end Go.Proofs.Yteghmoijhcdpeaa
