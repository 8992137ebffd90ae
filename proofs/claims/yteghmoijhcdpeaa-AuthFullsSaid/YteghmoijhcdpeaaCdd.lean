import Derived.Test.YteghmoijhcdpeaaCdc
set_option linter.unusedSimpArgs false
set_option linter.unusedVariables false
set_option maxRecDepth 100000
namespace Go.Proofs.Yteghmoijhcdpeaa
open Go.RowKit

/-- A codec that reads: what is left, whether something was not allowed. -/
def RSt (w0 : World) (x r : Nat) (cv : Value) (C : List Chunk) (l : List UInt8) (bad : Bool) (w : World) : Prop :=
  ∃ X rest, RdB X rest l ∧ Own w0 w ([(x, .cells #[cv, .pointer (some ⟨r, 0, none⟩), .slice none 0 0, .bool bad] 96 (0, 0))] :: Rdr r rest :: X :: C)
theorem numF_len (l : List UInt8) : (numF l).2.2.length ≤ l.length := by
  unfold numF
  simp only []
  split
  · simp
  · simp
theorem gbF_len (l : List UInt8) (m : Int) : (gbF l m).1.length ≤ l.length := by
  unfold gbF
  simp only []
  split
  · simp
  · split
    · simp
    · split
      · simp
      · simp; omega
theorem bytF_len (l : List UInt8) (m : Int) : (bytF l m).2.2.length ≤ l.length ∧ (bytF l m).1.length ≤ l.length := by
  have h := gbF_len l m
  unfold bytF
  generalize gbF l m = g at *
  simp only []
  split
  · simp
  · exact ⟨by simp, h⟩

set_option maxHeartbeats 1000000 in
theorem numberR {w0 w : World} {C : List Chunk} {x r b off T : Nat} {cv : Value} {cs : Array Value} {l : List UInt8} {bad : Bool} (hs : RSt w0 x r cv ([(b, .cells cs T (0, 0))] :: C) l bad w) (hoff : off < cs.size) (hl : l.length ≤ 1000000) :
    Calls Try.prog 62 #[.pointer (some ⟨x, 0, none⟩), .pointer (some ⟨b, off, none⟩)] w (Did (RSt w0 x r cv ([(b, .cells (cs.setIfInBounds off (.int .u64 (numF l).1)) T (0, 0))] :: C) (numF l).2.2 (bad || (numF l).2.1 != 0))) := by
  obtain ⟨X, rest, hr, hO⟩ := hs
  have hO2 : Own w0 w (Rdr r rest :: X :: [(x, .cells #[cv, .pointer (some ⟨r, 0, none⟩), .slice none 0 0, .bool bad] 96 (0, 0))] :: [(b, .cells cs T (0, 0))] :: C) := hO.pick2 (.there .here) (.there .here)
  have HO2 := Lib.hid hO2
  clear hO2
  generalize hq : numF l = q
  obtain ⟨q1, q2, q3⟩ := q
  have Hq := Lib.hid hq
  clear hq
  go_enter Try.func62, Try.ntmps62
  go_wp2_with (first | ((with_reducible refine is_load ?_); refine a_load hO ?_; go_frame) | ((with_reducible refine is_load ?_); refine a_loadA hO ?_; go_frame) | ((with_reducible refine is_store ?_); refine a_store hO ?_; clear hO; intro w hO; go_frame) | ((with_reducible refine is_store ?_); refine a_storeA hO ?_; clear hO; intro w hO; go_frame) | ((with_reducible refine is_alloc ?_); refine a_alloc hO ?_; clear hO; intro w b_ hO; go_frame) | ((with_reducible refine is_box ?_); refine a_box hO ?_; clear hO; intro w b_ hO; go_frame) | ((with_reducible refine is_lit ?_); refine a_lit0 hO ?_; clear hO; intro w b_ hl_ hO; go_frame) | ((with_reducible refine is_lit ?_); refine a_lit1 hO ?_; clear hO; intro w b_ hl_ hO; go_frame) | ((with_reducible refine is_lit ?_); refine a_lit2 hO ?_; clear hO; intro w b_ hl_ hO; go_frame) | ((with_reducible refine is_lit ?_); refine a_lit3 hO ?_; clear hO; intro w b_ hl_ hO; go_frame))
  go_at_call 75
  refine (number_spec HO2.out hr (by omega)).mono ?_
  rw [Hq.out]
  rintro e w ⟨rest', rfl, hr', hO⟩
  cases bad
  · go_wp2_with (first | ((with_reducible refine is_load ?_); refine a_load hO ?_; go_frame) | ((with_reducible refine is_load ?_); refine a_loadA hO ?_; go_frame) | ((with_reducible refine is_store ?_); refine a_store hO ?_; clear hO; intro w hO; go_frame) | ((with_reducible refine is_store ?_); refine a_storeA hO ?_; clear hO; intro w hO; go_frame) | ((with_reducible refine is_alloc ?_); refine a_alloc hO ?_; clear hO; intro w b_ hO; go_frame) | ((with_reducible refine is_box ?_); refine a_box hO ?_; clear hO; intro w b_ hO; go_frame) | ((with_reducible refine is_lit ?_); refine a_lit0 hO ?_; clear hO; intro w b_ hl_ hO; go_frame) | ((with_reducible refine is_lit ?_); refine a_lit1 hO ?_; clear hO; intro w b_ hl_ hO; go_frame) | ((with_reducible refine is_lit ?_); refine a_lit2 hO ?_; clear hO; intro w b_ hl_ hO; go_frame) | ((with_reducible refine is_lit ?_); refine a_lit3 hO ?_; clear hO; intro w b_ hl_ hO; go_frame))
    go_end0
    exact ⟨rfl, X, rest', hr', by simpa using hO.pick3 (.there (.there .here)) .here .here⟩
  · go_wp2_with (first | ((with_reducible refine is_load ?_); refine a_load hO ?_; go_frame) | ((with_reducible refine is_load ?_); refine a_loadA hO ?_; go_frame) | ((with_reducible refine is_store ?_); refine a_store hO ?_; clear hO; intro w hO; go_frame) | ((with_reducible refine is_store ?_); refine a_storeA hO ?_; clear hO; intro w hO; go_frame) | ((with_reducible refine is_alloc ?_); refine a_alloc hO ?_; clear hO; intro w b_ hO; go_frame) | ((with_reducible refine is_box ?_); refine a_box hO ?_; clear hO; intro w b_ hO; go_frame) | ((with_reducible refine is_lit ?_); refine a_lit0 hO ?_; clear hO; intro w b_ hl_ hO; go_frame) | ((with_reducible refine is_lit ?_); refine a_lit1 hO ?_; clear hO; intro w b_ hl_ hO; go_frame) | ((with_reducible refine is_lit ?_); refine a_lit2 hO ?_; clear hO; intro w b_ hl_ hO; go_frame) | ((with_reducible refine is_lit ?_); refine a_lit3 hO ?_; clear hO; intro w b_ hl_ hO; go_frame))
    go_end0
    exact ⟨rfl, X, rest', hr', by simpa using hO.pick3 (.there (.there .here)) .here .here⟩

set_option maxHeartbeats 1000000 in
theorem partR {w0 w : World} {C : List Chunk} {x r g b off T : Nat} {A : ByteArray → Bool} {cv : Value} {cs : Array Value} {l : List UInt8} {bad : Bool} (hg : Asks g A) (hs : RSt w0 x r cv ([(b, .cells cs T (0, 0))] :: C) l bad w) (hoff : off < cs.size) (hl : l.length ≤ 1000000) :
    Calls Try.prog 56 #[.pointer (some ⟨x, 0, none⟩), .pointer (some ⟨b, off, none⟩), .func (.func g) #[] #[]] w
      (Did (RSt w0 x r cv ([(b, .cells (cs.setIfInBounds off (.string ⟨(bytF l 65536).1.toArray⟩)) T (0, 0))] :: C) (bytF l 65536).2.2 ((bad || (bytF l 65536).2.1 != 0) || !A ⟨(bytF l 65536).1.toArray⟩))) := by
  obtain ⟨X, rest, hr, hO⟩ := hs
  have hO2 : Own w0 w (Rdr r rest :: X :: [(x, .cells #[cv, .pointer (some ⟨r, 0, none⟩), .slice none 0 0, .bool bad] 96 (0, 0))] :: [(b, .cells cs T (0, 0))] :: C) := hO.pick2 (.there .here) (.there .here)
  have HO2 := Lib.hid hO2
  have he := hg.enter
  have hd := Lib.hid hg.does
  clear hO2
  generalize hq : bytF l 65536 = q
  obtain ⟨q1, q2, q3⟩ := q
  have Hq := Lib.hid hq
  clear hq
  go_enter Try.func56, Try.ntmps56
  go_wp2_with (first | ((with_reducible refine is_load ?_); refine a_load hO ?_; go_frame) | ((with_reducible refine is_load ?_); refine a_loadA hO ?_; go_frame) | ((with_reducible refine is_store ?_); refine a_store hO ?_; clear hO; intro w hO; go_frame) | ((with_reducible refine is_store ?_); refine a_storeA hO ?_; clear hO; intro w hO; go_frame) | ((with_reducible refine is_alloc ?_); refine a_alloc hO ?_; clear hO; intro w b_ hO; go_frame) | ((with_reducible refine is_box ?_); refine a_box hO ?_; clear hO; intro w b_ hO; go_frame) | ((with_reducible refine is_lit ?_); refine a_lit0 hO ?_; clear hO; intro w b_ hl_ hO; go_frame) | ((with_reducible refine is_lit ?_); refine a_lit1 hO ?_; clear hO; intro w b_ hl_ hO; go_frame) | ((with_reducible refine is_lit ?_); refine a_lit2 hO ?_; clear hO; intro w b_ hl_ hO; go_frame) | ((with_reducible refine is_lit ?_); refine a_lit3 hO ?_; clear hO; intro w b_ hl_ hO; go_frame))
  go_at_call 72
  refine (bytes_spec 65536 HO2.out hr (by omega) (by omega) (by omega)).mono ?_
  rw [Hq.out]
  rintro e w ⟨A1, c1, K1, rest', rfl, hs1, hr', hO⟩
  have hb1 : RdB K1 (.slice A1 q1.length c1) q1 := hs1.rd
  have hcell : (cs.setIfInBounds off (.string ⟨q1.toArray⟩))[off]? = some (.string ⟨q1.toArray⟩) := by simp [hoff]
  cases bad
  · cases h2 : (q2 != 0)
    · go_wp2_with (first | ((with_reducible refine is_load ?_); refine a_load hO ?_; go_frame) | ((with_reducible refine is_load ?_); refine a_loadA hO ?_; go_frame) | ((with_reducible refine is_store ?_); refine a_store hO ?_; clear hO; intro w hO; go_frame) | ((with_reducible refine is_store ?_); refine a_storeA hO ?_; clear hO; intro w hO; go_frame) | ((with_reducible refine is_alloc ?_); refine a_alloc hO ?_; clear hO; intro w b_ hO; go_frame) | ((with_reducible refine is_box ?_); refine a_box hO ?_; clear hO; intro w b_ hO; go_frame) | ((with_reducible refine is_lit ?_); refine a_lit0 hO ?_; clear hO; intro w b_ hl_ hO; go_frame) | ((with_reducible refine is_lit ?_); refine a_lit1 hO ?_; clear hO; intro w b_ hl_ hO; go_frame) | ((with_reducible refine is_lit ?_); refine a_lit2 hO ?_; clear hO; intro w b_ hl_ hO; go_frame) | ((with_reducible refine is_lit ?_); refine a_lit3 hO ?_; clear hO; intro w b_ hl_ hO; go_frame) | ((with_reducible apply st_bytesToStr hO); rfl; rfl; infer_instance; infer_instance; infer_instance; (simp only [Act.eval, Array.getD_eq_getD_getElem?, List.getElem?_toArray, List.getElem?_cons_succ, List.getElem?_cons_zero, Option.getD_some]; rfl); exact hb1; (focus (repeat (first | exact Pick.here | assumption | apply Pick.there))); go_frame))
      refine (hd.out _ _).mono ?_
      rintro e w ⟨rfl, rfl⟩
      go_wp2_with (first | ((with_reducible refine is_load ?_); refine a_load hO ?_; go_frame) | ((with_reducible refine is_load ?_); refine a_loadA hO ?_; go_frame) | ((with_reducible refine is_store ?_); refine a_store hO ?_; clear hO; intro w hO; go_frame) | ((with_reducible refine is_store ?_); refine a_storeA hO ?_; clear hO; intro w hO; go_frame) | ((with_reducible refine is_alloc ?_); refine a_alloc hO ?_; clear hO; intro w b_ hO; go_frame) | ((with_reducible refine is_box ?_); refine a_box hO ?_; clear hO; intro w b_ hO; go_frame) | ((with_reducible refine is_lit ?_); refine a_lit0 hO ?_; clear hO; intro w b_ hl_ hO; go_frame) | ((with_reducible refine is_lit ?_); refine a_lit1 hO ?_; clear hO; intro w b_ hl_ hO; go_frame) | ((with_reducible refine is_lit ?_); refine a_lit2 hO ?_; clear hO; intro w b_ hl_ hO; go_frame) | ((with_reducible refine is_lit ?_); refine a_lit3 hO ?_; clear hO; intro w b_ hl_ hO; go_frame))
      go_end0
      exact ⟨rfl, X, rest', hr', by simpa [h2] using hO.drop.pick3 (.there (.there .here)) .here .here⟩
    · go_wp2_with (first | ((with_reducible refine is_load ?_); refine a_load hO ?_; go_frame) | ((with_reducible refine is_load ?_); refine a_loadA hO ?_; go_frame) | ((with_reducible refine is_store ?_); refine a_store hO ?_; clear hO; intro w hO; go_frame) | ((with_reducible refine is_store ?_); refine a_storeA hO ?_; clear hO; intro w hO; go_frame) | ((with_reducible refine is_alloc ?_); refine a_alloc hO ?_; clear hO; intro w b_ hO; go_frame) | ((with_reducible refine is_box ?_); refine a_box hO ?_; clear hO; intro w b_ hO; go_frame) | ((with_reducible refine is_lit ?_); refine a_lit0 hO ?_; clear hO; intro w b_ hl_ hO; go_frame) | ((with_reducible refine is_lit ?_); refine a_lit1 hO ?_; clear hO; intro w b_ hl_ hO; go_frame) | ((with_reducible refine is_lit ?_); refine a_lit2 hO ?_; clear hO; intro w b_ hl_ hO; go_frame) | ((with_reducible refine is_lit ?_); refine a_lit3 hO ?_; clear hO; intro w b_ hl_ hO; go_frame) | ((with_reducible apply st_bytesToStr hO); rfl; rfl; infer_instance; infer_instance; infer_instance; (simp only [Act.eval, Array.getD_eq_getD_getElem?, List.getElem?_toArray, List.getElem?_cons_succ, List.getElem?_cons_zero, Option.getD_some]; rfl); exact hb1; (focus (repeat (first | exact Pick.here | assumption | apply Pick.there))); go_frame))
      go_end0
      exact ⟨rfl, X, rest', hr', by simpa [h2] using hO.drop.pick3 (.there (.there .here)) .here .here⟩
  · go_wp2_with (first | ((with_reducible refine is_load ?_); refine a_load hO ?_; go_frame) | ((with_reducible refine is_load ?_); refine a_loadA hO ?_; go_frame) | ((with_reducible refine is_store ?_); refine a_store hO ?_; clear hO; intro w hO; go_frame) | ((with_reducible refine is_store ?_); refine a_storeA hO ?_; clear hO; intro w hO; go_frame) | ((with_reducible refine is_alloc ?_); refine a_alloc hO ?_; clear hO; intro w b_ hO; go_frame) | ((with_reducible refine is_box ?_); refine a_box hO ?_; clear hO; intro w b_ hO; go_frame) | ((with_reducible refine is_lit ?_); refine a_lit0 hO ?_; clear hO; intro w b_ hl_ hO; go_frame) | ((with_reducible refine is_lit ?_); refine a_lit1 hO ?_; clear hO; intro w b_ hl_ hO; go_frame) | ((with_reducible refine is_lit ?_); refine a_lit2 hO ?_; clear hO; intro w b_ hl_ hO; go_frame) | ((with_reducible refine is_lit ?_); refine a_lit3 hO ?_; clear hO; intro w b_ hl_ hO; go_frame) | ((with_reducible apply st_bytesToStr hO); rfl; rfl; infer_instance; infer_instance; infer_instance; (simp only [Act.eval, Array.getD_eq_getD_getElem?, List.getElem?_toArray, List.getElem?_cons_succ, List.getElem?_cons_zero, Option.getD_some]; rfl); exact hb1; (focus (repeat (first | exact Pick.here | assumption | apply Pick.there))); go_frame))
    go_end0
    exact ⟨rfl, X, rest', hr', by simpa using hO.drop.pick3 (.there (.there .here)) .here .here⟩

theorem RSt.keep {w0 w : World} {x r : Nat} {cv : Value} {C C' : List Chunk} {l : List UInt8} {bad : Bool} (h : RSt w0 x r cv C l bad w) (p : C.flatten.Perm C'.flatten) : RSt w0 x r cv C' l bad w := by
  obtain ⟨X, rest, hr, hO⟩ := h
  exact ⟨X, rest, hr, hO.perm (by simp only [List.flatten_cons]; exact ((p.append_left _).append_left _).append_left _)⟩
theorem RSt.drop {w0 w : World} {x r : Nat} {cv : Value} {C : List Chunk} {Y : Chunk} {l : List UInt8} {bad : Bool} (h : RSt w0 x r cv (Y :: C) l bad w) : RSt w0 x r cv C l bad w := by
  obtain ⟨X, rest, hr, hO⟩ := h
  exact ⟨X, rest, hr, hO.dropAt (.there (.there (.there .here)))⟩

set_option maxHeartbeats 1000000 in
theorem lifeR {w0 w : World} {C : List Chunk} {x r c : Nat} {v0 v1 v2 v3 v4 v6 v7 v8 v9 : Value} {l : List UInt8} {bad : Bool}
    (hs : RSt w0 x r (.pointer (some ⟨c, 0, none⟩)) ([(c, .cells #[v0, v1, v2, v3, v4, .int .u64 0, v6, v7, v8, v9] 29 (0, 0))] :: C) l bad w) (hl : l.length ≤ 1000000) :
    Calls Try.prog 61 #[.pointer (some ⟨x, 0, none⟩)] w (Did (RSt w0 x r (.pointer (some ⟨c, 0, none⟩)) ([(c, .cells #[v0, v1, v2, v3, v4, .int .u64 (numF l).1, v6, v7, v8, v9] 29 (0, 0))] :: C) (numF l).2.2 ((bad || (numF l).2.1 != 0) || (numF l).1 == 0))) := by
  obtain ⟨X, rest, hr, hO⟩ := hs
  unfold Rdr at hO
  generalize hq : numF l = q
  obtain ⟨q1, q2, q3⟩ := q
  have Hq := Lib.hid hq
  clear hq
  go_enter Try.func61, Try.ntmps61
  go_wp2_with (first | ((with_reducible refine is_load ?_); refine a_load hO ?_; go_frame) | ((with_reducible refine is_load ?_); refine a_loadA hO ?_; go_frame) | ((with_reducible refine is_store ?_); refine a_store hO ?_; clear hO; intro w hO; go_frame) | ((with_reducible refine is_store ?_); refine a_storeA hO ?_; clear hO; intro w hO; go_frame) | ((with_reducible refine is_alloc ?_); refine a_alloc hO ?_; clear hO; intro w b_ hO; go_frame) | ((with_reducible refine is_box ?_); refine a_box hO ?_; clear hO; intro w b_ hO; go_frame) | ((with_reducible refine is_lit ?_); refine a_lit0 hO ?_; clear hO; intro w b_ hl_ hO; go_frame) | ((with_reducible refine is_lit ?_); refine a_lit1 hO ?_; clear hO; intro w b_ hl_ hO; go_frame) | ((with_reducible refine is_lit ?_); refine a_lit2 hO ?_; clear hO; intro w b_ hl_ hO; go_frame) | ((with_reducible refine is_lit ?_); refine a_lit3 hO ?_; clear hO; intro w b_ hl_ hO; go_frame))
  go_at_call 62
  refine (numberR (w0 := w0) (r := r) (b := b_) (off := 0) (T := 23) (cs := #[.int .u64 0]) (l := l) (bad := bad) (C := [(c, .cells #[v0, v1, v2, v3, v4, .int .u64 0, v6, v7, v8, v9] 29 (0, 0))] :: C) ⟨X, rest, hr, hO.pick3 (.there .here) (.there .here) (.there .here)⟩ (by decide) hl).mono ?_
  rw [Hq.out]
  rintro e w ⟨rfl, X2, rest2, hr2, hO⟩
  simp only [] at hr2
  unfold Rdr at hO
  (try simp only [List.setIfInBounds_toArray, List.set_cons_succ, List.set_cons_zero, Value.cells] at hO)
  go_wp2_with (first | ((with_reducible refine is_load ?_); refine a_load hO ?_; go_frame) | ((with_reducible refine is_load ?_); refine a_loadA hO ?_; go_frame) | ((with_reducible refine is_store ?_); refine a_store hO ?_; clear hO; intro w hO; go_frame) | ((with_reducible refine is_store ?_); refine a_storeA hO ?_; clear hO; intro w hO; go_frame) | ((with_reducible refine is_alloc ?_); refine a_alloc hO ?_; clear hO; intro w b_ hO; go_frame) | ((with_reducible refine is_box ?_); refine a_box hO ?_; clear hO; intro w b_ hO; go_frame) | ((with_reducible refine is_lit ?_); refine a_lit0 hO ?_; clear hO; intro w b_ hl_ hO; go_frame) | ((with_reducible refine is_lit ?_); refine a_lit1 hO ?_; clear hO; intro w b_ hl_ hO; go_frame) | ((with_reducible refine is_lit ?_); refine a_lit2 hO ?_; clear hO; intro w b_ hl_ hO; go_frame) | ((with_reducible refine is_lit ?_); refine a_lit3 hO ?_; clear hO; intro w b_ hl_ hO; go_frame))
  have f1 := hO.cells .here
  have f2 := hO.cells (.there (.there (.there .here)))
  have f3 := hO.cells (.there (.there (.there (.there .here))))
  have g3 := hO.free (.there (.there (.there (.there .here))))
  go_region
  all_goals
    have hO := (hO.setCell (off := 5) (v := .int .u64 q1) (.there (.there (.there (.there .here))))).drew
    (try simp only [List.setIfInBounds_toArray, List.set_cons_succ, List.set_cons_zero, Value.cells] at hO)
    obtain ⟨w2, hw2⟩ : ∃ w2, w2 = (w.setCell ⟨c, 5, none⟩ (.int .u64 q1)).drew := ⟨_, rfl⟩
    rw [← hw2] at hO ⊢
    clear hw2 f1 f2 f3 g3
    cases hb : (bad || q2 != 0)
    · rw [hb] at hO
      go_wp2_with (first | ((with_reducible refine is_load ?_); refine a_load hO ?_; go_frame) | ((with_reducible refine is_load ?_); refine a_loadA hO ?_; go_frame) | ((with_reducible refine is_store ?_); refine a_store hO ?_; clear hO; intro w hO; go_frame) | ((with_reducible refine is_store ?_); refine a_storeA hO ?_; clear hO; intro w hO; go_frame) | ((with_reducible refine is_alloc ?_); refine a_alloc hO ?_; clear hO; intro w b_ hO; go_frame) | ((with_reducible refine is_box ?_); refine a_box hO ?_; clear hO; intro w b_ hO; go_frame) | ((with_reducible refine is_lit ?_); refine a_lit0 hO ?_; clear hO; intro w b_ hl_ hO; go_frame) | ((with_reducible refine is_lit ?_); refine a_lit1 hO ?_; clear hO; intro w b_ hl_ hO; go_frame) | ((with_reducible refine is_lit ?_); refine a_lit2 hO ?_; clear hO; intro w b_ hl_ hO; go_frame) | ((with_reducible refine is_lit ?_); refine a_lit3 hO ?_; clear hO; intro w b_ hl_ hO; go_frame))
      go_end0
      exact ⟨rfl, X2, rest2, hr2, by simpa [hb, Rdr] using hO.dropAt (.there (.there (.there .here)))⟩
    · rw [hb] at hO
      go_wp2_with (first | ((with_reducible refine is_load ?_); refine a_load hO ?_; go_frame) | ((with_reducible refine is_load ?_); refine a_loadA hO ?_; go_frame) | ((with_reducible refine is_store ?_); refine a_store hO ?_; clear hO; intro w hO; go_frame) | ((with_reducible refine is_store ?_); refine a_storeA hO ?_; clear hO; intro w hO; go_frame) | ((with_reducible refine is_alloc ?_); refine a_alloc hO ?_; clear hO; intro w b_ hO; go_frame) | ((with_reducible refine is_box ?_); refine a_box hO ?_; clear hO; intro w b_ hO; go_frame) | ((with_reducible refine is_lit ?_); refine a_lit0 hO ?_; clear hO; intro w b_ hl_ hO; go_frame) | ((with_reducible refine is_lit ?_); refine a_lit1 hO ?_; clear hO; intro w b_ hl_ hO; go_frame) | ((with_reducible refine is_lit ?_); refine a_lit2 hO ?_; clear hO; intro w b_ hl_ hO; go_frame) | ((with_reducible refine is_lit ?_); refine a_lit3 hO ?_; clear hO; intro w b_ hl_ hO; go_frame))
      go_end0
      exact ⟨rfl, X2, rest2, hr2, by simpa [hb, Rdr] using hO.dropAt (.there (.there (.there .here)))⟩
end Go.Proofs.Yteghmoijhcdpeaa
