import Derived.Test.YteghmoijhcdpeaaAuf
--KINDS
set_option linter.unusedSimpArgs false
set_option linter.unusedVariables false
set_option maxRecDepth 100000
namespace Go.Proofs.Yteghmoijhcdpeaa
open Go.RowKit

theorem has55 (s p : ByteArray) (w : World) (h1 : s.size ≤ 1000000) (h2 : p.size ≤ 1000000) : Calls Try.prog 55 #[.string s, .string p] w fun e w' => e = .returned (.bool (hasF s p)) ∧ w = w' := by
  go_enter Try.func55, Try.ntmps55
  go_wp2_with (first | ((with_reducible refine is_load ?_); refine a_load hO ?_; go_frame) | ((with_reducible refine is_load ?_); refine a_loadA hO ?_; go_frame) | ((with_reducible refine is_store ?_); refine a_store hO ?_; clear hO; intro w hO; go_frame) | ((with_reducible refine is_store ?_); refine a_storeA hO ?_; clear hO; intro w hO; go_frame) | ((with_reducible refine is_alloc ?_); refine a_alloc hO ?_; clear hO; intro w b_ hO; go_frame) | ((with_reducible refine is_box ?_); refine a_box hO ?_; clear hO; intro w b_ hO; go_frame) | ((with_reducible refine is_lit ?_); refine a_lit0 hO ?_; clear hO; intro w b_ hl_ hO; go_frame) | ((with_reducible refine is_lit ?_); refine a_lit1 hO ?_; clear hO; intro w b_ hl_ hO; go_frame) | ((with_reducible refine is_lit ?_); refine a_lit2 hO ?_; clear hO; intro w b_ hl_ hO; go_frame) | ((with_reducible refine is_lit ?_); refine a_lit3 hO ?_; clear hO; intro w b_ hl_ hO; go_frame))
  go_at_call 70
  refine (has70 s p _ h1 h2).mono ?_
  rintro e w ⟨rfl, rfl⟩
  go_wp2_with (first | ((with_reducible refine is_load ?_); refine a_load hO ?_; go_frame) | ((with_reducible refine is_load ?_); refine a_loadA hO ?_; go_frame) | ((with_reducible refine is_store ?_); refine a_store hO ?_; clear hO; intro w hO; go_frame) | ((with_reducible refine is_store ?_); refine a_storeA hO ?_; clear hO; intro w hO; go_frame) | ((with_reducible refine is_alloc ?_); refine a_alloc hO ?_; clear hO; intro w b_ hO; go_frame) | ((with_reducible refine is_box ?_); refine a_box hO ?_; clear hO; intro w b_ hO; go_frame) | ((with_reducible refine is_lit ?_); refine a_lit0 hO ?_; clear hO; intro w b_ hl_ hO; go_frame) | ((with_reducible refine is_lit ?_); refine a_lit1 hO ?_; clear hO; intro w b_ hl_ hO; go_frame) | ((with_reducible refine is_lit ?_); refine a_lit2 hO ?_; clear hO; intro w b_ hl_ hO; go_frame) | ((with_reducible refine is_lit ?_); refine a_lit3 hO ?_; clear hO; intro w b_ hl_ hO; go_frame))
  go_ret
  exact ⟨rfl, rfl⟩
theorem has45 (s p : ByteArray) (w : World) (h1 : s.size ≤ 1000000) (h2 : p.size ≤ 1000000) : Calls Try.prog 45 #[.string s, .string p] w fun e w' => e = .returned (.bool (hasF s p)) ∧ w = w' := by
  go_enter Try.func45, Try.ntmps45
  go_wp2_with (first | ((with_reducible refine is_load ?_); refine a_load hO ?_; go_frame) | ((with_reducible refine is_load ?_); refine a_loadA hO ?_; go_frame) | ((with_reducible refine is_store ?_); refine a_store hO ?_; clear hO; intro w hO; go_frame) | ((with_reducible refine is_store ?_); refine a_storeA hO ?_; clear hO; intro w hO; go_frame) | ((with_reducible refine is_alloc ?_); refine a_alloc hO ?_; clear hO; intro w b_ hO; go_frame) | ((with_reducible refine is_box ?_); refine a_box hO ?_; clear hO; intro w b_ hO; go_frame) | ((with_reducible refine is_lit ?_); refine a_lit0 hO ?_; clear hO; intro w b_ hl_ hO; go_frame) | ((with_reducible refine is_lit ?_); refine a_lit1 hO ?_; clear hO; intro w b_ hl_ hO; go_frame) | ((with_reducible refine is_lit ?_); refine a_lit2 hO ?_; clear hO; intro w b_ hl_ hO; go_frame) | ((with_reducible refine is_lit ?_); refine a_lit3 hO ?_; clear hO; intro w b_ hl_ hO; go_frame))
  go_at_call 55
  refine (has55 s p _ h1 h2).mono ?_
  rintro e w ⟨rfl, rfl⟩
  go_wp2_with (first | ((with_reducible refine is_load ?_); refine a_load hO ?_; go_frame) | ((with_reducible refine is_load ?_); refine a_loadA hO ?_; go_frame) | ((with_reducible refine is_store ?_); refine a_store hO ?_; clear hO; intro w hO; go_frame) | ((with_reducible refine is_store ?_); refine a_storeA hO ?_; clear hO; intro w hO; go_frame) | ((with_reducible refine is_alloc ?_); refine a_alloc hO ?_; clear hO; intro w b_ hO; go_frame) | ((with_reducible refine is_box ?_); refine a_box hO ?_; clear hO; intro w b_ hO; go_frame) | ((with_reducible refine is_lit ?_); refine a_lit0 hO ?_; clear hO; intro w b_ hl_ hO; go_frame) | ((with_reducible refine is_lit ?_); refine a_lit1 hO ?_; clear hO; intro w b_ hl_ hO; go_frame) | ((with_reducible refine is_lit ?_); refine a_lit2 hO ?_; clear hO; intro w b_ hl_ hO; go_frame) | ((with_reducible refine is_lit ?_); refine a_lit3 hO ?_; clear hO; intro w b_ hl_ hO; go_frame))
  go_ret
  exact ⟨rfl, rfl⟩
theorem bitsGo_lt : ∀ (l : List Int) (s m : Nat), s < 65536 → bitsGo l s = some m → m < 65536
  | [], s, m, hs, h => by
    simp [bitsGo] at h
    omega
  | o :: l, s, m, hs, h => by
    simp only [bitsGo, List.foldlM_cons] at h
    cases hq : stepB s o with
    | none => rw [hq] at h; simp at h
    | some q =>
      rw [hq] at h
      exact bitsGo_lt l q m (stepB_lt hs hq) h
theorem bitsF_lt (l : List Int) : (bitsF l).1 < 65536 := by
  unfold bitsF
  split
  · rename_i m h
    exact bitsGo_lt l 0 m (by omega) h
  · simp

/-- Whether a right permits an op for a string at a time. -/
def permitsF (r : Rt) (now : Nat) (op : Int) (name : ByteArray) : Bool := decide ((bitsF r.ops).1 / 2 ^ op.toNat % 2 = 1) && (!dueF r.til now && hasF name r.pfx)
set_option maxHeartbeats 8000000 in
theorem permits31 {w0 w : World} {C CX : List Chunk} {X : Chunk} {vo : Value} {r : Rt} {now : Nat} {op : Int} {name : ByteArray} (hO : Own w0 w C) (hX : Pick C X CX) (ho : RdO X vo r.ops) (hn : r.ops.length ≤ 1000) (hp : r.pfx.size ≤ 1000000) (hs : name.size ≤ 1000000)
    (h1 : 1 ≤ op) (h15 : op ≤ 15) :
    Calls Try.prog 31 #[.agg #[vo, .string r.pfx, .int .u64 (r.til : Int)], .int .u64 (now : Int), .int .i64 op, .string name] w fun e w' => e = .returned (.bool (permitsF r now op name)) ∧ Own w0 w' C := by
  obtain ⟨A, c, rfl, hc, HO⟩ := ho.split
  have Hp := Lib.hid hp
  have Hs := Lib.hid hs
  clear ho hp hs
  go_enter Try.func31, Try.ntmps31
  go_wp2_with (first | ((with_reducible refine is_load ?_); refine a_load hO ?_; go_frame) | ((with_reducible refine is_load ?_); refine a_loadA hO ?_; go_frame) | ((with_reducible refine is_store ?_); refine a_store hO ?_; clear hO; intro w hO; go_frame) | ((with_reducible refine is_store ?_); refine a_storeA hO ?_; clear hO; intro w hO; go_frame) | ((with_reducible refine is_alloc ?_); refine a_alloc hO ?_; clear hO; intro w b_ hO; go_frame) | ((with_reducible refine is_box ?_); refine a_box hO ?_; clear hO; intro w b_ hO; go_frame) | ((with_reducible refine is_lit ?_); refine a_lit0 hO ?_; clear hO; intro w b_ hl_ hO; go_frame) | ((with_reducible refine is_lit ?_); refine a_lit1 hO ?_; clear hO; intro w b_ hl_ hO; go_frame) | ((with_reducible refine is_lit ?_); refine a_lit2 hO ?_; clear hO; intro w b_ hl_ hO; go_frame) | ((with_reducible refine is_lit ?_); refine a_lit3 hO ?_; clear hO; intro w b_ hl_ hO; go_frame))
  go_at_call 40
  refine (bits40 hO (.there hX) HO.out hn).mono ?_
  rintro e w ⟨rfl, rfl⟩
  have HF : Hid (permitsF r now op name = (decide ((bitsF r.ops).1 / 2 ^ op.toNat % 2 = 1) && (!dueF r.til now && hasF name r.pfx))) := (rfl : _ = _)
  have hm := bitsF_lt r.ops
  generalize bitsF r.ops = q at *
  obtain ⟨m, is⟩ := q
  simp only [] at hm HF
  have ho : op = 1 ∨ op = 2 ∨ op = 3 ∨ op = 4 ∨ op = 5 ∨ op = 6 ∨ op = 7 ∨ op = 8 ∨ op = 9 ∨ op = 10 ∨ op = 11 ∨ op = 12 ∨ op = 13 ∨ op = 14 ∨ op = 15 := by omega
  clear h1 h15
  rcases ho with rfl | rfl | rfl | rfl | rfl | rfl | rfl | rfl | rfl | rfl | rfl | rfl | rfl | rfl | rfl
  · have hp : 2 ^ Int.toNat 1 = 2 := by decide
    rw [hp] at HF
    clear hp
    have ha : bits .and .u64 ((m : Int) / 2) 1 = (m : Int) / 2 % 2 := by
      have h := bits_and_one (m / 2) (by omega)
      push_cast at h
      exact h
    by_cases hb : m / 2 % 2 = 1
    · have hx : (bits .and .u64 ((m : Int) / 2) 1 == 1) = true := by rw [ha, beq_iff_eq]; omega
      have HB : Hid (decide (m / 2 % 2 = 1) = true) := Lib.hid (by simp [hb])
      clear ha hb
      go_wp2_with (first | ((with_reducible refine is_load ?_); refine a_load hO ?_; go_frame) | ((with_reducible refine is_load ?_); refine a_loadA hO ?_; go_frame) | ((with_reducible refine is_store ?_); refine a_store hO ?_; clear hO; intro w hO; go_frame) | ((with_reducible refine is_store ?_); refine a_storeA hO ?_; clear hO; intro w hO; go_frame) | ((with_reducible refine is_alloc ?_); refine a_alloc hO ?_; clear hO; intro w b_ hO; go_frame) | ((with_reducible refine is_box ?_); refine a_box hO ?_; clear hO; intro w b_ hO; go_frame) | ((with_reducible refine is_lit ?_); refine a_lit0 hO ?_; clear hO; intro w b_ hl_ hO; go_frame) | ((with_reducible refine is_lit ?_); refine a_lit1 hO ?_; clear hO; intro w b_ hl_ hO; go_frame) | ((with_reducible refine is_lit ?_); refine a_lit2 hO ?_; clear hO; intro w b_ hl_ hO; go_frame) | ((with_reducible refine is_lit ?_); refine a_lit3 hO ?_; clear hO; intro w b_ hl_ hO; go_frame))
      go_at_call 44
      refine (due44 _ _ _).mono ?_
      rintro e w ⟨rfl, rfl⟩
      generalize dueF r.til now = due at *
      cases due
      · go_wp2_with (first | ((with_reducible refine is_load ?_); refine a_load hO ?_; go_frame) | ((with_reducible refine is_load ?_); refine a_loadA hO ?_; go_frame) | ((with_reducible refine is_store ?_); refine a_store hO ?_; clear hO; intro w hO; go_frame) | ((with_reducible refine is_store ?_); refine a_storeA hO ?_; clear hO; intro w hO; go_frame) | ((with_reducible refine is_alloc ?_); refine a_alloc hO ?_; clear hO; intro w b_ hO; go_frame) | ((with_reducible refine is_box ?_); refine a_box hO ?_; clear hO; intro w b_ hO; go_frame) | ((with_reducible refine is_lit ?_); refine a_lit0 hO ?_; clear hO; intro w b_ hl_ hO; go_frame) | ((with_reducible refine is_lit ?_); refine a_lit1 hO ?_; clear hO; intro w b_ hl_ hO; go_frame) | ((with_reducible refine is_lit ?_); refine a_lit2 hO ?_; clear hO; intro w b_ hl_ hO; go_frame) | ((with_reducible refine is_lit ?_); refine a_lit3 hO ?_; clear hO; intro w b_ hl_ hO; go_frame))
        go_at_call 45
        refine (has45 _ _ _ Hs.out Hp.out).mono ?_
        rintro e w ⟨rfl, rfl⟩
        go_wp2_with (first | ((with_reducible refine is_load ?_); refine a_load hO ?_; go_frame) | ((with_reducible refine is_load ?_); refine a_loadA hO ?_; go_frame) | ((with_reducible refine is_store ?_); refine a_store hO ?_; clear hO; intro w hO; go_frame) | ((with_reducible refine is_store ?_); refine a_storeA hO ?_; clear hO; intro w hO; go_frame) | ((with_reducible refine is_alloc ?_); refine a_alloc hO ?_; clear hO; intro w b_ hO; go_frame) | ((with_reducible refine is_box ?_); refine a_box hO ?_; clear hO; intro w b_ hO; go_frame) | ((with_reducible refine is_lit ?_); refine a_lit0 hO ?_; clear hO; intro w b_ hl_ hO; go_frame) | ((with_reducible refine is_lit ?_); refine a_lit1 hO ?_; clear hO; intro w b_ hl_ hO; go_frame) | ((with_reducible refine is_lit ?_); refine a_lit2 hO ?_; clear hO; intro w b_ hl_ hO; go_frame) | ((with_reducible refine is_lit ?_); refine a_lit3 hO ?_; clear hO; intro w b_ hl_ hO; go_frame))
        go_ret
        rw [HF.out, HB.out]
        exact ⟨by simp, hO.drop⟩
      · go_wp2_with (first | ((with_reducible refine is_load ?_); refine a_load hO ?_; go_frame) | ((with_reducible refine is_load ?_); refine a_loadA hO ?_; go_frame) | ((with_reducible refine is_store ?_); refine a_store hO ?_; clear hO; intro w hO; go_frame) | ((with_reducible refine is_store ?_); refine a_storeA hO ?_; clear hO; intro w hO; go_frame) | ((with_reducible refine is_alloc ?_); refine a_alloc hO ?_; clear hO; intro w b_ hO; go_frame) | ((with_reducible refine is_box ?_); refine a_box hO ?_; clear hO; intro w b_ hO; go_frame) | ((with_reducible refine is_lit ?_); refine a_lit0 hO ?_; clear hO; intro w b_ hl_ hO; go_frame) | ((with_reducible refine is_lit ?_); refine a_lit1 hO ?_; clear hO; intro w b_ hl_ hO; go_frame) | ((with_reducible refine is_lit ?_); refine a_lit2 hO ?_; clear hO; intro w b_ hl_ hO; go_frame) | ((with_reducible refine is_lit ?_); refine a_lit3 hO ?_; clear hO; intro w b_ hl_ hO; go_frame))
        go_ret
        rw [HF.out, HB.out]
        exact ⟨by simp, hO.drop⟩
    · have hx : (bits .and .u64 ((m : Int) / 2) 1 == 1) = false := by rw [ha, beq_eq_false_iff_ne]; omega
      have HB : Hid (decide (m / 2 % 2 = 1) = false) := Lib.hid (by simp [hb])
      clear ha hb
      go_wp2_with (first | ((with_reducible refine is_load ?_); refine a_load hO ?_; go_frame) | ((with_reducible refine is_load ?_); refine a_loadA hO ?_; go_frame) | ((with_reducible refine is_store ?_); refine a_store hO ?_; clear hO; intro w hO; go_frame) | ((with_reducible refine is_store ?_); refine a_storeA hO ?_; clear hO; intro w hO; go_frame) | ((with_reducible refine is_alloc ?_); refine a_alloc hO ?_; clear hO; intro w b_ hO; go_frame) | ((with_reducible refine is_box ?_); refine a_box hO ?_; clear hO; intro w b_ hO; go_frame) | ((with_reducible refine is_lit ?_); refine a_lit0 hO ?_; clear hO; intro w b_ hl_ hO; go_frame) | ((with_reducible refine is_lit ?_); refine a_lit1 hO ?_; clear hO; intro w b_ hl_ hO; go_frame) | ((with_reducible refine is_lit ?_); refine a_lit2 hO ?_; clear hO; intro w b_ hl_ hO; go_frame) | ((with_reducible refine is_lit ?_); refine a_lit3 hO ?_; clear hO; intro w b_ hl_ hO; go_frame))
      go_ret
      rw [HF.out, HB.out]
      exact ⟨by simp, hO.drop⟩
  · have hp : 2 ^ Int.toNat 2 = 4 := by decide
    rw [hp] at HF
    clear hp
    have ha : bits .and .u64 ((m : Int) / 4) 1 = (m : Int) / 4 % 2 := by
      have h := bits_and_one (m / 4) (by omega)
      push_cast at h
      exact h
    by_cases hb : m / 4 % 2 = 1
    · have hx : (bits .and .u64 ((m : Int) / 4) 1 == 1) = true := by rw [ha, beq_iff_eq]; omega
      have HB : Hid (decide (m / 4 % 2 = 1) = true) := Lib.hid (by simp [hb])
      clear ha hb
      go_wp2_with (first | ((with_reducible refine is_load ?_); refine a_load hO ?_; go_frame) | ((with_reducible refine is_load ?_); refine a_loadA hO ?_; go_frame) | ((with_reducible refine is_store ?_); refine a_store hO ?_; clear hO; intro w hO; go_frame) | ((with_reducible refine is_store ?_); refine a_storeA hO ?_; clear hO; intro w hO; go_frame) | ((with_reducible refine is_alloc ?_); refine a_alloc hO ?_; clear hO; intro w b_ hO; go_frame) | ((with_reducible refine is_box ?_); refine a_box hO ?_; clear hO; intro w b_ hO; go_frame) | ((with_reducible refine is_lit ?_); refine a_lit0 hO ?_; clear hO; intro w b_ hl_ hO; go_frame) | ((with_reducible refine is_lit ?_); refine a_lit1 hO ?_; clear hO; intro w b_ hl_ hO; go_frame) | ((with_reducible refine is_lit ?_); refine a_lit2 hO ?_; clear hO; intro w b_ hl_ hO; go_frame) | ((with_reducible refine is_lit ?_); refine a_lit3 hO ?_; clear hO; intro w b_ hl_ hO; go_frame))
      go_at_call 44
      refine (due44 _ _ _).mono ?_
      rintro e w ⟨rfl, rfl⟩
      generalize dueF r.til now = due at *
      cases due
      · go_wp2_with (first | ((with_reducible refine is_load ?_); refine a_load hO ?_; go_frame) | ((with_reducible refine is_load ?_); refine a_loadA hO ?_; go_frame) | ((with_reducible refine is_store ?_); refine a_store hO ?_; clear hO; intro w hO; go_frame) | ((with_reducible refine is_store ?_); refine a_storeA hO ?_; clear hO; intro w hO; go_frame) | ((with_reducible refine is_alloc ?_); refine a_alloc hO ?_; clear hO; intro w b_ hO; go_frame) | ((with_reducible refine is_box ?_); refine a_box hO ?_; clear hO; intro w b_ hO; go_frame) | ((with_reducible refine is_lit ?_); refine a_lit0 hO ?_; clear hO; intro w b_ hl_ hO; go_frame) | ((with_reducible refine is_lit ?_); refine a_lit1 hO ?_; clear hO; intro w b_ hl_ hO; go_frame) | ((with_reducible refine is_lit ?_); refine a_lit2 hO ?_; clear hO; intro w b_ hl_ hO; go_frame) | ((with_reducible refine is_lit ?_); refine a_lit3 hO ?_; clear hO; intro w b_ hl_ hO; go_frame))
        go_at_call 45
        refine (has45 _ _ _ Hs.out Hp.out).mono ?_
        rintro e w ⟨rfl, rfl⟩
        go_wp2_with (first | ((with_reducible refine is_load ?_); refine a_load hO ?_; go_frame) | ((with_reducible refine is_load ?_); refine a_loadA hO ?_; go_frame) | ((with_reducible refine is_store ?_); refine a_store hO ?_; clear hO; intro w hO; go_frame) | ((with_reducible refine is_store ?_); refine a_storeA hO ?_; clear hO; intro w hO; go_frame) | ((with_reducible refine is_alloc ?_); refine a_alloc hO ?_; clear hO; intro w b_ hO; go_frame) | ((with_reducible refine is_box ?_); refine a_box hO ?_; clear hO; intro w b_ hO; go_frame) | ((with_reducible refine is_lit ?_); refine a_lit0 hO ?_; clear hO; intro w b_ hl_ hO; go_frame) | ((with_reducible refine is_lit ?_); refine a_lit1 hO ?_; clear hO; intro w b_ hl_ hO; go_frame) | ((with_reducible refine is_lit ?_); refine a_lit2 hO ?_; clear hO; intro w b_ hl_ hO; go_frame) | ((with_reducible refine is_lit ?_); refine a_lit3 hO ?_; clear hO; intro w b_ hl_ hO; go_frame))
        go_ret
        rw [HF.out, HB.out]
        exact ⟨by simp, hO.drop⟩
      · go_wp2_with (first | ((with_reducible refine is_load ?_); refine a_load hO ?_; go_frame) | ((with_reducible refine is_load ?_); refine a_loadA hO ?_; go_frame) | ((with_reducible refine is_store ?_); refine a_store hO ?_; clear hO; intro w hO; go_frame) | ((with_reducible refine is_store ?_); refine a_storeA hO ?_; clear hO; intro w hO; go_frame) | ((with_reducible refine is_alloc ?_); refine a_alloc hO ?_; clear hO; intro w b_ hO; go_frame) | ((with_reducible refine is_box ?_); refine a_box hO ?_; clear hO; intro w b_ hO; go_frame) | ((with_reducible refine is_lit ?_); refine a_lit0 hO ?_; clear hO; intro w b_ hl_ hO; go_frame) | ((with_reducible refine is_lit ?_); refine a_lit1 hO ?_; clear hO; intro w b_ hl_ hO; go_frame) | ((with_reducible refine is_lit ?_); refine a_lit2 hO ?_; clear hO; intro w b_ hl_ hO; go_frame) | ((with_reducible refine is_lit ?_); refine a_lit3 hO ?_; clear hO; intro w b_ hl_ hO; go_frame))
        go_ret
        rw [HF.out, HB.out]
        exact ⟨by simp, hO.drop⟩
    · have hx : (bits .and .u64 ((m : Int) / 4) 1 == 1) = false := by rw [ha, beq_eq_false_iff_ne]; omega
      have HB : Hid (decide (m / 4 % 2 = 1) = false) := Lib.hid (by simp [hb])
      clear ha hb
      go_wp2_with (first | ((with_reducible refine is_load ?_); refine a_load hO ?_; go_frame) | ((with_reducible refine is_load ?_); refine a_loadA hO ?_; go_frame) | ((with_reducible refine is_store ?_); refine a_store hO ?_; clear hO; intro w hO; go_frame) | ((with_reducible refine is_store ?_); refine a_storeA hO ?_; clear hO; intro w hO; go_frame) | ((with_reducible refine is_alloc ?_); refine a_alloc hO ?_; clear hO; intro w b_ hO; go_frame) | ((with_reducible refine is_box ?_); refine a_box hO ?_; clear hO; intro w b_ hO; go_frame) | ((with_reducible refine is_lit ?_); refine a_lit0 hO ?_; clear hO; intro w b_ hl_ hO; go_frame) | ((with_reducible refine is_lit ?_); refine a_lit1 hO ?_; clear hO; intro w b_ hl_ hO; go_frame) | ((with_reducible refine is_lit ?_); refine a_lit2 hO ?_; clear hO; intro w b_ hl_ hO; go_frame) | ((with_reducible refine is_lit ?_); refine a_lit3 hO ?_; clear hO; intro w b_ hl_ hO; go_frame))
      go_ret
      rw [HF.out, HB.out]
      exact ⟨by simp, hO.drop⟩
  · have hp : 2 ^ Int.toNat 3 = 8 := by decide
    rw [hp] at HF
    clear hp
    have ha : bits .and .u64 ((m : Int) / 8) 1 = (m : Int) / 8 % 2 := by
      have h := bits_and_one (m / 8) (by omega)
      push_cast at h
      exact h
    by_cases hb : m / 8 % 2 = 1
    · have hx : (bits .and .u64 ((m : Int) / 8) 1 == 1) = true := by rw [ha, beq_iff_eq]; omega
      have HB : Hid (decide (m / 8 % 2 = 1) = true) := Lib.hid (by simp [hb])
      clear ha hb
      go_wp2_with (first | ((with_reducible refine is_load ?_); refine a_load hO ?_; go_frame) | ((with_reducible refine is_load ?_); refine a_loadA hO ?_; go_frame) | ((with_reducible refine is_store ?_); refine a_store hO ?_; clear hO; intro w hO; go_frame) | ((with_reducible refine is_store ?_); refine a_storeA hO ?_; clear hO; intro w hO; go_frame) | ((with_reducible refine is_alloc ?_); refine a_alloc hO ?_; clear hO; intro w b_ hO; go_frame) | ((with_reducible refine is_box ?_); refine a_box hO ?_; clear hO; intro w b_ hO; go_frame) | ((with_reducible refine is_lit ?_); refine a_lit0 hO ?_; clear hO; intro w b_ hl_ hO; go_frame) | ((with_reducible refine is_lit ?_); refine a_lit1 hO ?_; clear hO; intro w b_ hl_ hO; go_frame) | ((with_reducible refine is_lit ?_); refine a_lit2 hO ?_; clear hO; intro w b_ hl_ hO; go_frame) | ((with_reducible refine is_lit ?_); refine a_lit3 hO ?_; clear hO; intro w b_ hl_ hO; go_frame))
      go_at_call 44
      refine (due44 _ _ _).mono ?_
      rintro e w ⟨rfl, rfl⟩
      generalize dueF r.til now = due at *
      cases due
      · go_wp2_with (first | ((with_reducible refine is_load ?_); refine a_load hO ?_; go_frame) | ((with_reducible refine is_load ?_); refine a_loadA hO ?_; go_frame) | ((with_reducible refine is_store ?_); refine a_store hO ?_; clear hO; intro w hO; go_frame) | ((with_reducible refine is_store ?_); refine a_storeA hO ?_; clear hO; intro w hO; go_frame) | ((with_reducible refine is_alloc ?_); refine a_alloc hO ?_; clear hO; intro w b_ hO; go_frame) | ((with_reducible refine is_box ?_); refine a_box hO ?_; clear hO; intro w b_ hO; go_frame) | ((with_reducible refine is_lit ?_); refine a_lit0 hO ?_; clear hO; intro w b_ hl_ hO; go_frame) | ((with_reducible refine is_lit ?_); refine a_lit1 hO ?_; clear hO; intro w b_ hl_ hO; go_frame) | ((with_reducible refine is_lit ?_); refine a_lit2 hO ?_; clear hO; intro w b_ hl_ hO; go_frame) | ((with_reducible refine is_lit ?_); refine a_lit3 hO ?_; clear hO; intro w b_ hl_ hO; go_frame))
        go_at_call 45
        refine (has45 _ _ _ Hs.out Hp.out).mono ?_
        rintro e w ⟨rfl, rfl⟩
        go_wp2_with (first | ((with_reducible refine is_load ?_); refine a_load hO ?_; go_frame) | ((with_reducible refine is_load ?_); refine a_loadA hO ?_; go_frame) | ((with_reducible refine is_store ?_); refine a_store hO ?_; clear hO; intro w hO; go_frame) | ((with_reducible refine is_store ?_); refine a_storeA hO ?_; clear hO; intro w hO; go_frame) | ((with_reducible refine is_alloc ?_); refine a_alloc hO ?_; clear hO; intro w b_ hO; go_frame) | ((with_reducible refine is_box ?_); refine a_box hO ?_; clear hO; intro w b_ hO; go_frame) | ((with_reducible refine is_lit ?_); refine a_lit0 hO ?_; clear hO; intro w b_ hl_ hO; go_frame) | ((with_reducible refine is_lit ?_); refine a_lit1 hO ?_; clear hO; intro w b_ hl_ hO; go_frame) | ((with_reducible refine is_lit ?_); refine a_lit2 hO ?_; clear hO; intro w b_ hl_ hO; go_frame) | ((with_reducible refine is_lit ?_); refine a_lit3 hO ?_; clear hO; intro w b_ hl_ hO; go_frame))
        go_ret
        rw [HF.out, HB.out]
        exact ⟨by simp, hO.drop⟩
      · go_wp2_with (first | ((with_reducible refine is_load ?_); refine a_load hO ?_; go_frame) | ((with_reducible refine is_load ?_); refine a_loadA hO ?_; go_frame) | ((with_reducible refine is_store ?_); refine a_store hO ?_; clear hO; intro w hO; go_frame) | ((with_reducible refine is_store ?_); refine a_storeA hO ?_; clear hO; intro w hO; go_frame) | ((with_reducible refine is_alloc ?_); refine a_alloc hO ?_; clear hO; intro w b_ hO; go_frame) | ((with_reducible refine is_box ?_); refine a_box hO ?_; clear hO; intro w b_ hO; go_frame) | ((with_reducible refine is_lit ?_); refine a_lit0 hO ?_; clear hO; intro w b_ hl_ hO; go_frame) | ((with_reducible refine is_lit ?_); refine a_lit1 hO ?_; clear hO; intro w b_ hl_ hO; go_frame) | ((with_reducible refine is_lit ?_); refine a_lit2 hO ?_; clear hO; intro w b_ hl_ hO; go_frame) | ((with_reducible refine is_lit ?_); refine a_lit3 hO ?_; clear hO; intro w b_ hl_ hO; go_frame))
        go_ret
        rw [HF.out, HB.out]
        exact ⟨by simp, hO.drop⟩
    · have hx : (bits .and .u64 ((m : Int) / 8) 1 == 1) = false := by rw [ha, beq_eq_false_iff_ne]; omega
      have HB : Hid (decide (m / 8 % 2 = 1) = false) := Lib.hid (by simp [hb])
      clear ha hb
      go_wp2_with (first | ((with_reducible refine is_load ?_); refine a_load hO ?_; go_frame) | ((with_reducible refine is_load ?_); refine a_loadA hO ?_; go_frame) | ((with_reducible refine is_store ?_); refine a_store hO ?_; clear hO; intro w hO; go_frame) | ((with_reducible refine is_store ?_); refine a_storeA hO ?_; clear hO; intro w hO; go_frame) | ((with_reducible refine is_alloc ?_); refine a_alloc hO ?_; clear hO; intro w b_ hO; go_frame) | ((with_reducible refine is_box ?_); refine a_box hO ?_; clear hO; intro w b_ hO; go_frame) | ((with_reducible refine is_lit ?_); refine a_lit0 hO ?_; clear hO; intro w b_ hl_ hO; go_frame) | ((with_reducible refine is_lit ?_); refine a_lit1 hO ?_; clear hO; intro w b_ hl_ hO; go_frame) | ((with_reducible refine is_lit ?_); refine a_lit2 hO ?_; clear hO; intro w b_ hl_ hO; go_frame) | ((with_reducible refine is_lit ?_); refine a_lit3 hO ?_; clear hO; intro w b_ hl_ hO; go_frame))
      go_ret
      rw [HF.out, HB.out]
      exact ⟨by simp, hO.drop⟩
  · have hp : 2 ^ Int.toNat 4 = 16 := by decide
    rw [hp] at HF
    clear hp
    have ha : bits .and .u64 ((m : Int) / 16) 1 = (m : Int) / 16 % 2 := by
      have h := bits_and_one (m / 16) (by omega)
      push_cast at h
      exact h
    by_cases hb : m / 16 % 2 = 1
    · have hx : (bits .and .u64 ((m : Int) / 16) 1 == 1) = true := by rw [ha, beq_iff_eq]; omega
      have HB : Hid (decide (m / 16 % 2 = 1) = true) := Lib.hid (by simp [hb])
      clear ha hb
      go_wp2_with (first | ((with_reducible refine is_load ?_); refine a_load hO ?_; go_frame) | ((with_reducible refine is_load ?_); refine a_loadA hO ?_; go_frame) | ((with_reducible refine is_store ?_); refine a_store hO ?_; clear hO; intro w hO; go_frame) | ((with_reducible refine is_store ?_); refine a_storeA hO ?_; clear hO; intro w hO; go_frame) | ((with_reducible refine is_alloc ?_); refine a_alloc hO ?_; clear hO; intro w b_ hO; go_frame) | ((with_reducible refine is_box ?_); refine a_box hO ?_; clear hO; intro w b_ hO; go_frame) | ((with_reducible refine is_lit ?_); refine a_lit0 hO ?_; clear hO; intro w b_ hl_ hO; go_frame) | ((with_reducible refine is_lit ?_); refine a_lit1 hO ?_; clear hO; intro w b_ hl_ hO; go_frame) | ((with_reducible refine is_lit ?_); refine a_lit2 hO ?_; clear hO; intro w b_ hl_ hO; go_frame) | ((with_reducible refine is_lit ?_); refine a_lit3 hO ?_; clear hO; intro w b_ hl_ hO; go_frame))
      go_at_call 44
      refine (due44 _ _ _).mono ?_
      rintro e w ⟨rfl, rfl⟩
      generalize dueF r.til now = due at *
      cases due
      · go_wp2_with (first | ((with_reducible refine is_load ?_); refine a_load hO ?_; go_frame) | ((with_reducible refine is_load ?_); refine a_loadA hO ?_; go_frame) | ((with_reducible refine is_store ?_); refine a_store hO ?_; clear hO; intro w hO; go_frame) | ((with_reducible refine is_store ?_); refine a_storeA hO ?_; clear hO; intro w hO; go_frame) | ((with_reducible refine is_alloc ?_); refine a_alloc hO ?_; clear hO; intro w b_ hO; go_frame) | ((with_reducible refine is_box ?_); refine a_box hO ?_; clear hO; intro w b_ hO; go_frame) | ((with_reducible refine is_lit ?_); refine a_lit0 hO ?_; clear hO; intro w b_ hl_ hO; go_frame) | ((with_reducible refine is_lit ?_); refine a_lit1 hO ?_; clear hO; intro w b_ hl_ hO; go_frame) | ((with_reducible refine is_lit ?_); refine a_lit2 hO ?_; clear hO; intro w b_ hl_ hO; go_frame) | ((with_reducible refine is_lit ?_); refine a_lit3 hO ?_; clear hO; intro w b_ hl_ hO; go_frame))
        go_at_call 45
        refine (has45 _ _ _ Hs.out Hp.out).mono ?_
        rintro e w ⟨rfl, rfl⟩
        go_wp2_with (first | ((with_reducible refine is_load ?_); refine a_load hO ?_; go_frame) | ((with_reducible refine is_load ?_); refine a_loadA hO ?_; go_frame) | ((with_reducible refine is_store ?_); refine a_store hO ?_; clear hO; intro w hO; go_frame) | ((with_reducible refine is_store ?_); refine a_storeA hO ?_; clear hO; intro w hO; go_frame) | ((with_reducible refine is_alloc ?_); refine a_alloc hO ?_; clear hO; intro w b_ hO; go_frame) | ((with_reducible refine is_box ?_); refine a_box hO ?_; clear hO; intro w b_ hO; go_frame) | ((with_reducible refine is_lit ?_); refine a_lit0 hO ?_; clear hO; intro w b_ hl_ hO; go_frame) | ((with_reducible refine is_lit ?_); refine a_lit1 hO ?_; clear hO; intro w b_ hl_ hO; go_frame) | ((with_reducible refine is_lit ?_); refine a_lit2 hO ?_; clear hO; intro w b_ hl_ hO; go_frame) | ((with_reducible refine is_lit ?_); refine a_lit3 hO ?_; clear hO; intro w b_ hl_ hO; go_frame))
        go_ret
        rw [HF.out, HB.out]
        exact ⟨by simp, hO.drop⟩
      · go_wp2_with (first | ((with_reducible refine is_load ?_); refine a_load hO ?_; go_frame) | ((with_reducible refine is_load ?_); refine a_loadA hO ?_; go_frame) | ((with_reducible refine is_store ?_); refine a_store hO ?_; clear hO; intro w hO; go_frame) | ((with_reducible refine is_store ?_); refine a_storeA hO ?_; clear hO; intro w hO; go_frame) | ((with_reducible refine is_alloc ?_); refine a_alloc hO ?_; clear hO; intro w b_ hO; go_frame) | ((with_reducible refine is_box ?_); refine a_box hO ?_; clear hO; intro w b_ hO; go_frame) | ((with_reducible refine is_lit ?_); refine a_lit0 hO ?_; clear hO; intro w b_ hl_ hO; go_frame) | ((with_reducible refine is_lit ?_); refine a_lit1 hO ?_; clear hO; intro w b_ hl_ hO; go_frame) | ((with_reducible refine is_lit ?_); refine a_lit2 hO ?_; clear hO; intro w b_ hl_ hO; go_frame) | ((with_reducible refine is_lit ?_); refine a_lit3 hO ?_; clear hO; intro w b_ hl_ hO; go_frame))
        go_ret
        rw [HF.out, HB.out]
        exact ⟨by simp, hO.drop⟩
    · have hx : (bits .and .u64 ((m : Int) / 16) 1 == 1) = false := by rw [ha, beq_eq_false_iff_ne]; omega
      have HB : Hid (decide (m / 16 % 2 = 1) = false) := Lib.hid (by simp [hb])
      clear ha hb
      go_wp2_with (first | ((with_reducible refine is_load ?_); refine a_load hO ?_; go_frame) | ((with_reducible refine is_load ?_); refine a_loadA hO ?_; go_frame) | ((with_reducible refine is_store ?_); refine a_store hO ?_; clear hO; intro w hO; go_frame) | ((with_reducible refine is_store ?_); refine a_storeA hO ?_; clear hO; intro w hO; go_frame) | ((with_reducible refine is_alloc ?_); refine a_alloc hO ?_; clear hO; intro w b_ hO; go_frame) | ((with_reducible refine is_box ?_); refine a_box hO ?_; clear hO; intro w b_ hO; go_frame) | ((with_reducible refine is_lit ?_); refine a_lit0 hO ?_; clear hO; intro w b_ hl_ hO; go_frame) | ((with_reducible refine is_lit ?_); refine a_lit1 hO ?_; clear hO; intro w b_ hl_ hO; go_frame) | ((with_reducible refine is_lit ?_); refine a_lit2 hO ?_; clear hO; intro w b_ hl_ hO; go_frame) | ((with_reducible refine is_lit ?_); refine a_lit3 hO ?_; clear hO; intro w b_ hl_ hO; go_frame))
      go_ret
      rw [HF.out, HB.out]
      exact ⟨by simp, hO.drop⟩
  · have hp : 2 ^ Int.toNat 5 = 32 := by decide
    rw [hp] at HF
    clear hp
    have ha : bits .and .u64 ((m : Int) / 32) 1 = (m : Int) / 32 % 2 := by
      have h := bits_and_one (m / 32) (by omega)
      push_cast at h
      exact h
    by_cases hb : m / 32 % 2 = 1
    · have hx : (bits .and .u64 ((m : Int) / 32) 1 == 1) = true := by rw [ha, beq_iff_eq]; omega
      have HB : Hid (decide (m / 32 % 2 = 1) = true) := Lib.hid (by simp [hb])
      clear ha hb
      go_wp2_with (first | ((with_reducible refine is_load ?_); refine a_load hO ?_; go_frame) | ((with_reducible refine is_load ?_); refine a_loadA hO ?_; go_frame) | ((with_reducible refine is_store ?_); refine a_store hO ?_; clear hO; intro w hO; go_frame) | ((with_reducible refine is_store ?_); refine a_storeA hO ?_; clear hO; intro w hO; go_frame) | ((with_reducible refine is_alloc ?_); refine a_alloc hO ?_; clear hO; intro w b_ hO; go_frame) | ((with_reducible refine is_box ?_); refine a_box hO ?_; clear hO; intro w b_ hO; go_frame) | ((with_reducible refine is_lit ?_); refine a_lit0 hO ?_; clear hO; intro w b_ hl_ hO; go_frame) | ((with_reducible refine is_lit ?_); refine a_lit1 hO ?_; clear hO; intro w b_ hl_ hO; go_frame) | ((with_reducible refine is_lit ?_); refine a_lit2 hO ?_; clear hO; intro w b_ hl_ hO; go_frame) | ((with_reducible refine is_lit ?_); refine a_lit3 hO ?_; clear hO; intro w b_ hl_ hO; go_frame))
      go_at_call 44
      refine (due44 _ _ _).mono ?_
      rintro e w ⟨rfl, rfl⟩
      generalize dueF r.til now = due at *
      cases due
      · go_wp2_with (first | ((with_reducible refine is_load ?_); refine a_load hO ?_; go_frame) | ((with_reducible refine is_load ?_); refine a_loadA hO ?_; go_frame) | ((with_reducible refine is_store ?_); refine a_store hO ?_; clear hO; intro w hO; go_frame) | ((with_reducible refine is_store ?_); refine a_storeA hO ?_; clear hO; intro w hO; go_frame) | ((with_reducible refine is_alloc ?_); refine a_alloc hO ?_; clear hO; intro w b_ hO; go_frame) | ((with_reducible refine is_box ?_); refine a_box hO ?_; clear hO; intro w b_ hO; go_frame) | ((with_reducible refine is_lit ?_); refine a_lit0 hO ?_; clear hO; intro w b_ hl_ hO; go_frame) | ((with_reducible refine is_lit ?_); refine a_lit1 hO ?_; clear hO; intro w b_ hl_ hO; go_frame) | ((with_reducible refine is_lit ?_); refine a_lit2 hO ?_; clear hO; intro w b_ hl_ hO; go_frame) | ((with_reducible refine is_lit ?_); refine a_lit3 hO ?_; clear hO; intro w b_ hl_ hO; go_frame))
        go_at_call 45
        refine (has45 _ _ _ Hs.out Hp.out).mono ?_
        rintro e w ⟨rfl, rfl⟩
        go_wp2_with (first | ((with_reducible refine is_load ?_); refine a_load hO ?_; go_frame) | ((with_reducible refine is_load ?_); refine a_loadA hO ?_; go_frame) | ((with_reducible refine is_store ?_); refine a_store hO ?_; clear hO; intro w hO; go_frame) | ((with_reducible refine is_store ?_); refine a_storeA hO ?_; clear hO; intro w hO; go_frame) | ((with_reducible refine is_alloc ?_); refine a_alloc hO ?_; clear hO; intro w b_ hO; go_frame) | ((with_reducible refine is_box ?_); refine a_box hO ?_; clear hO; intro w b_ hO; go_frame) | ((with_reducible refine is_lit ?_); refine a_lit0 hO ?_; clear hO; intro w b_ hl_ hO; go_frame) | ((with_reducible refine is_lit ?_); refine a_lit1 hO ?_; clear hO; intro w b_ hl_ hO; go_frame) | ((with_reducible refine is_lit ?_); refine a_lit2 hO ?_; clear hO; intro w b_ hl_ hO; go_frame) | ((with_reducible refine is_lit ?_); refine a_lit3 hO ?_; clear hO; intro w b_ hl_ hO; go_frame))
        go_ret
        rw [HF.out, HB.out]
        exact ⟨by simp, hO.drop⟩
      · go_wp2_with (first | ((with_reducible refine is_load ?_); refine a_load hO ?_; go_frame) | ((with_reducible refine is_load ?_); refine a_loadA hO ?_; go_frame) | ((with_reducible refine is_store ?_); refine a_store hO ?_; clear hO; intro w hO; go_frame) | ((with_reducible refine is_store ?_); refine a_storeA hO ?_; clear hO; intro w hO; go_frame) | ((with_reducible refine is_alloc ?_); refine a_alloc hO ?_; clear hO; intro w b_ hO; go_frame) | ((with_reducible refine is_box ?_); refine a_box hO ?_; clear hO; intro w b_ hO; go_frame) | ((with_reducible refine is_lit ?_); refine a_lit0 hO ?_; clear hO; intro w b_ hl_ hO; go_frame) | ((with_reducible refine is_lit ?_); refine a_lit1 hO ?_; clear hO; intro w b_ hl_ hO; go_frame) | ((with_reducible refine is_lit ?_); refine a_lit2 hO ?_; clear hO; intro w b_ hl_ hO; go_frame) | ((with_reducible refine is_lit ?_); refine a_lit3 hO ?_; clear hO; intro w b_ hl_ hO; go_frame))
        go_ret
        rw [HF.out, HB.out]
        exact ⟨by simp, hO.drop⟩
    · have hx : (bits .and .u64 ((m : Int) / 32) 1 == 1) = false := by rw [ha, beq_eq_false_iff_ne]; omega
      have HB : Hid (decide (m / 32 % 2 = 1) = false) := Lib.hid (by simp [hb])
      clear ha hb
      go_wp2_with (first | ((with_reducible refine is_load ?_); refine a_load hO ?_; go_frame) | ((with_reducible refine is_load ?_); refine a_loadA hO ?_; go_frame) | ((with_reducible refine is_store ?_); refine a_store hO ?_; clear hO; intro w hO; go_frame) | ((with_reducible refine is_store ?_); refine a_storeA hO ?_; clear hO; intro w hO; go_frame) | ((with_reducible refine is_alloc ?_); refine a_alloc hO ?_; clear hO; intro w b_ hO; go_frame) | ((with_reducible refine is_box ?_); refine a_box hO ?_; clear hO; intro w b_ hO; go_frame) | ((with_reducible refine is_lit ?_); refine a_lit0 hO ?_; clear hO; intro w b_ hl_ hO; go_frame) | ((with_reducible refine is_lit ?_); refine a_lit1 hO ?_; clear hO; intro w b_ hl_ hO; go_frame) | ((with_reducible refine is_lit ?_); refine a_lit2 hO ?_; clear hO; intro w b_ hl_ hO; go_frame) | ((with_reducible refine is_lit ?_); refine a_lit3 hO ?_; clear hO; intro w b_ hl_ hO; go_frame))
      go_ret
      rw [HF.out, HB.out]
      exact ⟨by simp, hO.drop⟩
  · have hp : 2 ^ Int.toNat 6 = 64 := by decide
    rw [hp] at HF
    clear hp
    have ha : bits .and .u64 ((m : Int) / 64) 1 = (m : Int) / 64 % 2 := by
      have h := bits_and_one (m / 64) (by omega)
      push_cast at h
      exact h
    by_cases hb : m / 64 % 2 = 1
    · have hx : (bits .and .u64 ((m : Int) / 64) 1 == 1) = true := by rw [ha, beq_iff_eq]; omega
      have HB : Hid (decide (m / 64 % 2 = 1) = true) := Lib.hid (by simp [hb])
      clear ha hb
      go_wp2_with (first | ((with_reducible refine is_load ?_); refine a_load hO ?_; go_frame) | ((with_reducible refine is_load ?_); refine a_loadA hO ?_; go_frame) | ((with_reducible refine is_store ?_); refine a_store hO ?_; clear hO; intro w hO; go_frame) | ((with_reducible refine is_store ?_); refine a_storeA hO ?_; clear hO; intro w hO; go_frame) | ((with_reducible refine is_alloc ?_); refine a_alloc hO ?_; clear hO; intro w b_ hO; go_frame) | ((with_reducible refine is_box ?_); refine a_box hO ?_; clear hO; intro w b_ hO; go_frame) | ((with_reducible refine is_lit ?_); refine a_lit0 hO ?_; clear hO; intro w b_ hl_ hO; go_frame) | ((with_reducible refine is_lit ?_); refine a_lit1 hO ?_; clear hO; intro w b_ hl_ hO; go_frame) | ((with_reducible refine is_lit ?_); refine a_lit2 hO ?_; clear hO; intro w b_ hl_ hO; go_frame) | ((with_reducible refine is_lit ?_); refine a_lit3 hO ?_; clear hO; intro w b_ hl_ hO; go_frame))
      go_at_call 44
      refine (due44 _ _ _).mono ?_
      rintro e w ⟨rfl, rfl⟩
      generalize dueF r.til now = due at *
      cases due
      · go_wp2_with (first | ((with_reducible refine is_load ?_); refine a_load hO ?_; go_frame) | ((with_reducible refine is_load ?_); refine a_loadA hO ?_; go_frame) | ((with_reducible refine is_store ?_); refine a_store hO ?_; clear hO; intro w hO; go_frame) | ((with_reducible refine is_store ?_); refine a_storeA hO ?_; clear hO; intro w hO; go_frame) | ((with_reducible refine is_alloc ?_); refine a_alloc hO ?_; clear hO; intro w b_ hO; go_frame) | ((with_reducible refine is_box ?_); refine a_box hO ?_; clear hO; intro w b_ hO; go_frame) | ((with_reducible refine is_lit ?_); refine a_lit0 hO ?_; clear hO; intro w b_ hl_ hO; go_frame) | ((with_reducible refine is_lit ?_); refine a_lit1 hO ?_; clear hO; intro w b_ hl_ hO; go_frame) | ((with_reducible refine is_lit ?_); refine a_lit2 hO ?_; clear hO; intro w b_ hl_ hO; go_frame) | ((with_reducible refine is_lit ?_); refine a_lit3 hO ?_; clear hO; intro w b_ hl_ hO; go_frame))
        go_at_call 45
        refine (has45 _ _ _ Hs.out Hp.out).mono ?_
        rintro e w ⟨rfl, rfl⟩
        go_wp2_with (first | ((with_reducible refine is_load ?_); refine a_load hO ?_; go_frame) | ((with_reducible refine is_load ?_); refine a_loadA hO ?_; go_frame) | ((with_reducible refine is_store ?_); refine a_store hO ?_; clear hO; intro w hO; go_frame) | ((with_reducible refine is_store ?_); refine a_storeA hO ?_; clear hO; intro w hO; go_frame) | ((with_reducible refine is_alloc ?_); refine a_alloc hO ?_; clear hO; intro w b_ hO; go_frame) | ((with_reducible refine is_box ?_); refine a_box hO ?_; clear hO; intro w b_ hO; go_frame) | ((with_reducible refine is_lit ?_); refine a_lit0 hO ?_; clear hO; intro w b_ hl_ hO; go_frame) | ((with_reducible refine is_lit ?_); refine a_lit1 hO ?_; clear hO; intro w b_ hl_ hO; go_frame) | ((with_reducible refine is_lit ?_); refine a_lit2 hO ?_; clear hO; intro w b_ hl_ hO; go_frame) | ((with_reducible refine is_lit ?_); refine a_lit3 hO ?_; clear hO; intro w b_ hl_ hO; go_frame))
        go_ret
        rw [HF.out, HB.out]
        exact ⟨by simp, hO.drop⟩
      · go_wp2_with (first | ((with_reducible refine is_load ?_); refine a_load hO ?_; go_frame) | ((with_reducible refine is_load ?_); refine a_loadA hO ?_; go_frame) | ((with_reducible refine is_store ?_); refine a_store hO ?_; clear hO; intro w hO; go_frame) | ((with_reducible refine is_store ?_); refine a_storeA hO ?_; clear hO; intro w hO; go_frame) | ((with_reducible refine is_alloc ?_); refine a_alloc hO ?_; clear hO; intro w b_ hO; go_frame) | ((with_reducible refine is_box ?_); refine a_box hO ?_; clear hO; intro w b_ hO; go_frame) | ((with_reducible refine is_lit ?_); refine a_lit0 hO ?_; clear hO; intro w b_ hl_ hO; go_frame) | ((with_reducible refine is_lit ?_); refine a_lit1 hO ?_; clear hO; intro w b_ hl_ hO; go_frame) | ((with_reducible refine is_lit ?_); refine a_lit2 hO ?_; clear hO; intro w b_ hl_ hO; go_frame) | ((with_reducible refine is_lit ?_); refine a_lit3 hO ?_; clear hO; intro w b_ hl_ hO; go_frame))
        go_ret
        rw [HF.out, HB.out]
        exact ⟨by simp, hO.drop⟩
    · have hx : (bits .and .u64 ((m : Int) / 64) 1 == 1) = false := by rw [ha, beq_eq_false_iff_ne]; omega
      have HB : Hid (decide (m / 64 % 2 = 1) = false) := Lib.hid (by simp [hb])
      clear ha hb
      go_wp2_with (first | ((with_reducible refine is_load ?_); refine a_load hO ?_; go_frame) | ((with_reducible refine is_load ?_); refine a_loadA hO ?_; go_frame) | ((with_reducible refine is_store ?_); refine a_store hO ?_; clear hO; intro w hO; go_frame) | ((with_reducible refine is_store ?_); refine a_storeA hO ?_; clear hO; intro w hO; go_frame) | ((with_reducible refine is_alloc ?_); refine a_alloc hO ?_; clear hO; intro w b_ hO; go_frame) | ((with_reducible refine is_box ?_); refine a_box hO ?_; clear hO; intro w b_ hO; go_frame) | ((with_reducible refine is_lit ?_); refine a_lit0 hO ?_; clear hO; intro w b_ hl_ hO; go_frame) | ((with_reducible refine is_lit ?_); refine a_lit1 hO ?_; clear hO; intro w b_ hl_ hO; go_frame) | ((with_reducible refine is_lit ?_); refine a_lit2 hO ?_; clear hO; intro w b_ hl_ hO; go_frame) | ((with_reducible refine is_lit ?_); refine a_lit3 hO ?_; clear hO; intro w b_ hl_ hO; go_frame))
      go_ret
      rw [HF.out, HB.out]
      exact ⟨by simp, hO.drop⟩
  · have hp : 2 ^ Int.toNat 7 = 128 := by decide
    rw [hp] at HF
    clear hp
    have ha : bits .and .u64 ((m : Int) / 128) 1 = (m : Int) / 128 % 2 := by
      have h := bits_and_one (m / 128) (by omega)
      push_cast at h
      exact h
    by_cases hb : m / 128 % 2 = 1
    · have hx : (bits .and .u64 ((m : Int) / 128) 1 == 1) = true := by rw [ha, beq_iff_eq]; omega
      have HB : Hid (decide (m / 128 % 2 = 1) = true) := Lib.hid (by simp [hb])
      clear ha hb
      go_wp2_with (first | ((with_reducible refine is_load ?_); refine a_load hO ?_; go_frame) | ((with_reducible refine is_load ?_); refine a_loadA hO ?_; go_frame) | ((with_reducible refine is_store ?_); refine a_store hO ?_; clear hO; intro w hO; go_frame) | ((with_reducible refine is_store ?_); refine a_storeA hO ?_; clear hO; intro w hO; go_frame) | ((with_reducible refine is_alloc ?_); refine a_alloc hO ?_; clear hO; intro w b_ hO; go_frame) | ((with_reducible refine is_box ?_); refine a_box hO ?_; clear hO; intro w b_ hO; go_frame) | ((with_reducible refine is_lit ?_); refine a_lit0 hO ?_; clear hO; intro w b_ hl_ hO; go_frame) | ((with_reducible refine is_lit ?_); refine a_lit1 hO ?_; clear hO; intro w b_ hl_ hO; go_frame) | ((with_reducible refine is_lit ?_); refine a_lit2 hO ?_; clear hO; intro w b_ hl_ hO; go_frame) | ((with_reducible refine is_lit ?_); refine a_lit3 hO ?_; clear hO; intro w b_ hl_ hO; go_frame))
      go_at_call 44
      refine (due44 _ _ _).mono ?_
      rintro e w ⟨rfl, rfl⟩
      generalize dueF r.til now = due at *
      cases due
      · go_wp2_with (first | ((with_reducible refine is_load ?_); refine a_load hO ?_; go_frame) | ((with_reducible refine is_load ?_); refine a_loadA hO ?_; go_frame) | ((with_reducible refine is_store ?_); refine a_store hO ?_; clear hO; intro w hO; go_frame) | ((with_reducible refine is_store ?_); refine a_storeA hO ?_; clear hO; intro w hO; go_frame) | ((with_reducible refine is_alloc ?_); refine a_alloc hO ?_; clear hO; intro w b_ hO; go_frame) | ((with_reducible refine is_box ?_); refine a_box hO ?_; clear hO; intro w b_ hO; go_frame) | ((with_reducible refine is_lit ?_); refine a_lit0 hO ?_; clear hO; intro w b_ hl_ hO; go_frame) | ((with_reducible refine is_lit ?_); refine a_lit1 hO ?_; clear hO; intro w b_ hl_ hO; go_frame) | ((with_reducible refine is_lit ?_); refine a_lit2 hO ?_; clear hO; intro w b_ hl_ hO; go_frame) | ((with_reducible refine is_lit ?_); refine a_lit3 hO ?_; clear hO; intro w b_ hl_ hO; go_frame))
        go_at_call 45
        refine (has45 _ _ _ Hs.out Hp.out).mono ?_
        rintro e w ⟨rfl, rfl⟩
        go_wp2_with (first | ((with_reducible refine is_load ?_); refine a_load hO ?_; go_frame) | ((with_reducible refine is_load ?_); refine a_loadA hO ?_; go_frame) | ((with_reducible refine is_store ?_); refine a_store hO ?_; clear hO; intro w hO; go_frame) | ((with_reducible refine is_store ?_); refine a_storeA hO ?_; clear hO; intro w hO; go_frame) | ((with_reducible refine is_alloc ?_); refine a_alloc hO ?_; clear hO; intro w b_ hO; go_frame) | ((with_reducible refine is_box ?_); refine a_box hO ?_; clear hO; intro w b_ hO; go_frame) | ((with_reducible refine is_lit ?_); refine a_lit0 hO ?_; clear hO; intro w b_ hl_ hO; go_frame) | ((with_reducible refine is_lit ?_); refine a_lit1 hO ?_; clear hO; intro w b_ hl_ hO; go_frame) | ((with_reducible refine is_lit ?_); refine a_lit2 hO ?_; clear hO; intro w b_ hl_ hO; go_frame) | ((with_reducible refine is_lit ?_); refine a_lit3 hO ?_; clear hO; intro w b_ hl_ hO; go_frame))
        go_ret
        rw [HF.out, HB.out]
        exact ⟨by simp, hO.drop⟩
      · go_wp2_with (first | ((with_reducible refine is_load ?_); refine a_load hO ?_; go_frame) | ((with_reducible refine is_load ?_); refine a_loadA hO ?_; go_frame) | ((with_reducible refine is_store ?_); refine a_store hO ?_; clear hO; intro w hO; go_frame) | ((with_reducible refine is_store ?_); refine a_storeA hO ?_; clear hO; intro w hO; go_frame) | ((with_reducible refine is_alloc ?_); refine a_alloc hO ?_; clear hO; intro w b_ hO; go_frame) | ((with_reducible refine is_box ?_); refine a_box hO ?_; clear hO; intro w b_ hO; go_frame) | ((with_reducible refine is_lit ?_); refine a_lit0 hO ?_; clear hO; intro w b_ hl_ hO; go_frame) | ((with_reducible refine is_lit ?_); refine a_lit1 hO ?_; clear hO; intro w b_ hl_ hO; go_frame) | ((with_reducible refine is_lit ?_); refine a_lit2 hO ?_; clear hO; intro w b_ hl_ hO; go_frame) | ((with_reducible refine is_lit ?_); refine a_lit3 hO ?_; clear hO; intro w b_ hl_ hO; go_frame))
        go_ret
        rw [HF.out, HB.out]
        exact ⟨by simp, hO.drop⟩
    · have hx : (bits .and .u64 ((m : Int) / 128) 1 == 1) = false := by rw [ha, beq_eq_false_iff_ne]; omega
      have HB : Hid (decide (m / 128 % 2 = 1) = false) := Lib.hid (by simp [hb])
      clear ha hb
      go_wp2_with (first | ((with_reducible refine is_load ?_); refine a_load hO ?_; go_frame) | ((with_reducible refine is_load ?_); refine a_loadA hO ?_; go_frame) | ((with_reducible refine is_store ?_); refine a_store hO ?_; clear hO; intro w hO; go_frame) | ((with_reducible refine is_store ?_); refine a_storeA hO ?_; clear hO; intro w hO; go_frame) | ((with_reducible refine is_alloc ?_); refine a_alloc hO ?_; clear hO; intro w b_ hO; go_frame) | ((with_reducible refine is_box ?_); refine a_box hO ?_; clear hO; intro w b_ hO; go_frame) | ((with_reducible refine is_lit ?_); refine a_lit0 hO ?_; clear hO; intro w b_ hl_ hO; go_frame) | ((with_reducible refine is_lit ?_); refine a_lit1 hO ?_; clear hO; intro w b_ hl_ hO; go_frame) | ((with_reducible refine is_lit ?_); refine a_lit2 hO ?_; clear hO; intro w b_ hl_ hO; go_frame) | ((with_reducible refine is_lit ?_); refine a_lit3 hO ?_; clear hO; intro w b_ hl_ hO; go_frame))
      go_ret
      rw [HF.out, HB.out]
      exact ⟨by simp, hO.drop⟩
  · have hp : 2 ^ Int.toNat 8 = 256 := by decide
    rw [hp] at HF
    clear hp
    have ha : bits .and .u64 ((m : Int) / 256) 1 = (m : Int) / 256 % 2 := by
      have h := bits_and_one (m / 256) (by omega)
      push_cast at h
      exact h
    by_cases hb : m / 256 % 2 = 1
    · have hx : (bits .and .u64 ((m : Int) / 256) 1 == 1) = true := by rw [ha, beq_iff_eq]; omega
      have HB : Hid (decide (m / 256 % 2 = 1) = true) := Lib.hid (by simp [hb])
      clear ha hb
      go_wp2_with (first | ((with_reducible refine is_load ?_); refine a_load hO ?_; go_frame) | ((with_reducible refine is_load ?_); refine a_loadA hO ?_; go_frame) | ((with_reducible refine is_store ?_); refine a_store hO ?_; clear hO; intro w hO; go_frame) | ((with_reducible refine is_store ?_); refine a_storeA hO ?_; clear hO; intro w hO; go_frame) | ((with_reducible refine is_alloc ?_); refine a_alloc hO ?_; clear hO; intro w b_ hO; go_frame) | ((with_reducible refine is_box ?_); refine a_box hO ?_; clear hO; intro w b_ hO; go_frame) | ((with_reducible refine is_lit ?_); refine a_lit0 hO ?_; clear hO; intro w b_ hl_ hO; go_frame) | ((with_reducible refine is_lit ?_); refine a_lit1 hO ?_; clear hO; intro w b_ hl_ hO; go_frame) | ((with_reducible refine is_lit ?_); refine a_lit2 hO ?_; clear hO; intro w b_ hl_ hO; go_frame) | ((with_reducible refine is_lit ?_); refine a_lit3 hO ?_; clear hO; intro w b_ hl_ hO; go_frame))
      go_at_call 44
      refine (due44 _ _ _).mono ?_
      rintro e w ⟨rfl, rfl⟩
      generalize dueF r.til now = due at *
      cases due
      · go_wp2_with (first | ((with_reducible refine is_load ?_); refine a_load hO ?_; go_frame) | ((with_reducible refine is_load ?_); refine a_loadA hO ?_; go_frame) | ((with_reducible refine is_store ?_); refine a_store hO ?_; clear hO; intro w hO; go_frame) | ((with_reducible refine is_store ?_); refine a_storeA hO ?_; clear hO; intro w hO; go_frame) | ((with_reducible refine is_alloc ?_); refine a_alloc hO ?_; clear hO; intro w b_ hO; go_frame) | ((with_reducible refine is_box ?_); refine a_box hO ?_; clear hO; intro w b_ hO; go_frame) | ((with_reducible refine is_lit ?_); refine a_lit0 hO ?_; clear hO; intro w b_ hl_ hO; go_frame) | ((with_reducible refine is_lit ?_); refine a_lit1 hO ?_; clear hO; intro w b_ hl_ hO; go_frame) | ((with_reducible refine is_lit ?_); refine a_lit2 hO ?_; clear hO; intro w b_ hl_ hO; go_frame) | ((with_reducible refine is_lit ?_); refine a_lit3 hO ?_; clear hO; intro w b_ hl_ hO; go_frame))
        go_at_call 45
        refine (has45 _ _ _ Hs.out Hp.out).mono ?_
        rintro e w ⟨rfl, rfl⟩
        go_wp2_with (first | ((with_reducible refine is_load ?_); refine a_load hO ?_; go_frame) | ((with_reducible refine is_load ?_); refine a_loadA hO ?_; go_frame) | ((with_reducible refine is_store ?_); refine a_store hO ?_; clear hO; intro w hO; go_frame) | ((with_reducible refine is_store ?_); refine a_storeA hO ?_; clear hO; intro w hO; go_frame) | ((with_reducible refine is_alloc ?_); refine a_alloc hO ?_; clear hO; intro w b_ hO; go_frame) | ((with_reducible refine is_box ?_); refine a_box hO ?_; clear hO; intro w b_ hO; go_frame) | ((with_reducible refine is_lit ?_); refine a_lit0 hO ?_; clear hO; intro w b_ hl_ hO; go_frame) | ((with_reducible refine is_lit ?_); refine a_lit1 hO ?_; clear hO; intro w b_ hl_ hO; go_frame) | ((with_reducible refine is_lit ?_); refine a_lit2 hO ?_; clear hO; intro w b_ hl_ hO; go_frame) | ((with_reducible refine is_lit ?_); refine a_lit3 hO ?_; clear hO; intro w b_ hl_ hO; go_frame))
        go_ret
        rw [HF.out, HB.out]
        exact ⟨by simp, hO.drop⟩
      · go_wp2_with (first | ((with_reducible refine is_load ?_); refine a_load hO ?_; go_frame) | ((with_reducible refine is_load ?_); refine a_loadA hO ?_; go_frame) | ((with_reducible refine is_store ?_); refine a_store hO ?_; clear hO; intro w hO; go_frame) | ((with_reducible refine is_store ?_); refine a_storeA hO ?_; clear hO; intro w hO; go_frame) | ((with_reducible refine is_alloc ?_); refine a_alloc hO ?_; clear hO; intro w b_ hO; go_frame) | ((with_reducible refine is_box ?_); refine a_box hO ?_; clear hO; intro w b_ hO; go_frame) | ((with_reducible refine is_lit ?_); refine a_lit0 hO ?_; clear hO; intro w b_ hl_ hO; go_frame) | ((with_reducible refine is_lit ?_); refine a_lit1 hO ?_; clear hO; intro w b_ hl_ hO; go_frame) | ((with_reducible refine is_lit ?_); refine a_lit2 hO ?_; clear hO; intro w b_ hl_ hO; go_frame) | ((with_reducible refine is_lit ?_); refine a_lit3 hO ?_; clear hO; intro w b_ hl_ hO; go_frame))
        go_ret
        rw [HF.out, HB.out]
        exact ⟨by simp, hO.drop⟩
    · have hx : (bits .and .u64 ((m : Int) / 256) 1 == 1) = false := by rw [ha, beq_eq_false_iff_ne]; omega
      have HB : Hid (decide (m / 256 % 2 = 1) = false) := Lib.hid (by simp [hb])
      clear ha hb
      go_wp2_with (first | ((with_reducible refine is_load ?_); refine a_load hO ?_; go_frame) | ((with_reducible refine is_load ?_); refine a_loadA hO ?_; go_frame) | ((with_reducible refine is_store ?_); refine a_store hO ?_; clear hO; intro w hO; go_frame) | ((with_reducible refine is_store ?_); refine a_storeA hO ?_; clear hO; intro w hO; go_frame) | ((with_reducible refine is_alloc ?_); refine a_alloc hO ?_; clear hO; intro w b_ hO; go_frame) | ((with_reducible refine is_box ?_); refine a_box hO ?_; clear hO; intro w b_ hO; go_frame) | ((with_reducible refine is_lit ?_); refine a_lit0 hO ?_; clear hO; intro w b_ hl_ hO; go_frame) | ((with_reducible refine is_lit ?_); refine a_lit1 hO ?_; clear hO; intro w b_ hl_ hO; go_frame) | ((with_reducible refine is_lit ?_); refine a_lit2 hO ?_; clear hO; intro w b_ hl_ hO; go_frame) | ((with_reducible refine is_lit ?_); refine a_lit3 hO ?_; clear hO; intro w b_ hl_ hO; go_frame))
      go_ret
      rw [HF.out, HB.out]
      exact ⟨by simp, hO.drop⟩
  · have hp : 2 ^ Int.toNat 9 = 512 := by decide
    rw [hp] at HF
    clear hp
    have ha : bits .and .u64 ((m : Int) / 512) 1 = (m : Int) / 512 % 2 := by
      have h := bits_and_one (m / 512) (by omega)
      push_cast at h
      exact h
    by_cases hb : m / 512 % 2 = 1
    · have hx : (bits .and .u64 ((m : Int) / 512) 1 == 1) = true := by rw [ha, beq_iff_eq]; omega
      have HB : Hid (decide (m / 512 % 2 = 1) = true) := Lib.hid (by simp [hb])
      clear ha hb
      go_wp2_with (first | ((with_reducible refine is_load ?_); refine a_load hO ?_; go_frame) | ((with_reducible refine is_load ?_); refine a_loadA hO ?_; go_frame) | ((with_reducible refine is_store ?_); refine a_store hO ?_; clear hO; intro w hO; go_frame) | ((with_reducible refine is_store ?_); refine a_storeA hO ?_; clear hO; intro w hO; go_frame) | ((with_reducible refine is_alloc ?_); refine a_alloc hO ?_; clear hO; intro w b_ hO; go_frame) | ((with_reducible refine is_box ?_); refine a_box hO ?_; clear hO; intro w b_ hO; go_frame) | ((with_reducible refine is_lit ?_); refine a_lit0 hO ?_; clear hO; intro w b_ hl_ hO; go_frame) | ((with_reducible refine is_lit ?_); refine a_lit1 hO ?_; clear hO; intro w b_ hl_ hO; go_frame) | ((with_reducible refine is_lit ?_); refine a_lit2 hO ?_; clear hO; intro w b_ hl_ hO; go_frame) | ((with_reducible refine is_lit ?_); refine a_lit3 hO ?_; clear hO; intro w b_ hl_ hO; go_frame))
      go_at_call 44
      refine (due44 _ _ _).mono ?_
      rintro e w ⟨rfl, rfl⟩
      generalize dueF r.til now = due at *
      cases due
      · go_wp2_with (first | ((with_reducible refine is_load ?_); refine a_load hO ?_; go_frame) | ((with_reducible refine is_load ?_); refine a_loadA hO ?_; go_frame) | ((with_reducible refine is_store ?_); refine a_store hO ?_; clear hO; intro w hO; go_frame) | ((with_reducible refine is_store ?_); refine a_storeA hO ?_; clear hO; intro w hO; go_frame) | ((with_reducible refine is_alloc ?_); refine a_alloc hO ?_; clear hO; intro w b_ hO; go_frame) | ((with_reducible refine is_box ?_); refine a_box hO ?_; clear hO; intro w b_ hO; go_frame) | ((with_reducible refine is_lit ?_); refine a_lit0 hO ?_; clear hO; intro w b_ hl_ hO; go_frame) | ((with_reducible refine is_lit ?_); refine a_lit1 hO ?_; clear hO; intro w b_ hl_ hO; go_frame) | ((with_reducible refine is_lit ?_); refine a_lit2 hO ?_; clear hO; intro w b_ hl_ hO; go_frame) | ((with_reducible refine is_lit ?_); refine a_lit3 hO ?_; clear hO; intro w b_ hl_ hO; go_frame))
        go_at_call 45
        refine (has45 _ _ _ Hs.out Hp.out).mono ?_
        rintro e w ⟨rfl, rfl⟩
        go_wp2_with (first | ((with_reducible refine is_load ?_); refine a_load hO ?_; go_frame) | ((with_reducible refine is_load ?_); refine a_loadA hO ?_; go_frame) | ((with_reducible refine is_store ?_); refine a_store hO ?_; clear hO; intro w hO; go_frame) | ((with_reducible refine is_store ?_); refine a_storeA hO ?_; clear hO; intro w hO; go_frame) | ((with_reducible refine is_alloc ?_); refine a_alloc hO ?_; clear hO; intro w b_ hO; go_frame) | ((with_reducible refine is_box ?_); refine a_box hO ?_; clear hO; intro w b_ hO; go_frame) | ((with_reducible refine is_lit ?_); refine a_lit0 hO ?_; clear hO; intro w b_ hl_ hO; go_frame) | ((with_reducible refine is_lit ?_); refine a_lit1 hO ?_; clear hO; intro w b_ hl_ hO; go_frame) | ((with_reducible refine is_lit ?_); refine a_lit2 hO ?_; clear hO; intro w b_ hl_ hO; go_frame) | ((with_reducible refine is_lit ?_); refine a_lit3 hO ?_; clear hO; intro w b_ hl_ hO; go_frame))
        go_ret
        rw [HF.out, HB.out]
        exact ⟨by simp, hO.drop⟩
      · go_wp2_with (first | ((with_reducible refine is_load ?_); refine a_load hO ?_; go_frame) | ((with_reducible refine is_load ?_); refine a_loadA hO ?_; go_frame) | ((with_reducible refine is_store ?_); refine a_store hO ?_; clear hO; intro w hO; go_frame) | ((with_reducible refine is_store ?_); refine a_storeA hO ?_; clear hO; intro w hO; go_frame) | ((with_reducible refine is_alloc ?_); refine a_alloc hO ?_; clear hO; intro w b_ hO; go_frame) | ((with_reducible refine is_box ?_); refine a_box hO ?_; clear hO; intro w b_ hO; go_frame) | ((with_reducible refine is_lit ?_); refine a_lit0 hO ?_; clear hO; intro w b_ hl_ hO; go_frame) | ((with_reducible refine is_lit ?_); refine a_lit1 hO ?_; clear hO; intro w b_ hl_ hO; go_frame) | ((with_reducible refine is_lit ?_); refine a_lit2 hO ?_; clear hO; intro w b_ hl_ hO; go_frame) | ((with_reducible refine is_lit ?_); refine a_lit3 hO ?_; clear hO; intro w b_ hl_ hO; go_frame))
        go_ret
        rw [HF.out, HB.out]
        exact ⟨by simp, hO.drop⟩
    · have hx : (bits .and .u64 ((m : Int) / 512) 1 == 1) = false := by rw [ha, beq_eq_false_iff_ne]; omega
      have HB : Hid (decide (m / 512 % 2 = 1) = false) := Lib.hid (by simp [hb])
      clear ha hb
      go_wp2_with (first | ((with_reducible refine is_load ?_); refine a_load hO ?_; go_frame) | ((with_reducible refine is_load ?_); refine a_loadA hO ?_; go_frame) | ((with_reducible refine is_store ?_); refine a_store hO ?_; clear hO; intro w hO; go_frame) | ((with_reducible refine is_store ?_); refine a_storeA hO ?_; clear hO; intro w hO; go_frame) | ((with_reducible refine is_alloc ?_); refine a_alloc hO ?_; clear hO; intro w b_ hO; go_frame) | ((with_reducible refine is_box ?_); refine a_box hO ?_; clear hO; intro w b_ hO; go_frame) | ((with_reducible refine is_lit ?_); refine a_lit0 hO ?_; clear hO; intro w b_ hl_ hO; go_frame) | ((with_reducible refine is_lit ?_); refine a_lit1 hO ?_; clear hO; intro w b_ hl_ hO; go_frame) | ((with_reducible refine is_lit ?_); refine a_lit2 hO ?_; clear hO; intro w b_ hl_ hO; go_frame) | ((with_reducible refine is_lit ?_); refine a_lit3 hO ?_; clear hO; intro w b_ hl_ hO; go_frame))
      go_ret
      rw [HF.out, HB.out]
      exact ⟨by simp, hO.drop⟩
  · have hp : 2 ^ Int.toNat 10 = 1024 := by decide
    rw [hp] at HF
    clear hp
    have ha : bits .and .u64 ((m : Int) / 1024) 1 = (m : Int) / 1024 % 2 := by
      have h := bits_and_one (m / 1024) (by omega)
      push_cast at h
      exact h
    by_cases hb : m / 1024 % 2 = 1
    · have hx : (bits .and .u64 ((m : Int) / 1024) 1 == 1) = true := by rw [ha, beq_iff_eq]; omega
      have HB : Hid (decide (m / 1024 % 2 = 1) = true) := Lib.hid (by simp [hb])
      clear ha hb
      go_wp2_with (first | ((with_reducible refine is_load ?_); refine a_load hO ?_; go_frame) | ((with_reducible refine is_load ?_); refine a_loadA hO ?_; go_frame) | ((with_reducible refine is_store ?_); refine a_store hO ?_; clear hO; intro w hO; go_frame) | ((with_reducible refine is_store ?_); refine a_storeA hO ?_; clear hO; intro w hO; go_frame) | ((with_reducible refine is_alloc ?_); refine a_alloc hO ?_; clear hO; intro w b_ hO; go_frame) | ((with_reducible refine is_box ?_); refine a_box hO ?_; clear hO; intro w b_ hO; go_frame) | ((with_reducible refine is_lit ?_); refine a_lit0 hO ?_; clear hO; intro w b_ hl_ hO; go_frame) | ((with_reducible refine is_lit ?_); refine a_lit1 hO ?_; clear hO; intro w b_ hl_ hO; go_frame) | ((with_reducible refine is_lit ?_); refine a_lit2 hO ?_; clear hO; intro w b_ hl_ hO; go_frame) | ((with_reducible refine is_lit ?_); refine a_lit3 hO ?_; clear hO; intro w b_ hl_ hO; go_frame))
      go_at_call 44
      refine (due44 _ _ _).mono ?_
      rintro e w ⟨rfl, rfl⟩
      generalize dueF r.til now = due at *
      cases due
      · go_wp2_with (first | ((with_reducible refine is_load ?_); refine a_load hO ?_; go_frame) | ((with_reducible refine is_load ?_); refine a_loadA hO ?_; go_frame) | ((with_reducible refine is_store ?_); refine a_store hO ?_; clear hO; intro w hO; go_frame) | ((with_reducible refine is_store ?_); refine a_storeA hO ?_; clear hO; intro w hO; go_frame) | ((with_reducible refine is_alloc ?_); refine a_alloc hO ?_; clear hO; intro w b_ hO; go_frame) | ((with_reducible refine is_box ?_); refine a_box hO ?_; clear hO; intro w b_ hO; go_frame) | ((with_reducible refine is_lit ?_); refine a_lit0 hO ?_; clear hO; intro w b_ hl_ hO; go_frame) | ((with_reducible refine is_lit ?_); refine a_lit1 hO ?_; clear hO; intro w b_ hl_ hO; go_frame) | ((with_reducible refine is_lit ?_); refine a_lit2 hO ?_; clear hO; intro w b_ hl_ hO; go_frame) | ((with_reducible refine is_lit ?_); refine a_lit3 hO ?_; clear hO; intro w b_ hl_ hO; go_frame))
        go_at_call 45
        refine (has45 _ _ _ Hs.out Hp.out).mono ?_
        rintro e w ⟨rfl, rfl⟩
        go_wp2_with (first | ((with_reducible refine is_load ?_); refine a_load hO ?_; go_frame) | ((with_reducible refine is_load ?_); refine a_loadA hO ?_; go_frame) | ((with_reducible refine is_store ?_); refine a_store hO ?_; clear hO; intro w hO; go_frame) | ((with_reducible refine is_store ?_); refine a_storeA hO ?_; clear hO; intro w hO; go_frame) | ((with_reducible refine is_alloc ?_); refine a_alloc hO ?_; clear hO; intro w b_ hO; go_frame) | ((with_reducible refine is_box ?_); refine a_box hO ?_; clear hO; intro w b_ hO; go_frame) | ((with_reducible refine is_lit ?_); refine a_lit0 hO ?_; clear hO; intro w b_ hl_ hO; go_frame) | ((with_reducible refine is_lit ?_); refine a_lit1 hO ?_; clear hO; intro w b_ hl_ hO; go_frame) | ((with_reducible refine is_lit ?_); refine a_lit2 hO ?_; clear hO; intro w b_ hl_ hO; go_frame) | ((with_reducible refine is_lit ?_); refine a_lit3 hO ?_; clear hO; intro w b_ hl_ hO; go_frame))
        go_ret
        rw [HF.out, HB.out]
        exact ⟨by simp, hO.drop⟩
      · go_wp2_with (first | ((with_reducible refine is_load ?_); refine a_load hO ?_; go_frame) | ((with_reducible refine is_load ?_); refine a_loadA hO ?_; go_frame) | ((with_reducible refine is_store ?_); refine a_store hO ?_; clear hO; intro w hO; go_frame) | ((with_reducible refine is_store ?_); refine a_storeA hO ?_; clear hO; intro w hO; go_frame) | ((with_reducible refine is_alloc ?_); refine a_alloc hO ?_; clear hO; intro w b_ hO; go_frame) | ((with_reducible refine is_box ?_); refine a_box hO ?_; clear hO; intro w b_ hO; go_frame) | ((with_reducible refine is_lit ?_); refine a_lit0 hO ?_; clear hO; intro w b_ hl_ hO; go_frame) | ((with_reducible refine is_lit ?_); refine a_lit1 hO ?_; clear hO; intro w b_ hl_ hO; go_frame) | ((with_reducible refine is_lit ?_); refine a_lit2 hO ?_; clear hO; intro w b_ hl_ hO; go_frame) | ((with_reducible refine is_lit ?_); refine a_lit3 hO ?_; clear hO; intro w b_ hl_ hO; go_frame))
        go_ret
        rw [HF.out, HB.out]
        exact ⟨by simp, hO.drop⟩
    · have hx : (bits .and .u64 ((m : Int) / 1024) 1 == 1) = false := by rw [ha, beq_eq_false_iff_ne]; omega
      have HB : Hid (decide (m / 1024 % 2 = 1) = false) := Lib.hid (by simp [hb])
      clear ha hb
      go_wp2_with (first | ((with_reducible refine is_load ?_); refine a_load hO ?_; go_frame) | ((with_reducible refine is_load ?_); refine a_loadA hO ?_; go_frame) | ((with_reducible refine is_store ?_); refine a_store hO ?_; clear hO; intro w hO; go_frame) | ((with_reducible refine is_store ?_); refine a_storeA hO ?_; clear hO; intro w hO; go_frame) | ((with_reducible refine is_alloc ?_); refine a_alloc hO ?_; clear hO; intro w b_ hO; go_frame) | ((with_reducible refine is_box ?_); refine a_box hO ?_; clear hO; intro w b_ hO; go_frame) | ((with_reducible refine is_lit ?_); refine a_lit0 hO ?_; clear hO; intro w b_ hl_ hO; go_frame) | ((with_reducible refine is_lit ?_); refine a_lit1 hO ?_; clear hO; intro w b_ hl_ hO; go_frame) | ((with_reducible refine is_lit ?_); refine a_lit2 hO ?_; clear hO; intro w b_ hl_ hO; go_frame) | ((with_reducible refine is_lit ?_); refine a_lit3 hO ?_; clear hO; intro w b_ hl_ hO; go_frame))
      go_ret
      rw [HF.out, HB.out]
      exact ⟨by simp, hO.drop⟩
  · have hp : 2 ^ Int.toNat 11 = 2048 := by decide
    rw [hp] at HF
    clear hp
    have ha : bits .and .u64 ((m : Int) / 2048) 1 = (m : Int) / 2048 % 2 := by
      have h := bits_and_one (m / 2048) (by omega)
      push_cast at h
      exact h
    by_cases hb : m / 2048 % 2 = 1
    · have hx : (bits .and .u64 ((m : Int) / 2048) 1 == 1) = true := by rw [ha, beq_iff_eq]; omega
      have HB : Hid (decide (m / 2048 % 2 = 1) = true) := Lib.hid (by simp [hb])
      clear ha hb
      go_wp2_with (first | ((with_reducible refine is_load ?_); refine a_load hO ?_; go_frame) | ((with_reducible refine is_load ?_); refine a_loadA hO ?_; go_frame) | ((with_reducible refine is_store ?_); refine a_store hO ?_; clear hO; intro w hO; go_frame) | ((with_reducible refine is_store ?_); refine a_storeA hO ?_; clear hO; intro w hO; go_frame) | ((with_reducible refine is_alloc ?_); refine a_alloc hO ?_; clear hO; intro w b_ hO; go_frame) | ((with_reducible refine is_box ?_); refine a_box hO ?_; clear hO; intro w b_ hO; go_frame) | ((with_reducible refine is_lit ?_); refine a_lit0 hO ?_; clear hO; intro w b_ hl_ hO; go_frame) | ((with_reducible refine is_lit ?_); refine a_lit1 hO ?_; clear hO; intro w b_ hl_ hO; go_frame) | ((with_reducible refine is_lit ?_); refine a_lit2 hO ?_; clear hO; intro w b_ hl_ hO; go_frame) | ((with_reducible refine is_lit ?_); refine a_lit3 hO ?_; clear hO; intro w b_ hl_ hO; go_frame))
      go_at_call 44
      refine (due44 _ _ _).mono ?_
      rintro e w ⟨rfl, rfl⟩
      generalize dueF r.til now = due at *
      cases due
      · go_wp2_with (first | ((with_reducible refine is_load ?_); refine a_load hO ?_; go_frame) | ((with_reducible refine is_load ?_); refine a_loadA hO ?_; go_frame) | ((with_reducible refine is_store ?_); refine a_store hO ?_; clear hO; intro w hO; go_frame) | ((with_reducible refine is_store ?_); refine a_storeA hO ?_; clear hO; intro w hO; go_frame) | ((with_reducible refine is_alloc ?_); refine a_alloc hO ?_; clear hO; intro w b_ hO; go_frame) | ((with_reducible refine is_box ?_); refine a_box hO ?_; clear hO; intro w b_ hO; go_frame) | ((with_reducible refine is_lit ?_); refine a_lit0 hO ?_; clear hO; intro w b_ hl_ hO; go_frame) | ((with_reducible refine is_lit ?_); refine a_lit1 hO ?_; clear hO; intro w b_ hl_ hO; go_frame) | ((with_reducible refine is_lit ?_); refine a_lit2 hO ?_; clear hO; intro w b_ hl_ hO; go_frame) | ((with_reducible refine is_lit ?_); refine a_lit3 hO ?_; clear hO; intro w b_ hl_ hO; go_frame))
        go_at_call 45
        refine (has45 _ _ _ Hs.out Hp.out).mono ?_
        rintro e w ⟨rfl, rfl⟩
        go_wp2_with (first | ((with_reducible refine is_load ?_); refine a_load hO ?_; go_frame) | ((with_reducible refine is_load ?_); refine a_loadA hO ?_; go_frame) | ((with_reducible refine is_store ?_); refine a_store hO ?_; clear hO; intro w hO; go_frame) | ((with_reducible refine is_store ?_); refine a_storeA hO ?_; clear hO; intro w hO; go_frame) | ((with_reducible refine is_alloc ?_); refine a_alloc hO ?_; clear hO; intro w b_ hO; go_frame) | ((with_reducible refine is_box ?_); refine a_box hO ?_; clear hO; intro w b_ hO; go_frame) | ((with_reducible refine is_lit ?_); refine a_lit0 hO ?_; clear hO; intro w b_ hl_ hO; go_frame) | ((with_reducible refine is_lit ?_); refine a_lit1 hO ?_; clear hO; intro w b_ hl_ hO; go_frame) | ((with_reducible refine is_lit ?_); refine a_lit2 hO ?_; clear hO; intro w b_ hl_ hO; go_frame) | ((with_reducible refine is_lit ?_); refine a_lit3 hO ?_; clear hO; intro w b_ hl_ hO; go_frame))
        go_ret
        rw [HF.out, HB.out]
        exact ⟨by simp, hO.drop⟩
      · go_wp2_with (first | ((with_reducible refine is_load ?_); refine a_load hO ?_; go_frame) | ((with_reducible refine is_load ?_); refine a_loadA hO ?_; go_frame) | ((with_reducible refine is_store ?_); refine a_store hO ?_; clear hO; intro w hO; go_frame) | ((with_reducible refine is_store ?_); refine a_storeA hO ?_; clear hO; intro w hO; go_frame) | ((with_reducible refine is_alloc ?_); refine a_alloc hO ?_; clear hO; intro w b_ hO; go_frame) | ((with_reducible refine is_box ?_); refine a_box hO ?_; clear hO; intro w b_ hO; go_frame) | ((with_reducible refine is_lit ?_); refine a_lit0 hO ?_; clear hO; intro w b_ hl_ hO; go_frame) | ((with_reducible refine is_lit ?_); refine a_lit1 hO ?_; clear hO; intro w b_ hl_ hO; go_frame) | ((with_reducible refine is_lit ?_); refine a_lit2 hO ?_; clear hO; intro w b_ hl_ hO; go_frame) | ((with_reducible refine is_lit ?_); refine a_lit3 hO ?_; clear hO; intro w b_ hl_ hO; go_frame))
        go_ret
        rw [HF.out, HB.out]
        exact ⟨by simp, hO.drop⟩
    · have hx : (bits .and .u64 ((m : Int) / 2048) 1 == 1) = false := by rw [ha, beq_eq_false_iff_ne]; omega
      have HB : Hid (decide (m / 2048 % 2 = 1) = false) := Lib.hid (by simp [hb])
      clear ha hb
      go_wp2_with (first | ((with_reducible refine is_load ?_); refine a_load hO ?_; go_frame) | ((with_reducible refine is_load ?_); refine a_loadA hO ?_; go_frame) | ((with_reducible refine is_store ?_); refine a_store hO ?_; clear hO; intro w hO; go_frame) | ((with_reducible refine is_store ?_); refine a_storeA hO ?_; clear hO; intro w hO; go_frame) | ((with_reducible refine is_alloc ?_); refine a_alloc hO ?_; clear hO; intro w b_ hO; go_frame) | ((with_reducible refine is_box ?_); refine a_box hO ?_; clear hO; intro w b_ hO; go_frame) | ((with_reducible refine is_lit ?_); refine a_lit0 hO ?_; clear hO; intro w b_ hl_ hO; go_frame) | ((with_reducible refine is_lit ?_); refine a_lit1 hO ?_; clear hO; intro w b_ hl_ hO; go_frame) | ((with_reducible refine is_lit ?_); refine a_lit2 hO ?_; clear hO; intro w b_ hl_ hO; go_frame) | ((with_reducible refine is_lit ?_); refine a_lit3 hO ?_; clear hO; intro w b_ hl_ hO; go_frame))
      go_ret
      rw [HF.out, HB.out]
      exact ⟨by simp, hO.drop⟩
  · have hp : 2 ^ Int.toNat 12 = 4096 := by decide
    rw [hp] at HF
    clear hp
    have ha : bits .and .u64 ((m : Int) / 4096) 1 = (m : Int) / 4096 % 2 := by
      have h := bits_and_one (m / 4096) (by omega)
      push_cast at h
      exact h
    by_cases hb : m / 4096 % 2 = 1
    · have hx : (bits .and .u64 ((m : Int) / 4096) 1 == 1) = true := by rw [ha, beq_iff_eq]; omega
      have HB : Hid (decide (m / 4096 % 2 = 1) = true) := Lib.hid (by simp [hb])
      clear ha hb
      go_wp2_with (first | ((with_reducible refine is_load ?_); refine a_load hO ?_; go_frame) | ((with_reducible refine is_load ?_); refine a_loadA hO ?_; go_frame) | ((with_reducible refine is_store ?_); refine a_store hO ?_; clear hO; intro w hO; go_frame) | ((with_reducible refine is_store ?_); refine a_storeA hO ?_; clear hO; intro w hO; go_frame) | ((with_reducible refine is_alloc ?_); refine a_alloc hO ?_; clear hO; intro w b_ hO; go_frame) | ((with_reducible refine is_box ?_); refine a_box hO ?_; clear hO; intro w b_ hO; go_frame) | ((with_reducible refine is_lit ?_); refine a_lit0 hO ?_; clear hO; intro w b_ hl_ hO; go_frame) | ((with_reducible refine is_lit ?_); refine a_lit1 hO ?_; clear hO; intro w b_ hl_ hO; go_frame) | ((with_reducible refine is_lit ?_); refine a_lit2 hO ?_; clear hO; intro w b_ hl_ hO; go_frame) | ((with_reducible refine is_lit ?_); refine a_lit3 hO ?_; clear hO; intro w b_ hl_ hO; go_frame))
      go_at_call 44
      refine (due44 _ _ _).mono ?_
      rintro e w ⟨rfl, rfl⟩
      generalize dueF r.til now = due at *
      cases due
      · go_wp2_with (first | ((with_reducible refine is_load ?_); refine a_load hO ?_; go_frame) | ((with_reducible refine is_load ?_); refine a_loadA hO ?_; go_frame) | ((with_reducible refine is_store ?_); refine a_store hO ?_; clear hO; intro w hO; go_frame) | ((with_reducible refine is_store ?_); refine a_storeA hO ?_; clear hO; intro w hO; go_frame) | ((with_reducible refine is_alloc ?_); refine a_alloc hO ?_; clear hO; intro w b_ hO; go_frame) | ((with_reducible refine is_box ?_); refine a_box hO ?_; clear hO; intro w b_ hO; go_frame) | ((with_reducible refine is_lit ?_); refine a_lit0 hO ?_; clear hO; intro w b_ hl_ hO; go_frame) | ((with_reducible refine is_lit ?_); refine a_lit1 hO ?_; clear hO; intro w b_ hl_ hO; go_frame) | ((with_reducible refine is_lit ?_); refine a_lit2 hO ?_; clear hO; intro w b_ hl_ hO; go_frame) | ((with_reducible refine is_lit ?_); refine a_lit3 hO ?_; clear hO; intro w b_ hl_ hO; go_frame))
        go_at_call 45
        refine (has45 _ _ _ Hs.out Hp.out).mono ?_
        rintro e w ⟨rfl, rfl⟩
        go_wp2_with (first | ((with_reducible refine is_load ?_); refine a_load hO ?_; go_frame) | ((with_reducible refine is_load ?_); refine a_loadA hO ?_; go_frame) | ((with_reducible refine is_store ?_); refine a_store hO ?_; clear hO; intro w hO; go_frame) | ((with_reducible refine is_store ?_); refine a_storeA hO ?_; clear hO; intro w hO; go_frame) | ((with_reducible refine is_alloc ?_); refine a_alloc hO ?_; clear hO; intro w b_ hO; go_frame) | ((with_reducible refine is_box ?_); refine a_box hO ?_; clear hO; intro w b_ hO; go_frame) | ((with_reducible refine is_lit ?_); refine a_lit0 hO ?_; clear hO; intro w b_ hl_ hO; go_frame) | ((with_reducible refine is_lit ?_); refine a_lit1 hO ?_; clear hO; intro w b_ hl_ hO; go_frame) | ((with_reducible refine is_lit ?_); refine a_lit2 hO ?_; clear hO; intro w b_ hl_ hO; go_frame) | ((with_reducible refine is_lit ?_); refine a_lit3 hO ?_; clear hO; intro w b_ hl_ hO; go_frame))
        go_ret
        rw [HF.out, HB.out]
        exact ⟨by simp, hO.drop⟩
      · go_wp2_with (first | ((with_reducible refine is_load ?_); refine a_load hO ?_; go_frame) | ((with_reducible refine is_load ?_); refine a_loadA hO ?_; go_frame) | ((with_reducible refine is_store ?_); refine a_store hO ?_; clear hO; intro w hO; go_frame) | ((with_reducible refine is_store ?_); refine a_storeA hO ?_; clear hO; intro w hO; go_frame) | ((with_reducible refine is_alloc ?_); refine a_alloc hO ?_; clear hO; intro w b_ hO; go_frame) | ((with_reducible refine is_box ?_); refine a_box hO ?_; clear hO; intro w b_ hO; go_frame) | ((with_reducible refine is_lit ?_); refine a_lit0 hO ?_; clear hO; intro w b_ hl_ hO; go_frame) | ((with_reducible refine is_lit ?_); refine a_lit1 hO ?_; clear hO; intro w b_ hl_ hO; go_frame) | ((with_reducible refine is_lit ?_); refine a_lit2 hO ?_; clear hO; intro w b_ hl_ hO; go_frame) | ((with_reducible refine is_lit ?_); refine a_lit3 hO ?_; clear hO; intro w b_ hl_ hO; go_frame))
        go_ret
        rw [HF.out, HB.out]
        exact ⟨by simp, hO.drop⟩
    · have hx : (bits .and .u64 ((m : Int) / 4096) 1 == 1) = false := by rw [ha, beq_eq_false_iff_ne]; omega
      have HB : Hid (decide (m / 4096 % 2 = 1) = false) := Lib.hid (by simp [hb])
      clear ha hb
      go_wp2_with (first | ((with_reducible refine is_load ?_); refine a_load hO ?_; go_frame) | ((with_reducible refine is_load ?_); refine a_loadA hO ?_; go_frame) | ((with_reducible refine is_store ?_); refine a_store hO ?_; clear hO; intro w hO; go_frame) | ((with_reducible refine is_store ?_); refine a_storeA hO ?_; clear hO; intro w hO; go_frame) | ((with_reducible refine is_alloc ?_); refine a_alloc hO ?_; clear hO; intro w b_ hO; go_frame) | ((with_reducible refine is_box ?_); refine a_box hO ?_; clear hO; intro w b_ hO; go_frame) | ((with_reducible refine is_lit ?_); refine a_lit0 hO ?_; clear hO; intro w b_ hl_ hO; go_frame) | ((with_reducible refine is_lit ?_); refine a_lit1 hO ?_; clear hO; intro w b_ hl_ hO; go_frame) | ((with_reducible refine is_lit ?_); refine a_lit2 hO ?_; clear hO; intro w b_ hl_ hO; go_frame) | ((with_reducible refine is_lit ?_); refine a_lit3 hO ?_; clear hO; intro w b_ hl_ hO; go_frame))
      go_ret
      rw [HF.out, HB.out]
      exact ⟨by simp, hO.drop⟩
  · have hp : 2 ^ Int.toNat 13 = 8192 := by decide
    rw [hp] at HF
    clear hp
    have ha : bits .and .u64 ((m : Int) / 8192) 1 = (m : Int) / 8192 % 2 := by
      have h := bits_and_one (m / 8192) (by omega)
      push_cast at h
      exact h
    by_cases hb : m / 8192 % 2 = 1
    · have hx : (bits .and .u64 ((m : Int) / 8192) 1 == 1) = true := by rw [ha, beq_iff_eq]; omega
      have HB : Hid (decide (m / 8192 % 2 = 1) = true) := Lib.hid (by simp [hb])
      clear ha hb
      go_wp2_with (first | ((with_reducible refine is_load ?_); refine a_load hO ?_; go_frame) | ((with_reducible refine is_load ?_); refine a_loadA hO ?_; go_frame) | ((with_reducible refine is_store ?_); refine a_store hO ?_; clear hO; intro w hO; go_frame) | ((with_reducible refine is_store ?_); refine a_storeA hO ?_; clear hO; intro w hO; go_frame) | ((with_reducible refine is_alloc ?_); refine a_alloc hO ?_; clear hO; intro w b_ hO; go_frame) | ((with_reducible refine is_box ?_); refine a_box hO ?_; clear hO; intro w b_ hO; go_frame) | ((with_reducible refine is_lit ?_); refine a_lit0 hO ?_; clear hO; intro w b_ hl_ hO; go_frame) | ((with_reducible refine is_lit ?_); refine a_lit1 hO ?_; clear hO; intro w b_ hl_ hO; go_frame) | ((with_reducible refine is_lit ?_); refine a_lit2 hO ?_; clear hO; intro w b_ hl_ hO; go_frame) | ((with_reducible refine is_lit ?_); refine a_lit3 hO ?_; clear hO; intro w b_ hl_ hO; go_frame))
      go_at_call 44
      refine (due44 _ _ _).mono ?_
      rintro e w ⟨rfl, rfl⟩
      generalize dueF r.til now = due at *
      cases due
      · go_wp2_with (first | ((with_reducible refine is_load ?_); refine a_load hO ?_; go_frame) | ((with_reducible refine is_load ?_); refine a_loadA hO ?_; go_frame) | ((with_reducible refine is_store ?_); refine a_store hO ?_; clear hO; intro w hO; go_frame) | ((with_reducible refine is_store ?_); refine a_storeA hO ?_; clear hO; intro w hO; go_frame) | ((with_reducible refine is_alloc ?_); refine a_alloc hO ?_; clear hO; intro w b_ hO; go_frame) | ((with_reducible refine is_box ?_); refine a_box hO ?_; clear hO; intro w b_ hO; go_frame) | ((with_reducible refine is_lit ?_); refine a_lit0 hO ?_; clear hO; intro w b_ hl_ hO; go_frame) | ((with_reducible refine is_lit ?_); refine a_lit1 hO ?_; clear hO; intro w b_ hl_ hO; go_frame) | ((with_reducible refine is_lit ?_); refine a_lit2 hO ?_; clear hO; intro w b_ hl_ hO; go_frame) | ((with_reducible refine is_lit ?_); refine a_lit3 hO ?_; clear hO; intro w b_ hl_ hO; go_frame))
        go_at_call 45
        refine (has45 _ _ _ Hs.out Hp.out).mono ?_
        rintro e w ⟨rfl, rfl⟩
        go_wp2_with (first | ((with_reducible refine is_load ?_); refine a_load hO ?_; go_frame) | ((with_reducible refine is_load ?_); refine a_loadA hO ?_; go_frame) | ((with_reducible refine is_store ?_); refine a_store hO ?_; clear hO; intro w hO; go_frame) | ((with_reducible refine is_store ?_); refine a_storeA hO ?_; clear hO; intro w hO; go_frame) | ((with_reducible refine is_alloc ?_); refine a_alloc hO ?_; clear hO; intro w b_ hO; go_frame) | ((with_reducible refine is_box ?_); refine a_box hO ?_; clear hO; intro w b_ hO; go_frame) | ((with_reducible refine is_lit ?_); refine a_lit0 hO ?_; clear hO; intro w b_ hl_ hO; go_frame) | ((with_reducible refine is_lit ?_); refine a_lit1 hO ?_; clear hO; intro w b_ hl_ hO; go_frame) | ((with_reducible refine is_lit ?_); refine a_lit2 hO ?_; clear hO; intro w b_ hl_ hO; go_frame) | ((with_reducible refine is_lit ?_); refine a_lit3 hO ?_; clear hO; intro w b_ hl_ hO; go_frame))
        go_ret
        rw [HF.out, HB.out]
        exact ⟨by simp, hO.drop⟩
      · go_wp2_with (first | ((with_reducible refine is_load ?_); refine a_load hO ?_; go_frame) | ((with_reducible refine is_load ?_); refine a_loadA hO ?_; go_frame) | ((with_reducible refine is_store ?_); refine a_store hO ?_; clear hO; intro w hO; go_frame) | ((with_reducible refine is_store ?_); refine a_storeA hO ?_; clear hO; intro w hO; go_frame) | ((with_reducible refine is_alloc ?_); refine a_alloc hO ?_; clear hO; intro w b_ hO; go_frame) | ((with_reducible refine is_box ?_); refine a_box hO ?_; clear hO; intro w b_ hO; go_frame) | ((with_reducible refine is_lit ?_); refine a_lit0 hO ?_; clear hO; intro w b_ hl_ hO; go_frame) | ((with_reducible refine is_lit ?_); refine a_lit1 hO ?_; clear hO; intro w b_ hl_ hO; go_frame) | ((with_reducible refine is_lit ?_); refine a_lit2 hO ?_; clear hO; intro w b_ hl_ hO; go_frame) | ((with_reducible refine is_lit ?_); refine a_lit3 hO ?_; clear hO; intro w b_ hl_ hO; go_frame))
        go_ret
        rw [HF.out, HB.out]
        exact ⟨by simp, hO.drop⟩
    · have hx : (bits .and .u64 ((m : Int) / 8192) 1 == 1) = false := by rw [ha, beq_eq_false_iff_ne]; omega
      have HB : Hid (decide (m / 8192 % 2 = 1) = false) := Lib.hid (by simp [hb])
      clear ha hb
      go_wp2_with (first | ((with_reducible refine is_load ?_); refine a_load hO ?_; go_frame) | ((with_reducible refine is_load ?_); refine a_loadA hO ?_; go_frame) | ((with_reducible refine is_store ?_); refine a_store hO ?_; clear hO; intro w hO; go_frame) | ((with_reducible refine is_store ?_); refine a_storeA hO ?_; clear hO; intro w hO; go_frame) | ((with_reducible refine is_alloc ?_); refine a_alloc hO ?_; clear hO; intro w b_ hO; go_frame) | ((with_reducible refine is_box ?_); refine a_box hO ?_; clear hO; intro w b_ hO; go_frame) | ((with_reducible refine is_lit ?_); refine a_lit0 hO ?_; clear hO; intro w b_ hl_ hO; go_frame) | ((with_reducible refine is_lit ?_); refine a_lit1 hO ?_; clear hO; intro w b_ hl_ hO; go_frame) | ((with_reducible refine is_lit ?_); refine a_lit2 hO ?_; clear hO; intro w b_ hl_ hO; go_frame) | ((with_reducible refine is_lit ?_); refine a_lit3 hO ?_; clear hO; intro w b_ hl_ hO; go_frame))
      go_ret
      rw [HF.out, HB.out]
      exact ⟨by simp, hO.drop⟩
  · have hp : 2 ^ Int.toNat 14 = 16384 := by decide
    rw [hp] at HF
    clear hp
    have ha : bits .and .u64 ((m : Int) / 16384) 1 = (m : Int) / 16384 % 2 := by
      have h := bits_and_one (m / 16384) (by omega)
      push_cast at h
      exact h
    by_cases hb : m / 16384 % 2 = 1
    · have hx : (bits .and .u64 ((m : Int) / 16384) 1 == 1) = true := by rw [ha, beq_iff_eq]; omega
      have HB : Hid (decide (m / 16384 % 2 = 1) = true) := Lib.hid (by simp [hb])
      clear ha hb
      go_wp2_with (first | ((with_reducible refine is_load ?_); refine a_load hO ?_; go_frame) | ((with_reducible refine is_load ?_); refine a_loadA hO ?_; go_frame) | ((with_reducible refine is_store ?_); refine a_store hO ?_; clear hO; intro w hO; go_frame) | ((with_reducible refine is_store ?_); refine a_storeA hO ?_; clear hO; intro w hO; go_frame) | ((with_reducible refine is_alloc ?_); refine a_alloc hO ?_; clear hO; intro w b_ hO; go_frame) | ((with_reducible refine is_box ?_); refine a_box hO ?_; clear hO; intro w b_ hO; go_frame) | ((with_reducible refine is_lit ?_); refine a_lit0 hO ?_; clear hO; intro w b_ hl_ hO; go_frame) | ((with_reducible refine is_lit ?_); refine a_lit1 hO ?_; clear hO; intro w b_ hl_ hO; go_frame) | ((with_reducible refine is_lit ?_); refine a_lit2 hO ?_; clear hO; intro w b_ hl_ hO; go_frame) | ((with_reducible refine is_lit ?_); refine a_lit3 hO ?_; clear hO; intro w b_ hl_ hO; go_frame))
      go_at_call 44
      refine (due44 _ _ _).mono ?_
      rintro e w ⟨rfl, rfl⟩
      generalize dueF r.til now = due at *
      cases due
      · go_wp2_with (first | ((with_reducible refine is_load ?_); refine a_load hO ?_; go_frame) | ((with_reducible refine is_load ?_); refine a_loadA hO ?_; go_frame) | ((with_reducible refine is_store ?_); refine a_store hO ?_; clear hO; intro w hO; go_frame) | ((with_reducible refine is_store ?_); refine a_storeA hO ?_; clear hO; intro w hO; go_frame) | ((with_reducible refine is_alloc ?_); refine a_alloc hO ?_; clear hO; intro w b_ hO; go_frame) | ((with_reducible refine is_box ?_); refine a_box hO ?_; clear hO; intro w b_ hO; go_frame) | ((with_reducible refine is_lit ?_); refine a_lit0 hO ?_; clear hO; intro w b_ hl_ hO; go_frame) | ((with_reducible refine is_lit ?_); refine a_lit1 hO ?_; clear hO; intro w b_ hl_ hO; go_frame) | ((with_reducible refine is_lit ?_); refine a_lit2 hO ?_; clear hO; intro w b_ hl_ hO; go_frame) | ((with_reducible refine is_lit ?_); refine a_lit3 hO ?_; clear hO; intro w b_ hl_ hO; go_frame))
        go_at_call 45
        refine (has45 _ _ _ Hs.out Hp.out).mono ?_
        rintro e w ⟨rfl, rfl⟩
        go_wp2_with (first | ((with_reducible refine is_load ?_); refine a_load hO ?_; go_frame) | ((with_reducible refine is_load ?_); refine a_loadA hO ?_; go_frame) | ((with_reducible refine is_store ?_); refine a_store hO ?_; clear hO; intro w hO; go_frame) | ((with_reducible refine is_store ?_); refine a_storeA hO ?_; clear hO; intro w hO; go_frame) | ((with_reducible refine is_alloc ?_); refine a_alloc hO ?_; clear hO; intro w b_ hO; go_frame) | ((with_reducible refine is_box ?_); refine a_box hO ?_; clear hO; intro w b_ hO; go_frame) | ((with_reducible refine is_lit ?_); refine a_lit0 hO ?_; clear hO; intro w b_ hl_ hO; go_frame) | ((with_reducible refine is_lit ?_); refine a_lit1 hO ?_; clear hO; intro w b_ hl_ hO; go_frame) | ((with_reducible refine is_lit ?_); refine a_lit2 hO ?_; clear hO; intro w b_ hl_ hO; go_frame) | ((with_reducible refine is_lit ?_); refine a_lit3 hO ?_; clear hO; intro w b_ hl_ hO; go_frame))
        go_ret
        rw [HF.out, HB.out]
        exact ⟨by simp, hO.drop⟩
      · go_wp2_with (first | ((with_reducible refine is_load ?_); refine a_load hO ?_; go_frame) | ((with_reducible refine is_load ?_); refine a_loadA hO ?_; go_frame) | ((with_reducible refine is_store ?_); refine a_store hO ?_; clear hO; intro w hO; go_frame) | ((with_reducible refine is_store ?_); refine a_storeA hO ?_; clear hO; intro w hO; go_frame) | ((with_reducible refine is_alloc ?_); refine a_alloc hO ?_; clear hO; intro w b_ hO; go_frame) | ((with_reducible refine is_box ?_); refine a_box hO ?_; clear hO; intro w b_ hO; go_frame) | ((with_reducible refine is_lit ?_); refine a_lit0 hO ?_; clear hO; intro w b_ hl_ hO; go_frame) | ((with_reducible refine is_lit ?_); refine a_lit1 hO ?_; clear hO; intro w b_ hl_ hO; go_frame) | ((with_reducible refine is_lit ?_); refine a_lit2 hO ?_; clear hO; intro w b_ hl_ hO; go_frame) | ((with_reducible refine is_lit ?_); refine a_lit3 hO ?_; clear hO; intro w b_ hl_ hO; go_frame))
        go_ret
        rw [HF.out, HB.out]
        exact ⟨by simp, hO.drop⟩
    · have hx : (bits .and .u64 ((m : Int) / 16384) 1 == 1) = false := by rw [ha, beq_eq_false_iff_ne]; omega
      have HB : Hid (decide (m / 16384 % 2 = 1) = false) := Lib.hid (by simp [hb])
      clear ha hb
      go_wp2_with (first | ((with_reducible refine is_load ?_); refine a_load hO ?_; go_frame) | ((with_reducible refine is_load ?_); refine a_loadA hO ?_; go_frame) | ((with_reducible refine is_store ?_); refine a_store hO ?_; clear hO; intro w hO; go_frame) | ((with_reducible refine is_store ?_); refine a_storeA hO ?_; clear hO; intro w hO; go_frame) | ((with_reducible refine is_alloc ?_); refine a_alloc hO ?_; clear hO; intro w b_ hO; go_frame) | ((with_reducible refine is_box ?_); refine a_box hO ?_; clear hO; intro w b_ hO; go_frame) | ((with_reducible refine is_lit ?_); refine a_lit0 hO ?_; clear hO; intro w b_ hl_ hO; go_frame) | ((with_reducible refine is_lit ?_); refine a_lit1 hO ?_; clear hO; intro w b_ hl_ hO; go_frame) | ((with_reducible refine is_lit ?_); refine a_lit2 hO ?_; clear hO; intro w b_ hl_ hO; go_frame) | ((with_reducible refine is_lit ?_); refine a_lit3 hO ?_; clear hO; intro w b_ hl_ hO; go_frame))
      go_ret
      rw [HF.out, HB.out]
      exact ⟨by simp, hO.drop⟩
  · have hp : 2 ^ Int.toNat 15 = 32768 := by decide
    rw [hp] at HF
    clear hp
    have ha : bits .and .u64 ((m : Int) / 32768) 1 = (m : Int) / 32768 % 2 := by
      have h := bits_and_one (m / 32768) (by omega)
      push_cast at h
      exact h
    by_cases hb : m / 32768 % 2 = 1
    · have hx : (bits .and .u64 ((m : Int) / 32768) 1 == 1) = true := by rw [ha, beq_iff_eq]; omega
      have HB : Hid (decide (m / 32768 % 2 = 1) = true) := Lib.hid (by simp [hb])
      clear ha hb
      go_wp2_with (first | ((with_reducible refine is_load ?_); refine a_load hO ?_; go_frame) | ((with_reducible refine is_load ?_); refine a_loadA hO ?_; go_frame) | ((with_reducible refine is_store ?_); refine a_store hO ?_; clear hO; intro w hO; go_frame) | ((with_reducible refine is_store ?_); refine a_storeA hO ?_; clear hO; intro w hO; go_frame) | ((with_reducible refine is_alloc ?_); refine a_alloc hO ?_; clear hO; intro w b_ hO; go_frame) | ((with_reducible refine is_box ?_); refine a_box hO ?_; clear hO; intro w b_ hO; go_frame) | ((with_reducible refine is_lit ?_); refine a_lit0 hO ?_; clear hO; intro w b_ hl_ hO; go_frame) | ((with_reducible refine is_lit ?_); refine a_lit1 hO ?_; clear hO; intro w b_ hl_ hO; go_frame) | ((with_reducible refine is_lit ?_); refine a_lit2 hO ?_; clear hO; intro w b_ hl_ hO; go_frame) | ((with_reducible refine is_lit ?_); refine a_lit3 hO ?_; clear hO; intro w b_ hl_ hO; go_frame))
      go_at_call 44
      refine (due44 _ _ _).mono ?_
      rintro e w ⟨rfl, rfl⟩
      generalize dueF r.til now = due at *
      cases due
      · go_wp2_with (first | ((with_reducible refine is_load ?_); refine a_load hO ?_; go_frame) | ((with_reducible refine is_load ?_); refine a_loadA hO ?_; go_frame) | ((with_reducible refine is_store ?_); refine a_store hO ?_; clear hO; intro w hO; go_frame) | ((with_reducible refine is_store ?_); refine a_storeA hO ?_; clear hO; intro w hO; go_frame) | ((with_reducible refine is_alloc ?_); refine a_alloc hO ?_; clear hO; intro w b_ hO; go_frame) | ((with_reducible refine is_box ?_); refine a_box hO ?_; clear hO; intro w b_ hO; go_frame) | ((with_reducible refine is_lit ?_); refine a_lit0 hO ?_; clear hO; intro w b_ hl_ hO; go_frame) | ((with_reducible refine is_lit ?_); refine a_lit1 hO ?_; clear hO; intro w b_ hl_ hO; go_frame) | ((with_reducible refine is_lit ?_); refine a_lit2 hO ?_; clear hO; intro w b_ hl_ hO; go_frame) | ((with_reducible refine is_lit ?_); refine a_lit3 hO ?_; clear hO; intro w b_ hl_ hO; go_frame))
        go_at_call 45
        refine (has45 _ _ _ Hs.out Hp.out).mono ?_
        rintro e w ⟨rfl, rfl⟩
        go_wp2_with (first | ((with_reducible refine is_load ?_); refine a_load hO ?_; go_frame) | ((with_reducible refine is_load ?_); refine a_loadA hO ?_; go_frame) | ((with_reducible refine is_store ?_); refine a_store hO ?_; clear hO; intro w hO; go_frame) | ((with_reducible refine is_store ?_); refine a_storeA hO ?_; clear hO; intro w hO; go_frame) | ((with_reducible refine is_alloc ?_); refine a_alloc hO ?_; clear hO; intro w b_ hO; go_frame) | ((with_reducible refine is_box ?_); refine a_box hO ?_; clear hO; intro w b_ hO; go_frame) | ((with_reducible refine is_lit ?_); refine a_lit0 hO ?_; clear hO; intro w b_ hl_ hO; go_frame) | ((with_reducible refine is_lit ?_); refine a_lit1 hO ?_; clear hO; intro w b_ hl_ hO; go_frame) | ((with_reducible refine is_lit ?_); refine a_lit2 hO ?_; clear hO; intro w b_ hl_ hO; go_frame) | ((with_reducible refine is_lit ?_); refine a_lit3 hO ?_; clear hO; intro w b_ hl_ hO; go_frame))
        go_ret
        rw [HF.out, HB.out]
        exact ⟨by simp, hO.drop⟩
      · go_wp2_with (first | ((with_reducible refine is_load ?_); refine a_load hO ?_; go_frame) | ((with_reducible refine is_load ?_); refine a_loadA hO ?_; go_frame) | ((with_reducible refine is_store ?_); refine a_store hO ?_; clear hO; intro w hO; go_frame) | ((with_reducible refine is_store ?_); refine a_storeA hO ?_; clear hO; intro w hO; go_frame) | ((with_reducible refine is_alloc ?_); refine a_alloc hO ?_; clear hO; intro w b_ hO; go_frame) | ((with_reducible refine is_box ?_); refine a_box hO ?_; clear hO; intro w b_ hO; go_frame) | ((with_reducible refine is_lit ?_); refine a_lit0 hO ?_; clear hO; intro w b_ hl_ hO; go_frame) | ((with_reducible refine is_lit ?_); refine a_lit1 hO ?_; clear hO; intro w b_ hl_ hO; go_frame) | ((with_reducible refine is_lit ?_); refine a_lit2 hO ?_; clear hO; intro w b_ hl_ hO; go_frame) | ((with_reducible refine is_lit ?_); refine a_lit3 hO ?_; clear hO; intro w b_ hl_ hO; go_frame))
        go_ret
        rw [HF.out, HB.out]
        exact ⟨by simp, hO.drop⟩
    · have hx : (bits .and .u64 ((m : Int) / 32768) 1 == 1) = false := by rw [ha, beq_eq_false_iff_ne]; omega
      have HB : Hid (decide (m / 32768 % 2 = 1) = false) := Lib.hid (by simp [hb])
      clear ha hb
      go_wp2_with (first | ((with_reducible refine is_load ?_); refine a_load hO ?_; go_frame) | ((with_reducible refine is_load ?_); refine a_loadA hO ?_; go_frame) | ((with_reducible refine is_store ?_); refine a_store hO ?_; clear hO; intro w hO; go_frame) | ((with_reducible refine is_store ?_); refine a_storeA hO ?_; clear hO; intro w hO; go_frame) | ((with_reducible refine is_alloc ?_); refine a_alloc hO ?_; clear hO; intro w b_ hO; go_frame) | ((with_reducible refine is_box ?_); refine a_box hO ?_; clear hO; intro w b_ hO; go_frame) | ((with_reducible refine is_lit ?_); refine a_lit0 hO ?_; clear hO; intro w b_ hl_ hO; go_frame) | ((with_reducible refine is_lit ?_); refine a_lit1 hO ?_; clear hO; intro w b_ hl_ hO; go_frame) | ((with_reducible refine is_lit ?_); refine a_lit2 hO ?_; clear hO; intro w b_ hl_ hO; go_frame) | ((with_reducible refine is_lit ?_); refine a_lit3 hO ?_; clear hO; intro w b_ hl_ hO; go_frame))
      go_ret
      rw [HF.out, HB.out]
      exact ⟨by simp, hO.drop⟩
end Go.Proofs.Yteghmoijhcdpeaa
