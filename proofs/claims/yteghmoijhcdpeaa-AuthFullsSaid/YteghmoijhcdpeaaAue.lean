import Derived.Test.YteghmoijhcdpeaaAud
--KINDS
set_option linter.unusedSimpArgs false
set_option linter.unusedVariables false
set_option maxRecDepth 100000
namespace Go.Proofs.Yteghmoijhcdpeaa
open Go.RowKit

theorem wrap_nat (n : Nat) (h : n < 18446744073709551616) : IntKind.u64.wrap (n : Int) = n := by
  simp [IntKind.wrap, IntKind.bits, IntKind.signed]
  omega
theorem bits_or_nat (a b : Nat) (ha : a < 65536) (hb : b < 65536) : bits .or .u64 (a : Int) (b : Int) = ((a ||| b : Nat) : Int) := by
  have e1 : a % 2 ^ IntKind.u64.bits = a := Nat.mod_eq_of_lt (by simp [IntKind.bits]; omega)
  have e2 : b % 2 ^ IntKind.u64.bits = b := Nat.mod_eq_of_lt (by simp [IntKind.bits]; omega)
  have h : a ||| b < 2 ^ 16 := Nat.or_lt_two_pow (by omega) (by omega)
  simp only [bits, Int.toNat_natCast] at *
  simp [e1, e2]
  exact wrap_nat _ (by omega)
theorem bits_and_one (a : Nat) (ha : a < 65536) : bits .and .u64 (a : Int) 1 = ((a % 2 : Nat) : Int) := by
  have e1 : a % 2 ^ IntKind.u64.bits = a := Nat.mod_eq_of_lt (by simp [IntKind.bits]; omega)
  have h : a &&& 1 = a % 2 := Nat.and_one_is_mod a
  have hw := wrap_nat (a % 2) (by omega)
  simp only [bits] at *
  have e3 : 1 % 2 ^ IntKind.u64.bits = 1 := by decide
  simp [e1, e3] at hw ⊢
  exact hw

/-- The set of ops, if they are different ops. -/
def stepB (s : Nat) (o : Int) : Option Nat := if o < 1 ∨ 15 < o ∨ s / 2 ^ o.toNat % 2 = 1 then none else some (s ||| 2 ^ o.toNat)
def bitsGo (l : List Int) (s : Nat) : Option Nat := l.foldlM stepB s
def bitsF (l : List Int) : Nat × Bool := match bitsGo l 0 with
  | some m => (m, decide (m ≠ 0))
  | none => (0, false)
theorem bitsGo_snoc (l : List Int) (o : Int) (s : Nat) : bitsGo (l ++ [o]) s = (bitsGo l s).bind fun m => stepB m o := by
  simp [bitsGo, List.foldlM_append]
theorem bitsGo_none (l : List Int) (k : Nat) (s : Nat) (h : bitsGo (l.take k) s = none) : bitsGo l s = none := by
  have e : bitsGo (l.take k ++ l.drop k) s = none := by
    rw [bitsGo, List.foldlM_append]
    rw [bitsGo] at h
    rw [h]
    rfl
  rwa [List.take_append_drop] at e
theorem stepB_lt {s m : Nat} {o : Int} (hs : s < 65536) (h : stepB s o = some m) : m < 65536 := by
  unfold stepB at h
  split at h
  · cases h
  · rename_i hc
    injection h with h
    subst h
    have : 2 ^ o.toNat < 2 ^ 16 := Nat.pow_lt_pow_right (by omega) (by omega)
    exact Nat.or_lt_two_pow (n := 16) (by omega) this
theorem RdO.at_ {X : Chunk} {A : Option Addr} {n c : Nat} {l : List Int} {k : Nat} (h : RdO X (.slice A n c) l) (hk : k < l.length) :
    ∃ b off, A = some ⟨b, off, none⟩ ∧ FCell X ⟨b, off + k, none⟩ (.int .i64 l[k]) := by
  obtain ⟨A', c', hv, _, _, hf⟩ := h
  injection hv with h1 h2 h3
  subst h1
  obtain ⟨b, off, hA, hc⟩ := hf (by omega)
  exact ⟨b, off, hA, hc k _ (by simp [opv, hk])⟩

set_option maxHeartbeats 4000000 in
theorem bits40 {w0 w : World} {C CX : List Chunk} {X : Chunk} {v : Value} {l : List Int} (hO : Own w0 w C) (hX : Pick C X CX) (hv : RdO X v l) (hn : l.length ≤ 1000) :
    Calls Try.prog 40 #[v] w fun e w' => e = .returned (.tuple #[.int .u64 ((bitsF l).1 : Int), .bool (bitsF l).2]) ∧ w = w' := by
  obtain ⟨A, c, rfl, hc, HV⟩ := hv.split
  clear hv
  go_enter Try.func40, Try.ntmps40
  go_wp2_with (first | ((with_reducible refine is_load ?_); refine a_load hO ?_; go_frame) | ((with_reducible refine is_load ?_); refine a_loadA hO ?_; go_frame) | ((with_reducible refine is_store ?_); refine a_store hO ?_; clear hO; intro w hO; go_frame) | ((with_reducible refine is_store ?_); refine a_storeA hO ?_; clear hO; intro w hO; go_frame) | ((with_reducible refine is_alloc ?_); refine a_alloc hO ?_; clear hO; intro w b_ hO; go_frame) | ((with_reducible refine is_box ?_); refine a_box hO ?_; clear hO; intro w b_ hO; go_frame) | ((with_reducible refine is_lit ?_); refine a_lit0 hO ?_; clear hO; intro w b_ hl_ hO; go_frame) | ((with_reducible refine is_lit ?_); refine a_lit1 hO ?_; clear hO; intro w b_ hl_ hO; go_frame) | ((with_reducible refine is_lit ?_); refine a_lit2 hO ?_; clear hO; intro w b_ hl_ hO; go_frame) | ((with_reducible refine is_lit ?_); refine a_lit3 hO ?_; clear hO; intro w b_ hl_ hO; go_frame))
  go_loopw [2, 8] (fun s i wr => ∃ (k : Nat) (m : Nat), s = .int .u64 (m : Int) ∧ m < 65536 ∧ bitsGo (l.take k) 0 = some m ∧ i = .int .i64 (k : Int) ∧ k ≤ l.length ∧ wr = w) (fun s i _ => (l.length - (intOf i).toNat))
  case atStart => exact ⟨0, 0, rfl, by omega, rfl, rfl, by omega, rfl⟩
  case round =>
    obtain ⟨k, m, rfl, hm, hgo, rfl, hk, rfl⟩ := hrel
    have Hgo := Lib.hid hgo
    clear hgo
    by_cases hlt : k < l.length
    · obtain ⟨b, off, hA, hf⟩ := HV.out.at_ hlt
      subst hA
      have HT : Hid (bitsGo (l.take (k + 1)) 0 = stepB m l[k]) := by
        show bitsGo (l.take (k + 1)) 0 = _
        rw [List.take_succ_eq_append_getElem hlt, bitsGo_snoc, Hgo.out]
        rfl
      have HN : Hid (stepB m l[k] = none → bitsF l = (0, false)) := by
        intro h
        unfold bitsF
        rw [bitsGo_none l (k + 1) 0 (by rw [HT.out, h])]
      have HB := Lib.hid (fun m' (h : stepB m l[k] = some m') => stepB_lt hm h)
      generalize l[k] = o at *
      by_cases h1 : o < 1
      · go_wp2_with (first | ((with_reducible refine is_load ?_); refine a_load hO ?_; go_frame) | ((with_reducible refine is_load ?_); refine a_loadA hO ?_; go_frame) | ((with_reducible refine is_store ?_); refine a_store hO ?_; clear hO; intro w hO; go_frame) | ((with_reducible refine is_store ?_); refine a_storeA hO ?_; clear hO; intro w hO; go_frame) | ((with_reducible refine is_alloc ?_); refine a_alloc hO ?_; clear hO; intro w b_ hO; go_frame) | ((with_reducible refine is_box ?_); refine a_box hO ?_; clear hO; intro w b_ hO; go_frame) | ((with_reducible refine is_lit ?_); refine a_lit0 hO ?_; clear hO; intro w b_ hl_ hO; go_frame) | ((with_reducible refine is_lit ?_); refine a_lit1 hO ?_; clear hO; intro w b_ hl_ hO; go_frame) | ((with_reducible refine is_lit ?_); refine a_lit2 hO ?_; clear hO; intro w b_ hl_ hO; go_frame) | ((with_reducible refine is_lit ?_); refine a_lit3 hO ?_; clear hO; intro w b_ hl_ hO; go_frame) | ((with_reducible refine is_load ?_); (with_reducible apply st_loadF hO); rfl; rfl; rfl; infer_instance; assumption; (focus (repeat (first | exact Pick.here | assumption | apply Pick.there))); go_frame))
        go_ret2
        rw [HN.out (by simp [stepB, h1])]
        exact ⟨rfl, rfl⟩
      · by_cases h15 : 15 < o
        · go_wp2_with (first | ((with_reducible refine is_load ?_); refine a_load hO ?_; go_frame) | ((with_reducible refine is_load ?_); refine a_loadA hO ?_; go_frame) | ((with_reducible refine is_store ?_); refine a_store hO ?_; clear hO; intro w hO; go_frame) | ((with_reducible refine is_store ?_); refine a_storeA hO ?_; clear hO; intro w hO; go_frame) | ((with_reducible refine is_alloc ?_); refine a_alloc hO ?_; clear hO; intro w b_ hO; go_frame) | ((with_reducible refine is_box ?_); refine a_box hO ?_; clear hO; intro w b_ hO; go_frame) | ((with_reducible refine is_lit ?_); refine a_lit0 hO ?_; clear hO; intro w b_ hl_ hO; go_frame) | ((with_reducible refine is_lit ?_); refine a_lit1 hO ?_; clear hO; intro w b_ hl_ hO; go_frame) | ((with_reducible refine is_lit ?_); refine a_lit2 hO ?_; clear hO; intro w b_ hl_ hO; go_frame) | ((with_reducible refine is_lit ?_); refine a_lit3 hO ?_; clear hO; intro w b_ hl_ hO; go_frame) | ((with_reducible refine is_load ?_); (with_reducible apply st_loadF hO); rfl; rfl; rfl; infer_instance; assumption; (focus (repeat (first | exact Pick.here | assumption | apply Pick.there))); go_frame))
          go_ret2
          rw [HN.out (by simp [stepB, h15])]
          exact ⟨rfl, rfl⟩
        · have HS : Hid (stepB m o = if m / 2 ^ o.toNat % 2 = 1 then none else some (m ||| 2 ^ o.toNat)) := by
            show stepB m o = _
            simp [stepB, h1, h15]
          rcases (by omega : o = 1 ∨ o = 2 ∨ o = 3 ∨ o = 4 ∨ o = 5 ∨ o = 6 ∨ o = 7 ∨ o = 8 ∨ o = 9 ∨ o = 10 ∨ o = 11 ∨ o = 12 ∨ o = 13 ∨ o = 14 ∨ o = 15) with rfl | rfl | rfl | rfl | rfl | rfl | rfl | rfl | rfl | rfl | rfl | rfl | rfl | rfl | rfl
          · clear h1 h15
            have hp : 2 ^ Int.toNat 1 = 2 := by decide
            rw [hp] at HS
            have ha : Hid (bits .and .u64 ((m : Int) / 2) 1 = (m : Int) / 2 % 2) := by
              have h := bits_and_one (m / 2) (by omega)
              push_cast at h
              exact h
            have hor : Hid (bits .or .u64 (m : Int) 2 = ((m ||| 2 : Nat) : Int)) := bits_or_nat m 2 hm (by omega)
            clear hp
            go_wp2_with (first | ((with_reducible refine is_load ?_); refine a_load hO ?_; go_frame) | ((with_reducible refine is_load ?_); refine a_loadA hO ?_; go_frame) | ((with_reducible refine is_store ?_); refine a_store hO ?_; clear hO; intro w hO; go_frame) | ((with_reducible refine is_store ?_); refine a_storeA hO ?_; clear hO; intro w hO; go_frame) | ((with_reducible refine is_alloc ?_); refine a_alloc hO ?_; clear hO; intro w b_ hO; go_frame) | ((with_reducible refine is_box ?_); refine a_box hO ?_; clear hO; intro w b_ hO; go_frame) | ((with_reducible refine is_lit ?_); refine a_lit0 hO ?_; clear hO; intro w b_ hl_ hO; go_frame) | ((with_reducible refine is_lit ?_); refine a_lit1 hO ?_; clear hO; intro w b_ hl_ hO; go_frame) | ((with_reducible refine is_lit ?_); refine a_lit2 hO ?_; clear hO; intro w b_ hl_ hO; go_frame) | ((with_reducible refine is_lit ?_); refine a_lit3 hO ?_; clear hO; intro w b_ hl_ hO; go_frame) | ((with_reducible refine is_load ?_); (with_reducible apply st_loadF hO); rfl; rfl; rfl; infer_instance; assumption; (focus (repeat (first | exact Pick.here | assumption | apply Pick.there))); go_frame))
            · rename_i hb
              rw [ha.out] at hb
              simp only [beq_iff_eq] at hb
              go_ret2
              rw [HN.out (by rw [HS.out, if_pos (by omega)])]
              exact ⟨rfl, rfl⟩
            · rename_i hb
              rw [ha.out] at hb
              simp only [beq_eq_false_iff_ne, ne_eq] at hb
              have hS : stepB m 1 = some (m ||| 2) := by rw [HS.out, if_neg (by omega)]
              refine ⟨⟨k + 1, m ||| 2, by rw [hor.out], HB.out _ hS, by rw [HT.out, hS], by simp, by omega, trivial⟩, by simp [intOf]; omega⟩
          · clear h1 h15
            have hp : 2 ^ Int.toNat 2 = 4 := by decide
            rw [hp] at HS
            have ha : Hid (bits .and .u64 ((m : Int) / 4) 1 = (m : Int) / 4 % 2) := by
              have h := bits_and_one (m / 4) (by omega)
              push_cast at h
              exact h
            have hor : Hid (bits .or .u64 (m : Int) 4 = ((m ||| 4 : Nat) : Int)) := bits_or_nat m 4 hm (by omega)
            clear hp
            go_wp2_with (first | ((with_reducible refine is_load ?_); refine a_load hO ?_; go_frame) | ((with_reducible refine is_load ?_); refine a_loadA hO ?_; go_frame) | ((with_reducible refine is_store ?_); refine a_store hO ?_; clear hO; intro w hO; go_frame) | ((with_reducible refine is_store ?_); refine a_storeA hO ?_; clear hO; intro w hO; go_frame) | ((with_reducible refine is_alloc ?_); refine a_alloc hO ?_; clear hO; intro w b_ hO; go_frame) | ((with_reducible refine is_box ?_); refine a_box hO ?_; clear hO; intro w b_ hO; go_frame) | ((with_reducible refine is_lit ?_); refine a_lit0 hO ?_; clear hO; intro w b_ hl_ hO; go_frame) | ((with_reducible refine is_lit ?_); refine a_lit1 hO ?_; clear hO; intro w b_ hl_ hO; go_frame) | ((with_reducible refine is_lit ?_); refine a_lit2 hO ?_; clear hO; intro w b_ hl_ hO; go_frame) | ((with_reducible refine is_lit ?_); refine a_lit3 hO ?_; clear hO; intro w b_ hl_ hO; go_frame) | ((with_reducible refine is_load ?_); (with_reducible apply st_loadF hO); rfl; rfl; rfl; infer_instance; assumption; (focus (repeat (first | exact Pick.here | assumption | apply Pick.there))); go_frame))
            · rename_i hb
              rw [ha.out] at hb
              simp only [beq_iff_eq] at hb
              go_ret2
              rw [HN.out (by rw [HS.out, if_pos (by omega)])]
              exact ⟨rfl, rfl⟩
            · rename_i hb
              rw [ha.out] at hb
              simp only [beq_eq_false_iff_ne, ne_eq] at hb
              have hS : stepB m 2 = some (m ||| 4) := by rw [HS.out, if_neg (by omega)]
              refine ⟨⟨k + 1, m ||| 4, by rw [hor.out], HB.out _ hS, by rw [HT.out, hS], by simp, by omega, trivial⟩, by simp [intOf]; omega⟩
          · clear h1 h15
            have hp : 2 ^ Int.toNat 3 = 8 := by decide
            rw [hp] at HS
            have ha : Hid (bits .and .u64 ((m : Int) / 8) 1 = (m : Int) / 8 % 2) := by
              have h := bits_and_one (m / 8) (by omega)
              push_cast at h
              exact h
            have hor : Hid (bits .or .u64 (m : Int) 8 = ((m ||| 8 : Nat) : Int)) := bits_or_nat m 8 hm (by omega)
            clear hp
            go_wp2_with (first | ((with_reducible refine is_load ?_); refine a_load hO ?_; go_frame) | ((with_reducible refine is_load ?_); refine a_loadA hO ?_; go_frame) | ((with_reducible refine is_store ?_); refine a_store hO ?_; clear hO; intro w hO; go_frame) | ((with_reducible refine is_store ?_); refine a_storeA hO ?_; clear hO; intro w hO; go_frame) | ((with_reducible refine is_alloc ?_); refine a_alloc hO ?_; clear hO; intro w b_ hO; go_frame) | ((with_reducible refine is_box ?_); refine a_box hO ?_; clear hO; intro w b_ hO; go_frame) | ((with_reducible refine is_lit ?_); refine a_lit0 hO ?_; clear hO; intro w b_ hl_ hO; go_frame) | ((with_reducible refine is_lit ?_); refine a_lit1 hO ?_; clear hO; intro w b_ hl_ hO; go_frame) | ((with_reducible refine is_lit ?_); refine a_lit2 hO ?_; clear hO; intro w b_ hl_ hO; go_frame) | ((with_reducible refine is_lit ?_); refine a_lit3 hO ?_; clear hO; intro w b_ hl_ hO; go_frame) | ((with_reducible refine is_load ?_); (with_reducible apply st_loadF hO); rfl; rfl; rfl; infer_instance; assumption; (focus (repeat (first | exact Pick.here | assumption | apply Pick.there))); go_frame))
            · rename_i hb
              rw [ha.out] at hb
              simp only [beq_iff_eq] at hb
              go_ret2
              rw [HN.out (by rw [HS.out, if_pos (by omega)])]
              exact ⟨rfl, rfl⟩
            · rename_i hb
              rw [ha.out] at hb
              simp only [beq_eq_false_iff_ne, ne_eq] at hb
              have hS : stepB m 3 = some (m ||| 8) := by rw [HS.out, if_neg (by omega)]
              refine ⟨⟨k + 1, m ||| 8, by rw [hor.out], HB.out _ hS, by rw [HT.out, hS], by simp, by omega, trivial⟩, by simp [intOf]; omega⟩
          · clear h1 h15
            have hp : 2 ^ Int.toNat 4 = 16 := by decide
            rw [hp] at HS
            have ha : Hid (bits .and .u64 ((m : Int) / 16) 1 = (m : Int) / 16 % 2) := by
              have h := bits_and_one (m / 16) (by omega)
              push_cast at h
              exact h
            have hor : Hid (bits .or .u64 (m : Int) 16 = ((m ||| 16 : Nat) : Int)) := bits_or_nat m 16 hm (by omega)
            clear hp
            go_wp2_with (first | ((with_reducible refine is_load ?_); refine a_load hO ?_; go_frame) | ((with_reducible refine is_load ?_); refine a_loadA hO ?_; go_frame) | ((with_reducible refine is_store ?_); refine a_store hO ?_; clear hO; intro w hO; go_frame) | ((with_reducible refine is_store ?_); refine a_storeA hO ?_; clear hO; intro w hO; go_frame) | ((with_reducible refine is_alloc ?_); refine a_alloc hO ?_; clear hO; intro w b_ hO; go_frame) | ((with_reducible refine is_box ?_); refine a_box hO ?_; clear hO; intro w b_ hO; go_frame) | ((with_reducible refine is_lit ?_); refine a_lit0 hO ?_; clear hO; intro w b_ hl_ hO; go_frame) | ((with_reducible refine is_lit ?_); refine a_lit1 hO ?_; clear hO; intro w b_ hl_ hO; go_frame) | ((with_reducible refine is_lit ?_); refine a_lit2 hO ?_; clear hO; intro w b_ hl_ hO; go_frame) | ((with_reducible refine is_lit ?_); refine a_lit3 hO ?_; clear hO; intro w b_ hl_ hO; go_frame) | ((with_reducible refine is_load ?_); (with_reducible apply st_loadF hO); rfl; rfl; rfl; infer_instance; assumption; (focus (repeat (first | exact Pick.here | assumption | apply Pick.there))); go_frame))
            · rename_i hb
              rw [ha.out] at hb
              simp only [beq_iff_eq] at hb
              go_ret2
              rw [HN.out (by rw [HS.out, if_pos (by omega)])]
              exact ⟨rfl, rfl⟩
            · rename_i hb
              rw [ha.out] at hb
              simp only [beq_eq_false_iff_ne, ne_eq] at hb
              have hS : stepB m 4 = some (m ||| 16) := by rw [HS.out, if_neg (by omega)]
              refine ⟨⟨k + 1, m ||| 16, by rw [hor.out], HB.out _ hS, by rw [HT.out, hS], by simp, by omega, trivial⟩, by simp [intOf]; omega⟩
          · clear h1 h15
            have hp : 2 ^ Int.toNat 5 = 32 := by decide
            rw [hp] at HS
            have ha : Hid (bits .and .u64 ((m : Int) / 32) 1 = (m : Int) / 32 % 2) := by
              have h := bits_and_one (m / 32) (by omega)
              push_cast at h
              exact h
            have hor : Hid (bits .or .u64 (m : Int) 32 = ((m ||| 32 : Nat) : Int)) := bits_or_nat m 32 hm (by omega)
            clear hp
            go_wp2_with (first | ((with_reducible refine is_load ?_); refine a_load hO ?_; go_frame) | ((with_reducible refine is_load ?_); refine a_loadA hO ?_; go_frame) | ((with_reducible refine is_store ?_); refine a_store hO ?_; clear hO; intro w hO; go_frame) | ((with_reducible refine is_store ?_); refine a_storeA hO ?_; clear hO; intro w hO; go_frame) | ((with_reducible refine is_alloc ?_); refine a_alloc hO ?_; clear hO; intro w b_ hO; go_frame) | ((with_reducible refine is_box ?_); refine a_box hO ?_; clear hO; intro w b_ hO; go_frame) | ((with_reducible refine is_lit ?_); refine a_lit0 hO ?_; clear hO; intro w b_ hl_ hO; go_frame) | ((with_reducible refine is_lit ?_); refine a_lit1 hO ?_; clear hO; intro w b_ hl_ hO; go_frame) | ((with_reducible refine is_lit ?_); refine a_lit2 hO ?_; clear hO; intro w b_ hl_ hO; go_frame) | ((with_reducible refine is_lit ?_); refine a_lit3 hO ?_; clear hO; intro w b_ hl_ hO; go_frame) | ((with_reducible refine is_load ?_); (with_reducible apply st_loadF hO); rfl; rfl; rfl; infer_instance; assumption; (focus (repeat (first | exact Pick.here | assumption | apply Pick.there))); go_frame))
            · rename_i hb
              rw [ha.out] at hb
              simp only [beq_iff_eq] at hb
              go_ret2
              rw [HN.out (by rw [HS.out, if_pos (by omega)])]
              exact ⟨rfl, rfl⟩
            · rename_i hb
              rw [ha.out] at hb
              simp only [beq_eq_false_iff_ne, ne_eq] at hb
              have hS : stepB m 5 = some (m ||| 32) := by rw [HS.out, if_neg (by omega)]
              refine ⟨⟨k + 1, m ||| 32, by rw [hor.out], HB.out _ hS, by rw [HT.out, hS], by simp, by omega, trivial⟩, by simp [intOf]; omega⟩
          · clear h1 h15
            have hp : 2 ^ Int.toNat 6 = 64 := by decide
            rw [hp] at HS
            have ha : Hid (bits .and .u64 ((m : Int) / 64) 1 = (m : Int) / 64 % 2) := by
              have h := bits_and_one (m / 64) (by omega)
              push_cast at h
              exact h
            have hor : Hid (bits .or .u64 (m : Int) 64 = ((m ||| 64 : Nat) : Int)) := bits_or_nat m 64 hm (by omega)
            clear hp
            go_wp2_with (first | ((with_reducible refine is_load ?_); refine a_load hO ?_; go_frame) | ((with_reducible refine is_load ?_); refine a_loadA hO ?_; go_frame) | ((with_reducible refine is_store ?_); refine a_store hO ?_; clear hO; intro w hO; go_frame) | ((with_reducible refine is_store ?_); refine a_storeA hO ?_; clear hO; intro w hO; go_frame) | ((with_reducible refine is_alloc ?_); refine a_alloc hO ?_; clear hO; intro w b_ hO; go_frame) | ((with_reducible refine is_box ?_); refine a_box hO ?_; clear hO; intro w b_ hO; go_frame) | ((with_reducible refine is_lit ?_); refine a_lit0 hO ?_; clear hO; intro w b_ hl_ hO; go_frame) | ((with_reducible refine is_lit ?_); refine a_lit1 hO ?_; clear hO; intro w b_ hl_ hO; go_frame) | ((with_reducible refine is_lit ?_); refine a_lit2 hO ?_; clear hO; intro w b_ hl_ hO; go_frame) | ((with_reducible refine is_lit ?_); refine a_lit3 hO ?_; clear hO; intro w b_ hl_ hO; go_frame) | ((with_reducible refine is_load ?_); (with_reducible apply st_loadF hO); rfl; rfl; rfl; infer_instance; assumption; (focus (repeat (first | exact Pick.here | assumption | apply Pick.there))); go_frame))
            · rename_i hb
              rw [ha.out] at hb
              simp only [beq_iff_eq] at hb
              go_ret2
              rw [HN.out (by rw [HS.out, if_pos (by omega)])]
              exact ⟨rfl, rfl⟩
            · rename_i hb
              rw [ha.out] at hb
              simp only [beq_eq_false_iff_ne, ne_eq] at hb
              have hS : stepB m 6 = some (m ||| 64) := by rw [HS.out, if_neg (by omega)]
              refine ⟨⟨k + 1, m ||| 64, by rw [hor.out], HB.out _ hS, by rw [HT.out, hS], by simp, by omega, trivial⟩, by simp [intOf]; omega⟩
          · clear h1 h15
            have hp : 2 ^ Int.toNat 7 = 128 := by decide
            rw [hp] at HS
            have ha : Hid (bits .and .u64 ((m : Int) / 128) 1 = (m : Int) / 128 % 2) := by
              have h := bits_and_one (m / 128) (by omega)
              push_cast at h
              exact h
            have hor : Hid (bits .or .u64 (m : Int) 128 = ((m ||| 128 : Nat) : Int)) := bits_or_nat m 128 hm (by omega)
            clear hp
            go_wp2_with (first | ((with_reducible refine is_load ?_); refine a_load hO ?_; go_frame) | ((with_reducible refine is_load ?_); refine a_loadA hO ?_; go_frame) | ((with_reducible refine is_store ?_); refine a_store hO ?_; clear hO; intro w hO; go_frame) | ((with_reducible refine is_store ?_); refine a_storeA hO ?_; clear hO; intro w hO; go_frame) | ((with_reducible refine is_alloc ?_); refine a_alloc hO ?_; clear hO; intro w b_ hO; go_frame) | ((with_reducible refine is_box ?_); refine a_box hO ?_; clear hO; intro w b_ hO; go_frame) | ((with_reducible refine is_lit ?_); refine a_lit0 hO ?_; clear hO; intro w b_ hl_ hO; go_frame) | ((with_reducible refine is_lit ?_); refine a_lit1 hO ?_; clear hO; intro w b_ hl_ hO; go_frame) | ((with_reducible refine is_lit ?_); refine a_lit2 hO ?_; clear hO; intro w b_ hl_ hO; go_frame) | ((with_reducible refine is_lit ?_); refine a_lit3 hO ?_; clear hO; intro w b_ hl_ hO; go_frame) | ((with_reducible refine is_load ?_); (with_reducible apply st_loadF hO); rfl; rfl; rfl; infer_instance; assumption; (focus (repeat (first | exact Pick.here | assumption | apply Pick.there))); go_frame))
            · rename_i hb
              rw [ha.out] at hb
              simp only [beq_iff_eq] at hb
              go_ret2
              rw [HN.out (by rw [HS.out, if_pos (by omega)])]
              exact ⟨rfl, rfl⟩
            · rename_i hb
              rw [ha.out] at hb
              simp only [beq_eq_false_iff_ne, ne_eq] at hb
              have hS : stepB m 7 = some (m ||| 128) := by rw [HS.out, if_neg (by omega)]
              refine ⟨⟨k + 1, m ||| 128, by rw [hor.out], HB.out _ hS, by rw [HT.out, hS], by simp, by omega, trivial⟩, by simp [intOf]; omega⟩
          · clear h1 h15
            have hp : 2 ^ Int.toNat 8 = 256 := by decide
            rw [hp] at HS
            have ha : Hid (bits .and .u64 ((m : Int) / 256) 1 = (m : Int) / 256 % 2) := by
              have h := bits_and_one (m / 256) (by omega)
              push_cast at h
              exact h
            have hor : Hid (bits .or .u64 (m : Int) 256 = ((m ||| 256 : Nat) : Int)) := bits_or_nat m 256 hm (by omega)
            clear hp
            go_wp2_with (first | ((with_reducible refine is_load ?_); refine a_load hO ?_; go_frame) | ((with_reducible refine is_load ?_); refine a_loadA hO ?_; go_frame) | ((with_reducible refine is_store ?_); refine a_store hO ?_; clear hO; intro w hO; go_frame) | ((with_reducible refine is_store ?_); refine a_storeA hO ?_; clear hO; intro w hO; go_frame) | ((with_reducible refine is_alloc ?_); refine a_alloc hO ?_; clear hO; intro w b_ hO; go_frame) | ((with_reducible refine is_box ?_); refine a_box hO ?_; clear hO; intro w b_ hO; go_frame) | ((with_reducible refine is_lit ?_); refine a_lit0 hO ?_; clear hO; intro w b_ hl_ hO; go_frame) | ((with_reducible refine is_lit ?_); refine a_lit1 hO ?_; clear hO; intro w b_ hl_ hO; go_frame) | ((with_reducible refine is_lit ?_); refine a_lit2 hO ?_; clear hO; intro w b_ hl_ hO; go_frame) | ((with_reducible refine is_lit ?_); refine a_lit3 hO ?_; clear hO; intro w b_ hl_ hO; go_frame) | ((with_reducible refine is_load ?_); (with_reducible apply st_loadF hO); rfl; rfl; rfl; infer_instance; assumption; (focus (repeat (first | exact Pick.here | assumption | apply Pick.there))); go_frame))
            · rename_i hb
              rw [ha.out] at hb
              simp only [beq_iff_eq] at hb
              go_ret2
              rw [HN.out (by rw [HS.out, if_pos (by omega)])]
              exact ⟨rfl, rfl⟩
            · rename_i hb
              rw [ha.out] at hb
              simp only [beq_eq_false_iff_ne, ne_eq] at hb
              have hS : stepB m 8 = some (m ||| 256) := by rw [HS.out, if_neg (by omega)]
              refine ⟨⟨k + 1, m ||| 256, by rw [hor.out], HB.out _ hS, by rw [HT.out, hS], by simp, by omega, trivial⟩, by simp [intOf]; omega⟩
          · clear h1 h15
            have hp : 2 ^ Int.toNat 9 = 512 := by decide
            rw [hp] at HS
            have ha : Hid (bits .and .u64 ((m : Int) / 512) 1 = (m : Int) / 512 % 2) := by
              have h := bits_and_one (m / 512) (by omega)
              push_cast at h
              exact h
            have hor : Hid (bits .or .u64 (m : Int) 512 = ((m ||| 512 : Nat) : Int)) := bits_or_nat m 512 hm (by omega)
            clear hp
            go_wp2_with (first | ((with_reducible refine is_load ?_); refine a_load hO ?_; go_frame) | ((with_reducible refine is_load ?_); refine a_loadA hO ?_; go_frame) | ((with_reducible refine is_store ?_); refine a_store hO ?_; clear hO; intro w hO; go_frame) | ((with_reducible refine is_store ?_); refine a_storeA hO ?_; clear hO; intro w hO; go_frame) | ((with_reducible refine is_alloc ?_); refine a_alloc hO ?_; clear hO; intro w b_ hO; go_frame) | ((with_reducible refine is_box ?_); refine a_box hO ?_; clear hO; intro w b_ hO; go_frame) | ((with_reducible refine is_lit ?_); refine a_lit0 hO ?_; clear hO; intro w b_ hl_ hO; go_frame) | ((with_reducible refine is_lit ?_); refine a_lit1 hO ?_; clear hO; intro w b_ hl_ hO; go_frame) | ((with_reducible refine is_lit ?_); refine a_lit2 hO ?_; clear hO; intro w b_ hl_ hO; go_frame) | ((with_reducible refine is_lit ?_); refine a_lit3 hO ?_; clear hO; intro w b_ hl_ hO; go_frame) | ((with_reducible refine is_load ?_); (with_reducible apply st_loadF hO); rfl; rfl; rfl; infer_instance; assumption; (focus (repeat (first | exact Pick.here | assumption | apply Pick.there))); go_frame))
            · rename_i hb
              rw [ha.out] at hb
              simp only [beq_iff_eq] at hb
              go_ret2
              rw [HN.out (by rw [HS.out, if_pos (by omega)])]
              exact ⟨rfl, rfl⟩
            · rename_i hb
              rw [ha.out] at hb
              simp only [beq_eq_false_iff_ne, ne_eq] at hb
              have hS : stepB m 9 = some (m ||| 512) := by rw [HS.out, if_neg (by omega)]
              refine ⟨⟨k + 1, m ||| 512, by rw [hor.out], HB.out _ hS, by rw [HT.out, hS], by simp, by omega, trivial⟩, by simp [intOf]; omega⟩
          · clear h1 h15
            have hp : 2 ^ Int.toNat 10 = 1024 := by decide
            rw [hp] at HS
            have ha : Hid (bits .and .u64 ((m : Int) / 1024) 1 = (m : Int) / 1024 % 2) := by
              have h := bits_and_one (m / 1024) (by omega)
              push_cast at h
              exact h
            have hor : Hid (bits .or .u64 (m : Int) 1024 = ((m ||| 1024 : Nat) : Int)) := bits_or_nat m 1024 hm (by omega)
            clear hp
            go_wp2_with (first | ((with_reducible refine is_load ?_); refine a_load hO ?_; go_frame) | ((with_reducible refine is_load ?_); refine a_loadA hO ?_; go_frame) | ((with_reducible refine is_store ?_); refine a_store hO ?_; clear hO; intro w hO; go_frame) | ((with_reducible refine is_store ?_); refine a_storeA hO ?_; clear hO; intro w hO; go_frame) | ((with_reducible refine is_alloc ?_); refine a_alloc hO ?_; clear hO; intro w b_ hO; go_frame) | ((with_reducible refine is_box ?_); refine a_box hO ?_; clear hO; intro w b_ hO; go_frame) | ((with_reducible refine is_lit ?_); refine a_lit0 hO ?_; clear hO; intro w b_ hl_ hO; go_frame) | ((with_reducible refine is_lit ?_); refine a_lit1 hO ?_; clear hO; intro w b_ hl_ hO; go_frame) | ((with_reducible refine is_lit ?_); refine a_lit2 hO ?_; clear hO; intro w b_ hl_ hO; go_frame) | ((with_reducible refine is_lit ?_); refine a_lit3 hO ?_; clear hO; intro w b_ hl_ hO; go_frame) | ((with_reducible refine is_load ?_); (with_reducible apply st_loadF hO); rfl; rfl; rfl; infer_instance; assumption; (focus (repeat (first | exact Pick.here | assumption | apply Pick.there))); go_frame))
            · rename_i hb
              rw [ha.out] at hb
              simp only [beq_iff_eq] at hb
              go_ret2
              rw [HN.out (by rw [HS.out, if_pos (by omega)])]
              exact ⟨rfl, rfl⟩
            · rename_i hb
              rw [ha.out] at hb
              simp only [beq_eq_false_iff_ne, ne_eq] at hb
              have hS : stepB m 10 = some (m ||| 1024) := by rw [HS.out, if_neg (by omega)]
              refine ⟨⟨k + 1, m ||| 1024, by rw [hor.out], HB.out _ hS, by rw [HT.out, hS], by simp, by omega, trivial⟩, by simp [intOf]; omega⟩
          · clear h1 h15
            have hp : 2 ^ Int.toNat 11 = 2048 := by decide
            rw [hp] at HS
            have ha : Hid (bits .and .u64 ((m : Int) / 2048) 1 = (m : Int) / 2048 % 2) := by
              have h := bits_and_one (m / 2048) (by omega)
              push_cast at h
              exact h
            have hor : Hid (bits .or .u64 (m : Int) 2048 = ((m ||| 2048 : Nat) : Int)) := bits_or_nat m 2048 hm (by omega)
            clear hp
            go_wp2_with (first | ((with_reducible refine is_load ?_); refine a_load hO ?_; go_frame) | ((with_reducible refine is_load ?_); refine a_loadA hO ?_; go_frame) | ((with_reducible refine is_store ?_); refine a_store hO ?_; clear hO; intro w hO; go_frame) | ((with_reducible refine is_store ?_); refine a_storeA hO ?_; clear hO; intro w hO; go_frame) | ((with_reducible refine is_alloc ?_); refine a_alloc hO ?_; clear hO; intro w b_ hO; go_frame) | ((with_reducible refine is_box ?_); refine a_box hO ?_; clear hO; intro w b_ hO; go_frame) | ((with_reducible refine is_lit ?_); refine a_lit0 hO ?_; clear hO; intro w b_ hl_ hO; go_frame) | ((with_reducible refine is_lit ?_); refine a_lit1 hO ?_; clear hO; intro w b_ hl_ hO; go_frame) | ((with_reducible refine is_lit ?_); refine a_lit2 hO ?_; clear hO; intro w b_ hl_ hO; go_frame) | ((with_reducible refine is_lit ?_); refine a_lit3 hO ?_; clear hO; intro w b_ hl_ hO; go_frame) | ((with_reducible refine is_load ?_); (with_reducible apply st_loadF hO); rfl; rfl; rfl; infer_instance; assumption; (focus (repeat (first | exact Pick.here | assumption | apply Pick.there))); go_frame))
            · rename_i hb
              rw [ha.out] at hb
              simp only [beq_iff_eq] at hb
              go_ret2
              rw [HN.out (by rw [HS.out, if_pos (by omega)])]
              exact ⟨rfl, rfl⟩
            · rename_i hb
              rw [ha.out] at hb
              simp only [beq_eq_false_iff_ne, ne_eq] at hb
              have hS : stepB m 11 = some (m ||| 2048) := by rw [HS.out, if_neg (by omega)]
              refine ⟨⟨k + 1, m ||| 2048, by rw [hor.out], HB.out _ hS, by rw [HT.out, hS], by simp, by omega, trivial⟩, by simp [intOf]; omega⟩
          · clear h1 h15
            have hp : 2 ^ Int.toNat 12 = 4096 := by decide
            rw [hp] at HS
            have ha : Hid (bits .and .u64 ((m : Int) / 4096) 1 = (m : Int) / 4096 % 2) := by
              have h := bits_and_one (m / 4096) (by omega)
              push_cast at h
              exact h
            have hor : Hid (bits .or .u64 (m : Int) 4096 = ((m ||| 4096 : Nat) : Int)) := bits_or_nat m 4096 hm (by omega)
            clear hp
            go_wp2_with (first | ((with_reducible refine is_load ?_); refine a_load hO ?_; go_frame) | ((with_reducible refine is_load ?_); refine a_loadA hO ?_; go_frame) | ((with_reducible refine is_store ?_); refine a_store hO ?_; clear hO; intro w hO; go_frame) | ((with_reducible refine is_store ?_); refine a_storeA hO ?_; clear hO; intro w hO; go_frame) | ((with_reducible refine is_alloc ?_); refine a_alloc hO ?_; clear hO; intro w b_ hO; go_frame) | ((with_reducible refine is_box ?_); refine a_box hO ?_; clear hO; intro w b_ hO; go_frame) | ((with_reducible refine is_lit ?_); refine a_lit0 hO ?_; clear hO; intro w b_ hl_ hO; go_frame) | ((with_reducible refine is_lit ?_); refine a_lit1 hO ?_; clear hO; intro w b_ hl_ hO; go_frame) | ((with_reducible refine is_lit ?_); refine a_lit2 hO ?_; clear hO; intro w b_ hl_ hO; go_frame) | ((with_reducible refine is_lit ?_); refine a_lit3 hO ?_; clear hO; intro w b_ hl_ hO; go_frame) | ((with_reducible refine is_load ?_); (with_reducible apply st_loadF hO); rfl; rfl; rfl; infer_instance; assumption; (focus (repeat (first | exact Pick.here | assumption | apply Pick.there))); go_frame))
            · rename_i hb
              rw [ha.out] at hb
              simp only [beq_iff_eq] at hb
              go_ret2
              rw [HN.out (by rw [HS.out, if_pos (by omega)])]
              exact ⟨rfl, rfl⟩
            · rename_i hb
              rw [ha.out] at hb
              simp only [beq_eq_false_iff_ne, ne_eq] at hb
              have hS : stepB m 12 = some (m ||| 4096) := by rw [HS.out, if_neg (by omega)]
              refine ⟨⟨k + 1, m ||| 4096, by rw [hor.out], HB.out _ hS, by rw [HT.out, hS], by simp, by omega, trivial⟩, by simp [intOf]; omega⟩
          · clear h1 h15
            have hp : 2 ^ Int.toNat 13 = 8192 := by decide
            rw [hp] at HS
            have ha : Hid (bits .and .u64 ((m : Int) / 8192) 1 = (m : Int) / 8192 % 2) := by
              have h := bits_and_one (m / 8192) (by omega)
              push_cast at h
              exact h
            have hor : Hid (bits .or .u64 (m : Int) 8192 = ((m ||| 8192 : Nat) : Int)) := bits_or_nat m 8192 hm (by omega)
            clear hp
            go_wp2_with (first | ((with_reducible refine is_load ?_); refine a_load hO ?_; go_frame) | ((with_reducible refine is_load ?_); refine a_loadA hO ?_; go_frame) | ((with_reducible refine is_store ?_); refine a_store hO ?_; clear hO; intro w hO; go_frame) | ((with_reducible refine is_store ?_); refine a_storeA hO ?_; clear hO; intro w hO; go_frame) | ((with_reducible refine is_alloc ?_); refine a_alloc hO ?_; clear hO; intro w b_ hO; go_frame) | ((with_reducible refine is_box ?_); refine a_box hO ?_; clear hO; intro w b_ hO; go_frame) | ((with_reducible refine is_lit ?_); refine a_lit0 hO ?_; clear hO; intro w b_ hl_ hO; go_frame) | ((with_reducible refine is_lit ?_); refine a_lit1 hO ?_; clear hO; intro w b_ hl_ hO; go_frame) | ((with_reducible refine is_lit ?_); refine a_lit2 hO ?_; clear hO; intro w b_ hl_ hO; go_frame) | ((with_reducible refine is_lit ?_); refine a_lit3 hO ?_; clear hO; intro w b_ hl_ hO; go_frame) | ((with_reducible refine is_load ?_); (with_reducible apply st_loadF hO); rfl; rfl; rfl; infer_instance; assumption; (focus (repeat (first | exact Pick.here | assumption | apply Pick.there))); go_frame))
            · rename_i hb
              rw [ha.out] at hb
              simp only [beq_iff_eq] at hb
              go_ret2
              rw [HN.out (by rw [HS.out, if_pos (by omega)])]
              exact ⟨rfl, rfl⟩
            · rename_i hb
              rw [ha.out] at hb
              simp only [beq_eq_false_iff_ne, ne_eq] at hb
              have hS : stepB m 13 = some (m ||| 8192) := by rw [HS.out, if_neg (by omega)]
              refine ⟨⟨k + 1, m ||| 8192, by rw [hor.out], HB.out _ hS, by rw [HT.out, hS], by simp, by omega, trivial⟩, by simp [intOf]; omega⟩
          · clear h1 h15
            have hp : 2 ^ Int.toNat 14 = 16384 := by decide
            rw [hp] at HS
            have ha : Hid (bits .and .u64 ((m : Int) / 16384) 1 = (m : Int) / 16384 % 2) := by
              have h := bits_and_one (m / 16384) (by omega)
              push_cast at h
              exact h
            have hor : Hid (bits .or .u64 (m : Int) 16384 = ((m ||| 16384 : Nat) : Int)) := bits_or_nat m 16384 hm (by omega)
            clear hp
            go_wp2_with (first | ((with_reducible refine is_load ?_); refine a_load hO ?_; go_frame) | ((with_reducible refine is_load ?_); refine a_loadA hO ?_; go_frame) | ((with_reducible refine is_store ?_); refine a_store hO ?_; clear hO; intro w hO; go_frame) | ((with_reducible refine is_store ?_); refine a_storeA hO ?_; clear hO; intro w hO; go_frame) | ((with_reducible refine is_alloc ?_); refine a_alloc hO ?_; clear hO; intro w b_ hO; go_frame) | ((with_reducible refine is_box ?_); refine a_box hO ?_; clear hO; intro w b_ hO; go_frame) | ((with_reducible refine is_lit ?_); refine a_lit0 hO ?_; clear hO; intro w b_ hl_ hO; go_frame) | ((with_reducible refine is_lit ?_); refine a_lit1 hO ?_; clear hO; intro w b_ hl_ hO; go_frame) | ((with_reducible refine is_lit ?_); refine a_lit2 hO ?_; clear hO; intro w b_ hl_ hO; go_frame) | ((with_reducible refine is_lit ?_); refine a_lit3 hO ?_; clear hO; intro w b_ hl_ hO; go_frame) | ((with_reducible refine is_load ?_); (with_reducible apply st_loadF hO); rfl; rfl; rfl; infer_instance; assumption; (focus (repeat (first | exact Pick.here | assumption | apply Pick.there))); go_frame))
            · rename_i hb
              rw [ha.out] at hb
              simp only [beq_iff_eq] at hb
              go_ret2
              rw [HN.out (by rw [HS.out, if_pos (by omega)])]
              exact ⟨rfl, rfl⟩
            · rename_i hb
              rw [ha.out] at hb
              simp only [beq_eq_false_iff_ne, ne_eq] at hb
              have hS : stepB m 14 = some (m ||| 16384) := by rw [HS.out, if_neg (by omega)]
              refine ⟨⟨k + 1, m ||| 16384, by rw [hor.out], HB.out _ hS, by rw [HT.out, hS], by simp, by omega, trivial⟩, by simp [intOf]; omega⟩
          · clear h1 h15
            have hp : 2 ^ Int.toNat 15 = 32768 := by decide
            rw [hp] at HS
            have ha : Hid (bits .and .u64 ((m : Int) / 32768) 1 = (m : Int) / 32768 % 2) := by
              have h := bits_and_one (m / 32768) (by omega)
              push_cast at h
              exact h
            have hor : Hid (bits .or .u64 (m : Int) 32768 = ((m ||| 32768 : Nat) : Int)) := bits_or_nat m 32768 hm (by omega)
            clear hp
            go_wp2_with (first | ((with_reducible refine is_load ?_); refine a_load hO ?_; go_frame) | ((with_reducible refine is_load ?_); refine a_loadA hO ?_; go_frame) | ((with_reducible refine is_store ?_); refine a_store hO ?_; clear hO; intro w hO; go_frame) | ((with_reducible refine is_store ?_); refine a_storeA hO ?_; clear hO; intro w hO; go_frame) | ((with_reducible refine is_alloc ?_); refine a_alloc hO ?_; clear hO; intro w b_ hO; go_frame) | ((with_reducible refine is_box ?_); refine a_box hO ?_; clear hO; intro w b_ hO; go_frame) | ((with_reducible refine is_lit ?_); refine a_lit0 hO ?_; clear hO; intro w b_ hl_ hO; go_frame) | ((with_reducible refine is_lit ?_); refine a_lit1 hO ?_; clear hO; intro w b_ hl_ hO; go_frame) | ((with_reducible refine is_lit ?_); refine a_lit2 hO ?_; clear hO; intro w b_ hl_ hO; go_frame) | ((with_reducible refine is_lit ?_); refine a_lit3 hO ?_; clear hO; intro w b_ hl_ hO; go_frame) | ((with_reducible refine is_load ?_); (with_reducible apply st_loadF hO); rfl; rfl; rfl; infer_instance; assumption; (focus (repeat (first | exact Pick.here | assumption | apply Pick.there))); go_frame))
            · rename_i hb
              rw [ha.out] at hb
              simp only [beq_iff_eq] at hb
              go_ret2
              rw [HN.out (by rw [HS.out, if_pos (by omega)])]
              exact ⟨rfl, rfl⟩
            · rename_i hb
              rw [ha.out] at hb
              simp only [beq_eq_false_iff_ne, ne_eq] at hb
              have hS : stepB m 15 = some (m ||| 32768) := by rw [HS.out, if_neg (by omega)]
              refine ⟨⟨k + 1, m ||| 32768, by rw [hor.out], HB.out _ hS, by rw [HT.out, hS], by simp, by omega, trivial⟩, by simp [intOf]; omega⟩
    · have hkn : k = l.length := by omega
      subst hkn
      have hF : Hid (bitsF l = (m, decide (m ≠ 0))) := by
        show bitsF l = _
        have h := Hgo.out
        rw [List.take_length] at h
        unfold bitsF
        rw [h]
      go_wp2_with (first | ((with_reducible refine is_load ?_); refine a_load hO ?_; go_frame) | ((with_reducible refine is_load ?_); refine a_loadA hO ?_; go_frame) | ((with_reducible refine is_store ?_); refine a_store hO ?_; clear hO; intro w hO; go_frame) | ((with_reducible refine is_store ?_); refine a_storeA hO ?_; clear hO; intro w hO; go_frame) | ((with_reducible refine is_alloc ?_); refine a_alloc hO ?_; clear hO; intro w b_ hO; go_frame) | ((with_reducible refine is_box ?_); refine a_box hO ?_; clear hO; intro w b_ hO; go_frame) | ((with_reducible refine is_lit ?_); refine a_lit0 hO ?_; clear hO; intro w b_ hl_ hO; go_frame) | ((with_reducible refine is_lit ?_); refine a_lit1 hO ?_; clear hO; intro w b_ hl_ hO; go_frame) | ((with_reducible refine is_lit ?_); refine a_lit2 hO ?_; clear hO; intro w b_ hl_ hO; go_frame) | ((with_reducible refine is_lit ?_); refine a_lit3 hO ?_; clear hO; intro w b_ hl_ hO; go_frame))
      go_ret2
      rw [hF.out]
      exact ⟨by simp; rw [Bool.eq_iff_iff]; simp, rfl⟩
end Go.Proofs.Yteghmoijhcdpeaa
