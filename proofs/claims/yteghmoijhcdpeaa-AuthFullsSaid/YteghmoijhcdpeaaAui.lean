import Derived.Test.YteghmoijhcdpeaaAuh
--KINDS
set_option linter.unusedSimpArgs false
set_option linter.unusedVariables false
set_option maxRecDepth 100000
namespace Go.Proofs.Yteghmoijhcdpeaa
open Go.RowKit

/-- A growing slice of rights: its row K, its ops in M. -/
def SlR (v : Value) (n : Nat) (rs : List Rt) (K M : Chunk) : Prop := ∃ xs, n = rs.length ∧ Sl 50 3 v n xs K ∧ RtC M xs rs ∧ (∀ u ∈ xs, u.oneCell' = true)
def CopR (w0 : World) (C : List Chunk) (rs : List Rt) (e : Ending) (w' : World) : Prop := ∃ A' c' K M, e = .returned (.slice A' rs.length c') ∧ SlR (.slice A' rs.length c') rs.length rs K M ∧ Own w0 w' (K :: M :: C)
theorem RtC.one {M : Chunk} : ∀ {xs : List Value} {rs : List Rt}, RtC M xs rs → ∀ u ∈ xs, u.oneCell' = true
  | [], [], _ => by simp
  | vo :: vp :: vu :: xs, r :: rs, h => by
    obtain ⟨h1, rfl, rfl, h4⟩ := h
    obtain ⟨A, c, rfl, _⟩ := h1
    intro u hu
    simp only [List.mem_cons] at hu
    rcases hu with rfl | rfl | rfl | hu
    · rfl
    · rfl
    · rfl
    · exact RtC.one h4 u hu
  | [], _ :: _, h => h.elim
  | [_], _ :: _, h => h.elim
  | [_, _], _ :: _, h => h.elim
  | _ :: _, [], h => by simp [RtC] at h
/-- The cells of rights of which the first k lie in M, the others in N. -/
theorem RtC.set {M N : Chunk} {vo : Value} : ∀ {xs ys : List Value} {rs ss : List Rt} {r : Rt} {v : Value} {vp vu : Value}, RtC M xs rs → RtC N (v :: vp :: vu :: ys) (r :: ss) → RdO M vo r.ops →
    RtC M (xs ++ [vo, vp, vu]) (rs ++ [r]) ∧ RtC N ys ss := by
  intro xs ys rs ss r v vp vu h1 h2 h3
  exact ⟨RtC.append h1 ⟨h3, h2.2.1, h2.2.2.1, trivial⟩, h2.2.2.2⟩

set_option maxHeartbeats 2000000 in
theorem copied29 {w0 w : World} {C CX CM : List Chunk} {X M : Chunk} {v : Value} {rs : List Rt} (hO : Own w0 w C) (hX : Pick C X CX) (hM : Pick C M CM) (hv : RdR X M v rs) (hs : ∀ r ∈ rs, Short r) (hn : rs.length ≤ 1000) :
    Calls Try.prog 29 #[v] w (CopR w0 C rs) := by
  obtain ⟨xs, hv, hx⟩ := hv
  obtain ⟨A, c, rfl, hc, HV⟩ := hv.split
  have hone := hx.one
  have HX := Lib.hid hx
  have Hs := Lib.hid hs
  clear hv hs hx
  go_enter Try.func29, Try.ntmps29
  go_wp2_with (first | ((with_reducible refine is_load ?_); refine a_load hO ?_; go_frame) | ((with_reducible refine is_load ?_); refine a_loadA hO ?_; go_frame) | ((with_reducible refine is_store ?_); refine a_store hO ?_; clear hO; intro w hO; go_frame) | ((with_reducible refine is_store ?_); refine a_storeA hO ?_; clear hO; intro w hO; go_frame) | ((with_reducible refine is_alloc ?_); refine a_alloc hO ?_; clear hO; intro w b_ hO; go_frame) | ((with_reducible refine is_box ?_); refine a_box hO ?_; clear hO; intro w b_ hO; go_frame) | ((with_reducible refine is_lit ?_); refine a_lit0 hO ?_; clear hO; intro w b_ hl_ hO; go_frame) | ((with_reducible refine is_lit ?_); refine a_lit1 hO ?_; clear hO; intro w b_ hl_ hO; go_frame) | ((with_reducible refine is_lit ?_); refine a_lit2 hO ?_; clear hO; intro w b_ hl_ hO; go_frame) | ((with_reducible refine is_lit ?_); refine a_lit3 hO ?_; clear hO; intro w b_ hl_ hO; go_frame))
  go_at_call 42
  refine (clone42 hO hX HV.out hone (by omega)).mono ?_
  clear hO
  rintro e w ⟨A', c', K, rfl, hsl, hO⟩
  have Hsl := Lib.hid hsl
  obtain ⟨hl, hcase⟩ := hsl
  rcases hcase with ⟨hnil, h0, rfl⟩ | ⟨g, cap, cur, hval, rfl, hcap, hmx, hsz, htk⟩
  · injection hnil with e1 e2 e3
    have hr0 : rs = [] := List.eq_nil_of_length_eq_zero h0
    subst hr0
    subst e1 e3
    go_wp2_with (first | ((with_reducible refine is_load ?_); refine a_load hO ?_; go_frame) | ((with_reducible refine is_load ?_); refine a_loadA hO ?_; go_frame) | ((with_reducible refine is_store ?_); refine a_store hO ?_; clear hO; intro w hO; go_frame) | ((with_reducible refine is_store ?_); refine a_storeA hO ?_; clear hO; intro w hO; go_frame) | ((with_reducible refine is_alloc ?_); refine a_alloc hO ?_; clear hO; intro w b_ hO; go_frame) | ((with_reducible refine is_box ?_); refine a_box hO ?_; clear hO; intro w b_ hO; go_frame) | ((with_reducible refine is_lit ?_); refine a_lit0 hO ?_; clear hO; intro w b_ hl_ hO; go_frame) | ((with_reducible refine is_lit ?_); refine a_lit1 hO ?_; clear hO; intro w b_ hl_ hO; go_frame) | ((with_reducible refine is_lit ?_); refine a_lit2 hO ?_; clear hO; intro w b_ hl_ hO; go_frame) | ((with_reducible refine is_lit ?_); refine a_lit3 hO ?_; clear hO; intro w b_ hl_ hO; go_frame))
    go_loopw [9] (fun i wr => i = .int .i64 0 ∧ wr = w) (fun _ _ => 0)
    case atStart => exact ⟨rfl, rfl⟩
    case round =>
      obtain ⟨rfl, rfl⟩ := hrel
      go_wp2_with (first | ((with_reducible refine is_load ?_); refine a_load hO ?_; go_frame) | ((with_reducible refine is_load ?_); refine a_loadA hO ?_; go_frame) | ((with_reducible refine is_store ?_); refine a_store hO ?_; clear hO; intro w hO; go_frame) | ((with_reducible refine is_store ?_); refine a_storeA hO ?_; clear hO; intro w hO; go_frame) | ((with_reducible refine is_alloc ?_); refine a_alloc hO ?_; clear hO; intro w b_ hO; go_frame) | ((with_reducible refine is_box ?_); refine a_box hO ?_; clear hO; intro w b_ hO; go_frame) | ((with_reducible refine is_lit ?_); refine a_lit0 hO ?_; clear hO; intro w b_ hl_ hO; go_frame) | ((with_reducible refine is_lit ?_); refine a_lit1 hO ?_; clear hO; intro w b_ hl_ hO; go_frame) | ((with_reducible refine is_lit ?_); refine a_lit2 hO ?_; clear hO; intro w b_ hl_ hO; go_frame) | ((with_reducible refine is_lit ?_); refine a_lit3 hO ?_; clear hO; intro w b_ hl_ hO; go_frame))
      go_ret
      exact ⟨none, 0, [], [], rfl, ⟨[], rfl, Sl.none_ _ _, trivial, by simp⟩, hO.none_⟩
  · injection hval with e1 e2 e3
    subst e1 e3
    go_wp2_with (first | ((with_reducible refine is_load ?_); refine a_load hO ?_; go_frame) | ((with_reducible refine is_load ?_); refine a_loadA hO ?_; go_frame) | ((with_reducible refine is_store ?_); refine a_store hO ?_; clear hO; intro w hO; go_frame) | ((with_reducible refine is_store ?_); refine a_storeA hO ?_; clear hO; intro w hO; go_frame) | ((with_reducible refine is_alloc ?_); refine a_alloc hO ?_; clear hO; intro w b_ hO; go_frame) | ((with_reducible refine is_box ?_); refine a_box hO ?_; clear hO; intro w b_ hO; go_frame) | ((with_reducible refine is_lit ?_); refine a_lit0 hO ?_; clear hO; intro w b_ hl_ hO; go_frame) | ((with_reducible refine is_lit ?_); refine a_lit1 hO ?_; clear hO; intro w b_ hl_ hO; go_frame) | ((with_reducible refine is_lit ?_); refine a_lit2 hO ?_; clear hO; intro w b_ hl_ hO; go_frame) | ((with_reducible refine is_lit ?_); refine a_lit3 hO ?_; clear hO; intro w b_ hl_ hO; go_frame))
    go_loopw [9] (fun i wr => ∃ (k : Nat) (cu : Array Value) (Mk : Chunk) (dn re : List Value), i = .int .i64 (k : Int) ∧ k ≤ rs.length ∧ cu.size = c' * 3 ∧ cu.toList.take (rs.length * 3) = dn ++ re ∧ dn.length = k * 3 ∧
      RtC Mk dn (rs.take k) ∧ RtC M re (rs.drop k) ∧ Own w0 wr ([(g, .cells cu 50 (0, 0))] :: Mk :: C)) (fun i _ => (rs.length - (intOf i).toNat))
    case atStart => exact ⟨0, cur, [], [], xs, rfl, by omega, hsz, by simpa using htk, rfl, trivial, HX.out, hO.none_.swap⟩
    case round =>
      clear hO
      obtain ⟨k, cu, Mk, dn, re, rfl, hk, hcu, htk', hdn, hdone, hrest, hO⟩ := hrel
      have Hdone := Lib.hid hdone
      have Htk := Lib.hid htk'
      clear hdone htk'
      by_cases hlt : k < rs.length
      · have hd : rs.drop k = rs[k] :: rs.drop (k + 1) := List.drop_eq_getElem_cons hlt
        rw [hd] at hrest
        have hsr := (Hs.out rs[k] (List.getElem_mem hlt)).1
        have hT : rs.take (k + 1) = rs.take k ++ [rs[k]] := List.take_succ_eq_append_getElem hlt
        have HT := Lib.hid hT
        clear hT hd
        generalize rs[k] = r at *
        match re, hrest, Htk with
        | vo :: vp :: vu :: re', hrest, Htk =>
          obtain ⟨h1, rfl, rfl, h4⟩ := hrest
          have hcell : cu[k * 3]? = some vo := by
            have h := congrArg (fun l => l[k * 3]?) Htk.out
            simp only [List.getElem?_take] at h
            rw [if_pos (by omega), List.getElem?_append_right (by omega), hdn, Nat.sub_self] at h
            simpa using h
          have hlt3 : k * 3 < cu.size := (Array.getElem?_eq_some_iff.1 hcell).1
          obtain ⟨Ao, co, rfl, hco, HO⟩ := h1.split
          have H4 := Lib.hid h4
          clear h1 h4
          have hset : ∀ v2 : Value, (cu.setIfInBounds (k * 3) v2).toList.take (rs.length * 3) = (dn ++ [v2, .string r.pfx, .int .u64 (r.til : Int)]) ++ re' := by
            intro v2
            rw [Array.toList_setIfInBounds, List.take_set, Htk.out, List.set_append_right _ _ (by omega), hdn, Nat.sub_self]
            simp
          have Hset := Lib.hid hset
          clear hset
          go_wp2_with (first | ((with_reducible refine is_load ?_); refine a_load hO ?_; go_frame) | ((with_reducible refine is_load ?_); refine a_loadA hO ?_; go_frame) | ((with_reducible refine is_store ?_); refine a_store hO ?_; clear hO; intro w hO; go_frame) | ((with_reducible refine is_store ?_); refine a_storeA hO ?_; clear hO; intro w hO; go_frame) | ((with_reducible refine is_alloc ?_); refine a_alloc hO ?_; clear hO; intro w b_ hO; go_frame) | ((with_reducible refine is_box ?_); refine a_box hO ?_; clear hO; intro w b_ hO; go_frame) | ((with_reducible refine is_lit ?_); refine a_lit0 hO ?_; clear hO; intro w b_ hl_ hO; go_frame) | ((with_reducible refine is_lit ?_); refine a_lit1 hO ?_; clear hO; intro w b_ hl_ hO; go_frame) | ((with_reducible refine is_lit ?_); refine a_lit2 hO ?_; clear hO; intro w b_ hl_ hO; go_frame) | ((with_reducible refine is_lit ?_); refine a_lit3 hO ?_; clear hO; intro w b_ hl_ hO; go_frame))
          go_at_call 43
          refine (clone43 hO (.there (.there hM)) HO.out (opv_one _) (by omega)).mono ?_
          clear hO
          rintro e w ⟨A2, c2, K2, rfl, hs2, hO⟩
          have Hs2 := Lib.hid hs2
          clear hs2
          go_wp2_with (first | ((with_reducible refine is_load ?_); refine a_load hO ?_; go_frame) | ((with_reducible refine is_load ?_); refine a_loadA hO ?_; go_frame) | ((with_reducible refine is_store ?_); refine a_store hO ?_; clear hO; intro w hO; go_frame) | ((with_reducible refine is_store ?_); refine a_storeA hO ?_; clear hO; intro w hO; go_frame) | ((with_reducible refine is_alloc ?_); refine a_alloc hO ?_; clear hO; intro w b_ hO; go_frame) | ((with_reducible refine is_box ?_); refine a_box hO ?_; clear hO; intro w b_ hO; go_frame) | ((with_reducible refine is_lit ?_); refine a_lit0 hO ?_; clear hO; intro w b_ hl_ hO; go_frame) | ((with_reducible refine is_lit ?_); refine a_lit1 hO ?_; clear hO; intro w b_ hl_ hO; go_frame) | ((with_reducible refine is_lit ?_); refine a_lit2 hO ?_; clear hO; intro w b_ hl_ hO; go_frame) | ((with_reducible refine is_lit ?_); refine a_lit3 hO ?_; clear hO; intro w b_ hl_ hO; go_frame))
          refine ⟨⟨k + 1, _, K2 ++ Mk, dn ++ [.slice A2 r.ops.length c2, .string r.pfx, .int .u64 (r.til : Int)], re', by simp, by omega, ?_, Hset.out _, by simp [hdn]; omega, ?_, H4.out, ?_⟩, by simp [intOf]; omega⟩
          · simp [hcu]
          · rw [HT.out]
            refine RtC.append (Hdone.out.mono (by intro p hp; simp [hp])) ⟨?_, rfl, rfl, trivial⟩
            exact (Hs2.out.rd).mono (by intro p hp; simp [hp])
          · exact hO.perm (by simp)
        | [], hrest, Htk => exact hrest.elim
        | [_], hrest, Htk => exact hrest.elim
        | [_, _], hrest, Htk => exact hrest.elim
      · have hkn : k = rs.length := by omega
        subst hkn
        have hre : re = [] := by
          have h := hrest.len
          simp at h
          exact List.eq_nil_of_length_eq_zero (by simpa using h)
        subst hre
        go_wp2_with (first | ((with_reducible refine is_load ?_); refine a_load hO ?_; go_frame) | ((with_reducible refine is_load ?_); refine a_loadA hO ?_; go_frame) | ((with_reducible refine is_store ?_); refine a_store hO ?_; clear hO; intro w hO; go_frame) | ((with_reducible refine is_store ?_); refine a_storeA hO ?_; clear hO; intro w hO; go_frame) | ((with_reducible refine is_alloc ?_); refine a_alloc hO ?_; clear hO; intro w b_ hO; go_frame) | ((with_reducible refine is_box ?_); refine a_box hO ?_; clear hO; intro w b_ hO; go_frame) | ((with_reducible refine is_lit ?_); refine a_lit0 hO ?_; clear hO; intro w b_ hl_ hO; go_frame) | ((with_reducible refine is_lit ?_); refine a_lit1 hO ?_; clear hO; intro w b_ hl_ hO; go_frame) | ((with_reducible refine is_lit ?_); refine a_lit2 hO ?_; clear hO; intro w b_ hl_ hO; go_frame) | ((with_reducible refine is_lit ?_); refine a_lit3 hO ?_; clear hO; intro w b_ hl_ hO; go_frame))
        go_ret
        refine ⟨_, _, _, Mk, rfl, ⟨dn, rfl, ⟨hdn, .inr ⟨g, c', cu, rfl, rfl, hcap, hmx, hcu, by simpa using Htk.out⟩⟩, by simpa using Hdone.out, Hdone.out.one⟩, hO⟩
end Go.Proofs.Yteghmoijhcdpeaa
