import Derived.Test.YteghmoijhcdpeaaAug
--KINDS
set_option linter.unusedSimpArgs false
set_option linter.unusedVariables false
set_option maxRecDepth 100000
namespace Go.Proofs.Yteghmoijhcdpeaa
open Go.RowKit

theorem st_loadR {P : Program} {ops : Array Oper} {rest : List Oper} {o : Oper} {a : Act} {w0 w : World} {Q : Exit → Act → World → Prop} {C C' : List Chunk} {F : Chunk} {b off : Nat} {t : TypeId} {x : Operand} {v0 v1 v2 : Value}
    (hO : Own w0 w C) (hw : Region.wanted o (yielded ops a.tmps) = true) (ho : o.op = .load t x) (ha : a.eval x = .pointer (some ⟨b, off, none⟩)) (hs : Agg P t 3)
    (h0 : FCell F ⟨b, off, none⟩ v0) (h1 : FCell F ⟨b, off + 1, none⟩ v1) (h2 : FCell F ⟨b, off + 2, none⟩ v2) (hp : Pick C F C') (h : wpList P ops Q rest (a.put o.dst (.agg #[v0, v1, v2])) w) : wpList P ops Q (o :: rest) a w := by
  refine st_loadAF (l := [v0, v1, v2]) hO hw ho ha hs rfl (fun j v hv => ?_) hp h
  match j, hv with
  | 0, hv => simp only [List.getElem?_cons_zero, Option.some.injEq] at hv; subst hv; exact h0
  | 1, hv => simp only [List.getElem?_cons_succ, List.getElem?_cons_zero, Option.some.injEq] at hv; subst hv; exact h1
  | 2, hv => simp only [List.getElem?_cons_succ, List.getElem?_cons_zero, Option.some.injEq] at hv; subst hv; exact h2
  | j + 3, hv => simp at hv

/-- Rights that are not too long. -/
def Short (r : Rt) : Prop := r.ops.length ≤ 1000 ∧ r.pfx.size ≤ 1000000
/-- The function g with what it has caught asks p of a right. -/
structure Says (g : Nat) (caps : Array Value) (w0 : World) (C : List Chunk) (M : Chunk) (p : Rt → Bool) : Prop where
  enter : ∀ (args : Array Value) (w : World), (callFunc g args).run Try.prog w = .ok (.enter g args) w
  does : ∀ {w : World} {vo : Value} {r : Rt}, Own w0 w C → RdO M vo r.ops → Short r → Calls Try.prog g (#[.agg #[vo, .string r.pfx, .int .u64 (r.til : Int)]] ++ caps) w fun e w' => e = .returned (.bool (p r)) ∧ Own w0 w' C

theorem says27 {w0 : World} {C CM : List Chunk} {M : Chunk} (hM : Pick C M CM) : Says 27 #[] w0 C M (fun r => !validR r) :=
  ⟨fun _ _ => by kernel_rfl, fun hO ho hs => grant27 hO hM ho hs.1⟩
theorem check30 {w0 w : World} {C C1 C2 C3 CX : List Chunk} {X : Chunk} {vo : Value} {r : Rt} {bn bc bs now : Nat} {op : Int} {name : ByteArray} {cs : Array Value} (hO : Own w0 w C) (hX : Pick C X CX) (ho : RdO X vo r.ops) (hr : Short r)
    (h1 : Pick C [(bn, .cells #[.int .u64 (now : Int)] 24 (0, 0))] C1) (h2 : Pick C [(bc, .cells cs 29 (0, 0))] C2) (h3 : Pick C [(bs, .cells #[.string name] 9 (0, 0))] C3) (hc : cs[0]? = some (.int .i64 op)) (hn : name.size ≤ 1000000) (hop : 1 ≤ op ∧ op ≤ 15) :
    Calls Try.prog 30 #[.agg #[vo, .string r.pfx, .int .u64 (r.til : Int)], .pointer (some ⟨bn, 0, none⟩), .pointer (some ⟨bc, 0, none⟩), .pointer (some ⟨bs, 0, none⟩)] w fun e w' => e = .returned (.bool (permitsF r now op name)) ∧ Own w0 w' C := by
  obtain ⟨A, c, rfl, hc', HO⟩ := ho.split
  have Hop := Lib.hid hop
  clear ho hop
  go_enter Try.func30, Try.ntmps30
  go_wp2_with (first | ((with_reducible refine is_load ?_); refine a_load hO ?_; go_frame) | ((with_reducible refine is_load ?_); refine a_loadA hO ?_; go_frame) | ((with_reducible refine is_store ?_); refine a_store hO ?_; clear hO; intro w hO; go_frame) | ((with_reducible refine is_store ?_); refine a_storeA hO ?_; clear hO; intro w hO; go_frame) | ((with_reducible refine is_alloc ?_); refine a_alloc hO ?_; clear hO; intro w b_ hO; go_frame) | ((with_reducible refine is_box ?_); refine a_box hO ?_; clear hO; intro w b_ hO; go_frame) | ((with_reducible refine is_lit ?_); refine a_lit0 hO ?_; clear hO; intro w b_ hl_ hO; go_frame) | ((with_reducible refine is_lit ?_); refine a_lit1 hO ?_; clear hO; intro w b_ hl_ hO; go_frame) | ((with_reducible refine is_lit ?_); refine a_lit2 hO ?_; clear hO; intro w b_ hl_ hO; go_frame) | ((with_reducible refine is_lit ?_); refine a_lit3 hO ?_; clear hO; intro w b_ hl_ hO; go_frame))
  go_at_call 31
  refine (permits31 hO (.there hX) HO.out hr.1 hr.2 hn Hop.out.1 Hop.out.2).mono ?_
  clear hO
  rintro e w ⟨rfl, hO⟩
  go_wp2_with (first | ((with_reducible refine is_load ?_); refine a_load hO ?_; go_frame) | ((with_reducible refine is_load ?_); refine a_loadA hO ?_; go_frame) | ((with_reducible refine is_store ?_); refine a_store hO ?_; clear hO; intro w hO; go_frame) | ((with_reducible refine is_store ?_); refine a_storeA hO ?_; clear hO; intro w hO; go_frame) | ((with_reducible refine is_alloc ?_); refine a_alloc hO ?_; clear hO; intro w b_ hO; go_frame) | ((with_reducible refine is_box ?_); refine a_box hO ?_; clear hO; intro w b_ hO; go_frame) | ((with_reducible refine is_lit ?_); refine a_lit0 hO ?_; clear hO; intro w b_ hl_ hO; go_frame) | ((with_reducible refine is_lit ?_); refine a_lit1 hO ?_; clear hO; intro w b_ hl_ hO; go_frame) | ((with_reducible refine is_lit ?_); refine a_lit2 hO ?_; clear hO; intro w b_ hl_ hO; go_frame) | ((with_reducible refine is_lit ?_); refine a_lit3 hO ?_; clear hO; intro w b_ hl_ hO; go_frame))
  go_ret
  exact ⟨rfl, hO.drop⟩
theorem says30 {w0 : World} {C C1 C2 C3 CM : List Chunk} {M : Chunk} {bn bc bs now : Nat} {op : Int} {name : ByteArray} {cs : Array Value} (hM : Pick C M CM)
    (h1 : Pick C [(bn, .cells #[.int .u64 (now : Int)] 24 (0, 0))] C1) (h2 : Pick C [(bc, .cells cs 29 (0, 0))] C2) (h3 : Pick C [(bs, .cells #[.string name] 9 (0, 0))] C3) (hc : cs[0]? = some (.int .i64 op)) (hn : name.size ≤ 1000000) (hop : 1 ≤ op ∧ op ≤ 15) :
    Says 30 #[.pointer (some ⟨bn, 0, none⟩), .pointer (some ⟨bc, 0, none⟩), .pointer (some ⟨bs, 0, none⟩)] w0 C M (fun r => permitsF r now op name) :=
  ⟨fun _ _ => by kernel_rfl, fun hO ho hs => check30 hO hM ho hs h1 h2 h3 hc hn hop⟩

set_option maxHeartbeats 2000000 in
theorem index39 {w0 w : World} {C CX CM : List Chunk} {X M : Chunk} {v : Value} {rs : List Rt} {g : Nat} {caps : Array Value} {p : Rt → Bool} (hO : Own w0 w C) (hX : Pick C X CX) (hM : Pick C M CM) (hv : RdR X M v rs) (hg : Says g caps w0 C M p) (hs : ∀ r ∈ rs, Short r) (hn : rs.length ≤ 1000) :
    Calls Try.prog 39 #[v, .func (.func g) #[] caps] w fun e w' => (∃ i : Int, e = .returned (.int .i64 i) ∧ (0 ≤ i ↔ rs.any p = true)) ∧ Own w0 w' C := by
  obtain ⟨A, c, rfl, hc, HV⟩ := hv.split
  have he := hg.enter
  have Hg := Lib.hid hg
  have Hs := Lib.hid hs
  clear hv hg hs
  go_enter Try.func39, Try.ntmps39
  go_wp2_with (first | ((with_reducible refine is_load ?_); refine a_load hO ?_; go_frame) | ((with_reducible refine is_load ?_); refine a_loadA hO ?_; go_frame) | ((with_reducible refine is_store ?_); refine a_store hO ?_; clear hO; intro w hO; go_frame) | ((with_reducible refine is_store ?_); refine a_storeA hO ?_; clear hO; intro w hO; go_frame) | ((with_reducible refine is_alloc ?_); refine a_alloc hO ?_; clear hO; intro w b_ hO; go_frame) | ((with_reducible refine is_box ?_); refine a_box hO ?_; clear hO; intro w b_ hO; go_frame) | ((with_reducible refine is_lit ?_); refine a_lit0 hO ?_; clear hO; intro w b_ hl_ hO; go_frame) | ((with_reducible refine is_lit ?_); refine a_lit1 hO ?_; clear hO; intro w b_ hl_ hO; go_frame) | ((with_reducible refine is_lit ?_); refine a_lit2 hO ?_; clear hO; intro w b_ hl_ hO; go_frame) | ((with_reducible refine is_lit ?_); refine a_lit3 hO ?_; clear hO; intro w b_ hl_ hO; go_frame))
  go_loopw [8] (fun i wr => ∃ k : Nat, i = .int .i64 (k : Int) ∧ k ≤ rs.length ∧ (rs.take k).any p = false ∧ Own w0 wr C) (fun i _ => (rs.length - (intOf i).toNat))
  case atStart => exact ⟨0, rfl, by omega, rfl, hO⟩
  case round =>
    clear hO
    obtain ⟨k, rfl, hk, hall, hO⟩ := hrel
    have Hall := Lib.hid hall
    clear hall
    by_cases hlt : k < rs.length
    · obtain ⟨b, off, vo, hA, ho, f0, f1, f2⟩ := HV.out.at_ hlt
      subst hA
      have HT : Hid ((rs.take (k + 1)).any p = p rs[k]) := by
        show (rs.take (k + 1)).any p = _
        rw [List.take_succ_eq_append_getElem hlt, List.any_append, Hall.out]
        simp
      have HI : Hid (p rs[k] = true → rs.any p = true) := fun h => List.any_eq_true.2 ⟨rs[k], List.getElem_mem hlt, h⟩
      have hsr := Hs.out rs[k] (List.getElem_mem hlt)
      generalize rs[k] = r at *
      go_wp2_with (first | ((with_reducible refine is_load ?_); refine a_load hO ?_; go_frame) | ((with_reducible refine is_load ?_); refine a_loadA hO ?_; go_frame) | ((with_reducible refine is_store ?_); refine a_store hO ?_; clear hO; intro w hO; go_frame) | ((with_reducible refine is_store ?_); refine a_storeA hO ?_; clear hO; intro w hO; go_frame) | ((with_reducible refine is_alloc ?_); refine a_alloc hO ?_; clear hO; intro w b_ hO; go_frame) | ((with_reducible refine is_box ?_); refine a_box hO ?_; clear hO; intro w b_ hO; go_frame) | ((with_reducible refine is_lit ?_); refine a_lit0 hO ?_; clear hO; intro w b_ hl_ hO; go_frame) | ((with_reducible refine is_lit ?_); refine a_lit1 hO ?_; clear hO; intro w b_ hl_ hO; go_frame) | ((with_reducible refine is_lit ?_); refine a_lit2 hO ?_; clear hO; intro w b_ hl_ hO; go_frame) | ((with_reducible refine is_lit ?_); refine a_lit3 hO ?_; clear hO; intro w b_ hl_ hO; go_frame) | ((with_reducible refine is_load ?_); (with_reducible apply st_loadR hO); rfl; rfl; rfl; infer_instance; assumption; assumption; assumption; (focus (repeat (first | exact Pick.here | assumption | apply Pick.there))); go_frame))
      refine (Hg.out.does hO ho hsr).mono ?_
      clear hO
      rintro e w ⟨rfl, hO⟩
      generalize hpr : p r = b at *
      clear hpr
      cases b
      · go_wp2_with (first | ((with_reducible refine is_load ?_); refine a_load hO ?_; go_frame) | ((with_reducible refine is_load ?_); refine a_loadA hO ?_; go_frame) | ((with_reducible refine is_store ?_); refine a_store hO ?_; clear hO; intro w hO; go_frame) | ((with_reducible refine is_store ?_); refine a_storeA hO ?_; clear hO; intro w hO; go_frame) | ((with_reducible refine is_alloc ?_); refine a_alloc hO ?_; clear hO; intro w b_ hO; go_frame) | ((with_reducible refine is_box ?_); refine a_box hO ?_; clear hO; intro w b_ hO; go_frame) | ((with_reducible refine is_lit ?_); refine a_lit0 hO ?_; clear hO; intro w b_ hl_ hO; go_frame) | ((with_reducible refine is_lit ?_); refine a_lit1 hO ?_; clear hO; intro w b_ hl_ hO; go_frame) | ((with_reducible refine is_lit ?_); refine a_lit2 hO ?_; clear hO; intro w b_ hl_ hO; go_frame) | ((with_reducible refine is_lit ?_); refine a_lit3 hO ?_; clear hO; intro w b_ hl_ hO; go_frame))
        exact ⟨⟨k + 1, by simp, by omega, HT.out, hO⟩, by simp [intOf]; omega⟩
      · go_wp2_with (first | ((with_reducible refine is_load ?_); refine a_load hO ?_; go_frame) | ((with_reducible refine is_load ?_); refine a_loadA hO ?_; go_frame) | ((with_reducible refine is_store ?_); refine a_store hO ?_; clear hO; intro w hO; go_frame) | ((with_reducible refine is_store ?_); refine a_storeA hO ?_; clear hO; intro w hO; go_frame) | ((with_reducible refine is_alloc ?_); refine a_alloc hO ?_; clear hO; intro w b_ hO; go_frame) | ((with_reducible refine is_box ?_); refine a_box hO ?_; clear hO; intro w b_ hO; go_frame) | ((with_reducible refine is_lit ?_); refine a_lit0 hO ?_; clear hO; intro w b_ hl_ hO; go_frame) | ((with_reducible refine is_lit ?_); refine a_lit1 hO ?_; clear hO; intro w b_ hl_ hO; go_frame) | ((with_reducible refine is_lit ?_); refine a_lit2 hO ?_; clear hO; intro w b_ hl_ hO; go_frame) | ((with_reducible refine is_lit ?_); refine a_lit3 hO ?_; clear hO; intro w b_ hl_ hO; go_frame))
        go_ret
        exact ⟨⟨k, rfl, ⟨fun _ => HI.out (by simp), fun _ => by omega⟩⟩, hO⟩
    · have hkn : k = rs.length := by omega
      subst hkn
      have hA : rs.any p = false := by have h := Hall.out; rwa [List.take_length] at h
      have HA := Lib.hid hA
      clear hA
      go_wp2_with (first | ((with_reducible refine is_load ?_); refine a_load hO ?_; go_frame) | ((with_reducible refine is_load ?_); refine a_loadA hO ?_; go_frame) | ((with_reducible refine is_store ?_); refine a_store hO ?_; clear hO; intro w hO; go_frame) | ((with_reducible refine is_store ?_); refine a_storeA hO ?_; clear hO; intro w hO; go_frame) | ((with_reducible refine is_alloc ?_); refine a_alloc hO ?_; clear hO; intro w b_ hO; go_frame) | ((with_reducible refine is_box ?_); refine a_box hO ?_; clear hO; intro w b_ hO; go_frame) | ((with_reducible refine is_lit ?_); refine a_lit0 hO ?_; clear hO; intro w b_ hl_ hO; go_frame) | ((with_reducible refine is_lit ?_); refine a_lit1 hO ?_; clear hO; intro w b_ hl_ hO; go_frame) | ((with_reducible refine is_lit ?_); refine a_lit2 hO ?_; clear hO; intro w b_ hl_ hO; go_frame) | ((with_reducible refine is_lit ?_); refine a_lit3 hO ?_; clear hO; intro w b_ hl_ hO; go_frame))
      go_ret
      exact ⟨⟨-1, rfl, by simp [HA.out]⟩, hO⟩
theorem contains26 {w0 w : World} {C CX CM : List Chunk} {X M : Chunk} {v : Value} {rs : List Rt} {g : Nat} {caps : Array Value} {p : Rt → Bool} (hO : Own w0 w C) (hX : Pick C X CX) (hM : Pick C M CM) (hv : RdR X M v rs) (hg : Says g caps w0 C M p) (hs : ∀ r ∈ rs, Short r) (hn : rs.length ≤ 1000) :
    Calls Try.prog 26 #[v, .func (.func g) #[] caps] w fun e w' => e = .returned (.bool (rs.any p)) ∧ Own w0 w' C := by
  obtain ⟨A, c, rfl, hc, HV⟩ := hv.split
  have he := hg.enter
  have Hg := Lib.hid hg
  have Hs := Lib.hid hs
  clear hv hg hs
  go_enter Try.func26, Try.ntmps26
  go_wp2_with (first | ((with_reducible refine is_load ?_); refine a_load hO ?_; go_frame) | ((with_reducible refine is_load ?_); refine a_loadA hO ?_; go_frame) | ((with_reducible refine is_store ?_); refine a_store hO ?_; clear hO; intro w hO; go_frame) | ((with_reducible refine is_store ?_); refine a_storeA hO ?_; clear hO; intro w hO; go_frame) | ((with_reducible refine is_alloc ?_); refine a_alloc hO ?_; clear hO; intro w b_ hO; go_frame) | ((with_reducible refine is_box ?_); refine a_box hO ?_; clear hO; intro w b_ hO; go_frame) | ((with_reducible refine is_lit ?_); refine a_lit0 hO ?_; clear hO; intro w b_ hl_ hO; go_frame) | ((with_reducible refine is_lit ?_); refine a_lit1 hO ?_; clear hO; intro w b_ hl_ hO; go_frame) | ((with_reducible refine is_lit ?_); refine a_lit2 hO ?_; clear hO; intro w b_ hl_ hO; go_frame) | ((with_reducible refine is_lit ?_); refine a_lit3 hO ?_; clear hO; intro w b_ hl_ hO; go_frame))
  go_at_call 39
  refine (index39 hO hX hM HV.out Hg.out Hs.out hn).mono ?_
  clear hO
  rintro e w ⟨⟨i, rfl, hi⟩, hO⟩
  have Hi := Lib.hid hi
  clear hi
  go_wp2_with (first | ((with_reducible refine is_load ?_); refine a_load hO ?_; go_frame) | ((with_reducible refine is_load ?_); refine a_loadA hO ?_; go_frame) | ((with_reducible refine is_store ?_); refine a_store hO ?_; clear hO; intro w hO; go_frame) | ((with_reducible refine is_store ?_); refine a_storeA hO ?_; clear hO; intro w hO; go_frame) | ((with_reducible refine is_alloc ?_); refine a_alloc hO ?_; clear hO; intro w b_ hO; go_frame) | ((with_reducible refine is_box ?_); refine a_box hO ?_; clear hO; intro w b_ hO; go_frame) | ((with_reducible refine is_lit ?_); refine a_lit0 hO ?_; clear hO; intro w b_ hl_ hO; go_frame) | ((with_reducible refine is_lit ?_); refine a_lit1 hO ?_; clear hO; intro w b_ hl_ hO; go_frame) | ((with_reducible refine is_lit ?_); refine a_lit2 hO ?_; clear hO; intro w b_ hl_ hO; go_frame) | ((with_reducible refine is_lit ?_); refine a_lit3 hO ?_; clear hO; intro w b_ hl_ hO; go_frame))
  go_ret
  refine ⟨?_, hO⟩
  have : rs.any p = decide (0 ≤ i) := by rw [Bool.eq_iff_iff, ← Hi.out]; simp
  rw [this]
  rfl
end Go.Proofs.Yteghmoijhcdpeaa
