/- The law AuthFulls: its walk, and that it returns true at every input. -/
import Derived.Test.YteghmoijhcdpeaaAvk
import Derived.Test.YteghmoijhcdpeaaAve
set_option linter.unusedSimpArgs false
set_option linter.unusedVariables false
set_option maxRecDepth 100000
namespace Go.Proofs.Yteghmoijhcdpeaa
open Go.RowKit

set_option maxHeartbeats 4000000 in
theorem fulls5 (a c : Int) : Spec Try.prog 5 [.int .i64 a, .int .i64 c] [] fun v B => v = .bool true ∧ B = [] := by
  refine Spec.enter Try.func5 rfl Try.ntmps5 rfl fun w0 C => ?_
  repeat refine Wst (k := ?_)
  refine W.gd rfl rfl (fun h1 => ?_) (fun h1 => ?_)
  · repeat' (first | refine Wst (k := ?_) | (refine W.call known9 ?_; rintro _ _ ⟨rfl, rfl⟩))
    exact W.ret (B := []) ⟨rfl, rfl⟩
  repeat refine Wst (k := ?_)
  refine W.gd rfl rfl (fun h2 => ?_) (fun h2 => ?_)
  · repeat' (first | refine Wst (k := ?_) | (refine W.call known9 ?_; rintro _ _ ⟨rfl, rfl⟩))
    exact W.ret (B := []) ⟨rfl, rfl⟩
  repeat refine Wst (k := ?_)
  refine W.gd rfl rfl (fun h3 => ?_) (fun h3 => ?_)
  · repeat' (first | refine Wst (k := ?_) | (refine W.call known9 ?_; rintro _ _ ⟨rfl, rfl⟩))
    exact W.ret (B := []) ⟨rfl, rfl⟩
  repeat refine Wst (k := ?_)
  refine W.cond rfl (fun h4 => ?_) (fun h4 => ?_)
  · repeat' (first | refine Wst (k := ?_) | (refine W.call known9 ?_; rintro _ _ ⟨rfl, rfl⟩))
    exact W.ret (B := []) ⟨rfl, rfl⟩
  obtain ⟨m, rfl⟩ : ∃ m : Nat, a = m := ⟨a.toNat, by omega⟩
  obtain ⟨k, rfl⟩ : ∃ k : Nat, c = k := ⟨c.toNat, by omega⟩
  repeat refine Wst (k := ?_)
  intro r
  repeat refine Wst (k := ?_)
  intro b1
  repeat refine Wst (k := ?_)
  intro b2
  repeat refine Wst (k := ?_)
  refine W.loop (fun q fr S => ∃ (i : Nat) (R M : Chunk), i ≤ m ∧ q = m - i ∧ RingC r (TN (min i 500)) M R ∧ fr = [(0, .int .i64 (m : Int)), (1, .int .i64 (k : Int)), (5, .pointer (some ⟨r, 0, none⟩)), (6, .slice (some ⟨b2, 0, none⟩) 1 1), (7, .int .i64 (i : Int))] ∧ S = [R, M, oneC b1 b2])
    ⟨0, [(r, .cells #[.map none] 44 (0, 0))], [], by omega, rfl, .inl ⟨rfl, rfl⟩, rfl, rfl⟩ ?_
  rintro q _ _ ⟨i, R, M, hi, rfl, hR, rfl, rfl⟩
  repeat refine Wst (k := ?_)
  refine W.cond rfl (fun h => ?_) (fun h => ?_)
  · have hi3 : i < 503 := by omega
    repeat' (first | refine Wst (k := ?_) | refine W.quo ?_ | refine W.rem ?_)
    intro b3
    repeat refine Wst (k := ?_)
    refine W.bts (rd_nm (b := b3) hi3) ?_
    repeat refine Wst (k := ?_)
    refine W.strAdd (hs := by show 7 + 3 ≤ _; decide) ?_
    rw [nm_eq]
    obtain ⟨z, hg, hz⟩ := grant_nm hi3
    repeat refine Wst (k := ?_)
    refine W.call (grants (L := oneC b1 b2) hg hR (TN_ok _) (one_rd b1 b2) rtG_short (by decide) (by show 10 ≤ 1000; decide)) ?_
    rintro _ _ ⟨R1, M1, rfl, hR1, rfl⟩
    rcases hz with ⟨rfl, hz⟩ | ⟨rfl, hz⟩
    all_goals
      repeat' (first | refine Wst (k := ?_) | refine W.boolOp ?_)
      refine W.gd rfl rfl (fun h5 => ?_) (fun h5 => ?_)
      · exfalso
        revert h5
        simp
        omega
      repeat refine Wst (k := ?_)
      exact W.post ⟨_, ⟨i + 1, R1, M1, by omega, rfl, hR1, rfl, rfl⟩, by omega⟩
  have hmi : i = m := by omega
  subst hmi
  have hm0 : 0 < min i 500 := by omega
  repeat refine Wst (k := ?_)
  refine W.loop (fun q fr S => ∃ (j : Nat) (A : Option Addr) (cp : Nat) (K : Chunk), j ≤ k ∧ q = k - j ∧ Sl 50 3 (.slice A j cp) j (List.replicate j [.slice (some ⟨b1, 0, none⟩) 1 1, .string ByteArray.empty, .int .u64 18446744073709551615]).flatten K ∧
    fr = [(1, .int .i64 (k : Int)), (5, .pointer (some ⟨r, 0, none⟩)), (6, .slice (some ⟨b2, 0, none⟩) 1 1), (9, .slice A j cp), (10, .int .i64 (j : Int))] ∧ S = [K, R, M, oneC b1 b2])
    ⟨0, none, 0, [], by omega, rfl, Sl.none_ _ _, rfl, rfl⟩ ?_
  rintro q _ _ ⟨j, A, cp, K, hj, rfl, hsl, rfl, rfl⟩
  repeat refine Wst (k := ?_)
  refine W.cond rfl (fun h => ?_) (fun h => ?_)
  · repeat refine Wst (k := ?_)
    intro b4
    repeat refine Wst (k := ?_)
    refine W.append (X := [(b4, .cells ⟨[.slice (some ⟨b1, 0, none⟩) 1 1, .string ByteArray.empty, .int .u64 18446744073709551615]⟩ 50 (0, 0))]) hsl (rd_in (n := 1) (T := 50) [.slice (some ⟨b1, 0, none⟩) 1 1, .string ByteArray.empty, .int .u64 18446744073709551615] List.mem_cons_self rfl) (fun A' c' K' hsl' => ?_) (by simp [Value.oneCell']) (by omega)
    rw [show (List.replicate j [Value.slice (some ⟨b1, 0, none⟩) 1 1, .string ByteArray.empty, .int .u64 18446744073709551615]).flatten ++ [.slice (some ⟨b1, 0, none⟩) 1 1, .string ByteArray.empty, .int .u64 18446744073709551615] = (List.replicate (j + 1) [Value.slice (some ⟨b1, 0, none⟩) 1 1, .string ByteArray.empty, .int .u64 18446744073709551615]).flatten by rw [List.replicate_succ', List.flatten_append]; simp] at hsl'
    repeat refine Wst (k := ?_)
    exact W.post ⟨_, ⟨j + 1, A', c', K', by omega, rfl, hsl', rfl, rfl⟩, by omega⟩
  have hjk : j = k := by omega
  subst hjk
  obtain ⟨T, z, hg, hT, hok, hz⟩ := grant_rep (k := j) hm0 (by omega)
  have hrd : RdR (K ++ oneC b1 b2) (K ++ oneC b1 b2) (.slice A j cp) (List.replicate j rtG) := by
    refine ⟨_, ?_, rtC_rep (r := rtG) (v := .slice (some ⟨b1, 0, none⟩) 1 1) (rd_in (T := 25) [.int .i64 4] (by simp) rfl) j⟩
    rw [List.length_replicate]
    exact hsl.rd.mono (fun p hp => by simp [hp])
  repeat refine Wst (k := ?_)
  refine W.call (grants (tok := nm 0) (L := K ++ oneC b1 b2) hg hR (TN_ok _) hrd (by intro x hx; rw [(List.mem_replicate.1 hx).2]; exact rtG_short rtG (by simp)) (by simp; omega) (by decide)) ?_
  rintro _ _ ⟨R1, M1, rfl, hR1, rfl⟩
  repeat refine Wst (k := ?_)
  refine W.call (rights19 (tok := nm 0) hR1 hok) ?_
  rintro _ _ ⟨A3, c3, K3, K4, rfl, _, rfl⟩
  rw [hT]
  rcases hz with ⟨hk, rfl, hgk⟩ | ⟨hk, rfl, hgk⟩
  · rw [hgk]
    repeat refine Wst (k := ?_)
    refine W.cond rfl (fun h => ?_) (fun h => absurd h (by omega))
    repeat' (first | refine Wst (k := ?_) | (refine W.call known9 ?_; rintro _ _ ⟨rfl, rfl⟩))
    exact W.ret (B := []) ⟨rfl, rfl⟩
  · rw [hgk]
    repeat refine Wst (k := ?_)
    refine W.cond rfl (fun h => absurd h (by omega)) (fun h => ?_)
    repeat refine Wst (k := ?_)
    refine W.gd rfl rfl (fun _ => ?_) (fun h => absurd (by simp) h)
    repeat' (first | refine Wst (k := ?_) | (refine W.call known9 ?_; rintro _ _ ⟨rfl, rfl⟩))
    exact W.ret (B := []) ⟨rfl, rfl⟩

theorem Spec.past {P : Program} {f : FuncId} {args : List Value} {F : Chunk} (h : Spec P f args [] fun v B => v = .bool true ∧ B = []) : Spec P f args [F] fun v B => v = .bool true ∧ B = [F] := fun w0 w C hO =>
  (h w0 w (F :: C) hO).mono fun _ _ ⟨v, B, e1, ⟨e2, e3⟩, e4⟩ => ⟨v, [F], e1, ⟨e2, rfl⟩, by subst e3; exact e4⟩
section
open Go.ChangeShapes Go.WideShapes Go.ChangeAt
theorem lifted5 (os : Os) (started : os.Started) (H : Type) (enc : TypeId × Value → H) :
    ReturnsInHanded {} Try.checked os 5 .any (Rows.authFullsSpec.pre6 enc Try.prog Try.f5 Rows.authFullsRow.domain false) (Rows.authFullsSpec.post enc Try.prog Try.f5 false true false false) := by
  refine returnsInHanded_of_change (C := Try.checked) own_try started (by kernel_rfl) Try.func5
    (ChangeSpec.witness6 (enc := enc) (C := Try.checked) false ⟨#[], #[.int .i64 0, .int .i64 0], []⟩ 8 (by kernel_rfl) (by kernel_rfl) (by kernel_rfl) (by kernel_rfl)) ?_
  intro W base args ds gs before hval0 hW hcnd _
  have hval : ∀ (j : Nat) t v, Try.f5.params[j]? = some t → args[j]? = some v → Value.okWide Try.prog W .any base t v := hval0
  have hW' := hW
  obtain ⟨p, q, hA0, hV, rfl, hfz, hnd⟩ := hW
  have hA : DataW.TrodAll enc Try.prog W 0 (fun _ => true) true Try.f5.params.toList args.toList ds p := hA0
  have hA1 := hA
  rw [Try.params5] at hA hval
  obtain ⟨v0, vs0, d0, ds0, p0, q0, hargs, rfl, rfl, h0, r0⟩ := trodAll_cons hA
  obtain ⟨v1, vs1, d1, ds1, p1, q1, rfl, rfl, rfl, h1, r1⟩ := trodAll_cons r0
  obtain ⟨rfl, rfl, rfl⟩ := trodAll_nil r1
  obtain rfl : args = #[v0, v1] := by cases args; simp_all
  obtain ⟨rfl, rfl⟩ := trodVars_none hV
  obtain ⟨a0, rfl, rfl, rfl, w0⟩ := open_int Try.underlying3 (hval 0 3 v0 rfl rfl) h0
  obtain ⟨a1, rfl, rfl, rfl, w1⟩ := open_int Try.underlying3 (hval 1 3 v1 rfl rfl) h1
  have hlt : ∀ x ∈ ([] ++ ([] ++ []) : List MemPlace), x.block < W.heap.size := fun x hx => absurd hx (by simp)
  refine (law_calls (fulls5 a0 a1).past).mono fun e W' ⟨he, hb⟩ => ?_
  subst he
  exact ⟨_, rfl, post_of_below (pa := [] ++ ([] ++ [])) (pv := []) hW' (fun _ _ _ => (trodAll_cons_mk (shut_bool Try.underlying4 _) trodAll_mk0)) (fun sp hsp => trodAll_stays laid_try hb (by kernel_rfl) hA1 hlt (fun x hx => absurd hx (by simp))) (fun _ _ => rfl) (by simp)
    hb (ok_one (by kernel_rfl) rfl (okWide_bool_mk Try.underlying4 _))⟩

theorem AuthFulls_holds : Rows.AuthFullsSaid :=
  OpenClaim.holds_of_wide 5 Try.f5 rfl rfl rfl rfl rfl rfl rfl ⟨rfl, rfl, rfl, rfl, rfl⟩ rfl rfl rfl rfl rfl (by kernel_rfl) Try.func5 (by kernel_rfl)
    (of_decide_eq_true (by kernel_rfl)) (by unfold Func.isWrapper; first | (rw [if_pos (by decide +kernel)]; kernel_rfl) | (rw [if_neg (by decide +kernel)]; exact ⟨rfl, rfl⟩))
    (fun os started H enc _ => lifted5 os started H enc)
#print axioms AuthFulls_holds

end
end Go.Proofs.Yteghmoijhcdpeaa
