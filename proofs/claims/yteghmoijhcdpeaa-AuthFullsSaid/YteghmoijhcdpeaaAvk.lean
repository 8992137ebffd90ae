/- The law AuthFulls: Rights (19), how many tokens and rights there may be, and its walk. -/
import Derived.Test.YteghmoijhcdpeaaAvb
import Derived.Test.YteghmoijhcdpeaaAvf
import Derived.Test.YteghmoijhcdpeaaWg
set_option linter.unusedSimpArgs false
set_option linter.unusedVariables false
set_option maxRecDepth 100000
namespace Go.Proofs.Yteghmoijhcdpeaa
open Go.RowKit

instance : TruT Try.prog 4 := ⟨by kernel_rfl⟩
theorem rights19 {M R : Chunk} {r : Nat} {T : Tk} {tok : ByteArray} (hR : RingC r T M R) (hT : TkOk T) :
    Spec Try.prog 19 [.pointer (some ⟨r, 0, none⟩), .string tok] [R, M] fun v B => ∃ A c K1 K2, v = .tuple #[.slice A (getK T tok).length c, .int .i64 (if hasK T tok then 0 else 9)] ∧ SlR (.slice A (getK T tok).length c) (getK T tok).length (getK T tok) K1 K2 ∧ B = [K1, K2, R, M] := by
  refine Spec.enter Try.func19 rfl Try.ntmps19 rfl fun w0 C => ?_
  obtain ⟨hk1, hk2⟩ := getK_ok hT tok
  obtain ⟨mv, R', A, c, rfl, hn0, hn1, hrd, hrun⟩ := hR.split tok
  repeat refine Wst (k := ?_)
  refine W.lookup rfl rfl (fun w hO => (hrun _ _ _ hO.one).1 true) (k' := ?_)
  repeat refine Wst (k := ?_)
  refine W.cond rfl (fun h => ?_) (fun h => ?_)
  · repeat refine Wst (k := ?_)
    have e0 : hasK T tok = false := by simpa using h
    have e1 : getK T tok = [] := by
      unfold hasK at e0
      unfold getK
      cases hi : idxK T tok with
      | none => rfl
      | some j => rw [hi] at e0; cases e0
    refine W.ret (B := [[], [], _, M]) ⟨none, 0, [], [], ?_, ?_, rfl⟩
    · rw [e0, e1]; rfl
    · rw [e1]; exact ⟨[], rfl, Sl.none_ _ _, trivial, fun u hu => by cases hu⟩
  have e0 : hasK T tok = true := by simpa using h
  repeat refine Wst (k := ?_)
  refine W.call (sp29 hrd hk2 hk1) ?_
  rintro _ _ ⟨A1, c1, K1, M1, rfl, hs, rfl⟩
  repeat refine Wst (k := ?_)
  exact W.ret (B := [K1, M1, _, M]) ⟨A1, c1, K1, M1, by rw [e0], hs, rfl⟩

def nm (i : Nat) : ByteArray := ⟨#[115, 101, 99, 114, 101, 116, 45, UInt8.ofNat (48 + i / 100), UInt8.ofNat (48 + i / 10 % 10), UInt8.ofNat (48 + i % 10)]⟩
def rtG : Rt := ⟨[4], ByteArray.empty, 18446744073709551615⟩
theorem nm_tok : ∀ i < 503, tokF (nm i) = true := by
  have h : (List.range 503).all (fun i => tokF (nm i)) = true := by kernel_rfl
  intro i hi
  exact List.all_eq_true.1 h i (List.mem_range.2 hi)
theorem nm_inj {i j : Nat} (hi : i < 503) (hj : j < 503) (h : nm i = nm j) : i = j := by
  have h1 : (nm i).data = (nm j).data := by rw [h]
  simp only [nm, Array.mk.injEq, List.cons.injEq, true_and, and_true] at h1
  obtain ⟨h1, h2, h3⟩ := h1
  have e1 := congrArg UInt8.toNat h1
  have e2 := congrArg UInt8.toNat h2
  have e3 := congrArg UInt8.toNat h3
  simp only [UInt8.toNat_ofNat'] at e1 e2 e3
  omega
def TN (i : Nat) : Tk := (List.range i).map fun j => (nm j, [rtG])
theorem TN_succ (i : Nat) : TN (i + 1) = TN i ++ [(nm i, [rtG])] := by simp [TN, List.range_succ]
theorem idxK_none {k : ByteArray} : ∀ {T : Tk}, (∀ p ∈ T, p.1 ≠ k) → idxK T k = none
  | [], _ => rfl
  | p :: T, h => by simp [idxK, h p (by simp), idxK_none (T := T) (fun q hq => h q (by simp [hq]))]
theorem TN_none {m i : Nat} (h : m ≤ i) (hi : i < 503) : idxK (TN m) (nm i) = none := idxK_none fun p hp => by
  obtain ⟨j, hj, rfl⟩ := List.mem_map.1 hp
  have := List.mem_range.1 hj
  intro e
  have := nm_inj (by omega) hi e
  omega
theorem TN_ok (m : Nat) : TkOk (TN m) := by
  intro p hp
  obtain ⟨j, hj, rfl⟩ := List.mem_map.1 hp
  refine ⟨by simp, fun r hr => ?_⟩
  simp at hr
  subst hr
  exact ⟨by decide, by decide⟩
theorem grantF_yes {T : Tk} {tok : ByteArray} {l : List Rt} (h1 : tokF tok = true) (h2 : l ≠ []) (h3 : (l.any fun r => !validR r) = false) : grantF T tok l = if 16 < (getK T tok).length + l.length then (T, 5) else if !hasK T tok ∧ 500 ≤ T.length then (T, 7) else (updK T tok (getK T tok ++ l), 0) := by
  unfold grantF
  rw [if_neg (by simp [h1, h2, h3])]
theorem grant_nm {i : Nat} (hi : i < 503) : ∃ z, grantF (TN (min i 500)) (nm i) [rtG] = (TN (min (i + 1) 500), z) ∧ (z = 0 ∧ i < 500 ∨ z = 7 ∧ 500 ≤ i) := by
  have h0 := TN_none (m := min i 500) (i := i) (Nat.min_le_left _ _) hi
  rw [grantF_yes (nm_tok i hi) (by simp) (by kernel_rfl)]
  have h1 : getK (TN (min i 500)) (nm i) = [] := by unfold getK; rw [h0]
  have h2 : hasK (TN (min i 500)) (nm i) = false := by unfold hasK; rw [h0]; rfl
  have h3 : (TN (min i 500)).length = min i 500 := by simp [TN]
  rw [h1, h2, h3]
  rw [if_neg (by simp)]
  by_cases h : i < 500
  · refine ⟨0, ?_, .inl ⟨rfl, h⟩⟩
    rw [if_neg (by omega), Nat.min_eq_left (by omega), Nat.min_eq_left (by omega), TN_succ]
    unfold updK
    rw [show idxK (TN i) (nm i) = none from TN_none (Nat.le_refl _) hi]
    rfl
  · refine ⟨7, ?_, .inr ⟨rfl, by omega⟩⟩
    rw [if_pos ⟨rfl, by omega⟩, Nat.min_eq_right (by omega), Nat.min_eq_right (by omega)]
theorem getK_upd {T : Tk} {k : ByteArray} {rs : List Rt} : getK (updK T k rs) k = rs ∧ hasK (updK T k rs) k = true := by
  induction T with
  | nil => exact ⟨by simp [updK, getK, idxK], by simp [updK, hasK, idxK]⟩
  | cons p T ih =>
    rw [updK_cons]
    split
    · rw [getK_cons, hasK_cons]; simp
    · rename_i h
      rw [getK_cons, hasK_cons, if_neg h, if_neg h]
      exact ih
theorem TN_zero {m : Nat} (h : 0 < m) : getK (TN m) (nm 0) = [rtG] ∧ hasK (TN m) (nm 0) = true := by
  obtain ⟨m, rfl⟩ : ∃ k, m = k + 1 := ⟨m - 1, by omega⟩
  have : TN (m + 1) = (nm 0, [rtG]) :: (List.range m).map fun j => (nm (j + 1), [rtG]) := by
    simp [TN, List.range_succ_eq_map]
  rw [this, getK_cons, hasK_cons]
  simp
theorem grant_rep {m k : Nat} (hm : 0 < m) (hk : 0 < k) : ∃ T z, grantF (TN m) (nm 0) (List.replicate k rtG) = (T, z) ∧ hasK T (nm 0) = true ∧ TkOk T ∧ (15 < k ∧ z = 5 ∧ getK T (nm 0) = [rtG] ∨ k ≤ 15 ∧ z = 0 ∧ getK T (nm 0) = rtG :: List.replicate k rtG) := by
  obtain ⟨h1, h2⟩ := TN_zero hm
  have hv : validR rtG = true := by kernel_rfl
  have hn : (List.replicate k rtG).any (fun r => !validR r) = false := by
    rw [List.any_eq_false]; intro x hx; rw [(List.mem_replicate.1 hx).2]; simp [hv]
  rw [grantF_yes (nm_tok 0 (by omega)) (by intro h; have := congrArg List.length h; simp at this; omega) hn]
  rw [h1, h2]
  simp only [List.length_cons, List.length_nil, List.length_replicate]
  by_cases h : 15 < k
  · exact ⟨TN m, 5, by rw [if_pos (by omega)], h2, TN_ok m, .inl ⟨h, rfl, h1⟩⟩
  · refine ⟨updK (TN m) (nm 0) (rtG :: List.replicate k rtG), 0, by rw [if_neg (by omega), if_neg (by simp)]; rfl, getK_upd.2, ?_, .inr ⟨by omega, rfl, getK_upd.1⟩⟩
    intro p hp
    have hS : ∀ x ∈ rtG :: List.replicate k rtG, Short x := by
      intro x hx
      have : x = rtG := by
        rcases List.mem_cons.1 hx with h | h
        · exact h
        · exact (List.mem_replicate.1 h).2
      subst this
      exact ⟨by decide, by decide⟩
    have : p ∈ TN m ∨ p = (nm 0, rtG :: List.replicate k rtG) := by
      unfold updK at hp
      split at hp
      · exact (List.mem_or_eq_of_mem_set hp).imp id id
      · simpa using hp
    rcases this with h | rfl
    · exact TN_ok m p h
    · exact ⟨by simp; omega, hS⟩
theorem rtC_rep {M : Chunk} {v : Value} {r : Rt} (h : RdO M v r.ops) : ∀ k, RtC M (List.replicate k [v, .string r.pfx, .int .u64 (r.til : Int)]).flatten (List.replicate k r)
  | 0 => trivial
  | k + 1 => by
    rw [List.replicate_succ, List.replicate_succ, List.flatten_cons]
    exact ⟨h, rfl, rfl, rtC_rep h k⟩
theorem nm_eq (i : Nat) : (⟨#[115, 101, 99, 114, 101, 116, 45]⟩ : ByteArray) ++ ⟨[UInt8.ofNat (48 + i / 100), UInt8.ofNat (48 + i / 10 % 10), UInt8.ofNat (48 + i % 10)].toArray⟩ = nm i := by
  apply ByteArray.ext
  simp [nm]
theorem rd_nm {i b : Nat} (hi : i < 503) : RdB [(b, .cells ⟨[.int .u8 (48 + (i : Int) / 100), .int .u8 (48 + (i : Int) / 10 % 10), .int .u8 (48 + (i : Int) % 10)]⟩ 5 (0, 0))] (.slice (some ⟨b, 0, none⟩) 3 3) [UInt8.ofNat (48 + i / 100), UInt8.ofNat (48 + i / 10 % 10), UInt8.ofNat (48 + i % 10)] := by
  have e : bys [UInt8.ofNat (48 + i / 100), UInt8.ofNat (48 + i / 10 % 10), UInt8.ofNat (48 + i % 10)] = [.int .u8 (48 + (i : Int) / 100), .int .u8 (48 + (i : Int) / 10 % 10), .int .u8 (48 + (i : Int) % 10)] := by
    simp only [bys, List.map_cons, List.map_nil, UInt8.toNat_ofNat', List.cons.injEq, Value.int.injEq, true_and, and_true]
    refine ⟨by omega, by omega, by omega⟩
  unfold RdB
  rw [e]
  exact rd_in _ List.mem_cons_self rfl

abbrev oneC (b1 b2 : Nat) : Chunk := [(b1, .cells ⟨[.int .i64 4]⟩ 25 (0, 0)), (b2, .cells ⟨[.slice (some ⟨b1, 0, none⟩) 1 1, .string ByteArray.empty, .int .u64 18446744073709551615]⟩ 50 (0, 0))]
theorem one_rd (b1 b2 : Nat) : RdR (oneC b1 b2) (oneC b1 b2) (.slice (some ⟨b2, 0, none⟩) 1 1) [rtG] :=
  ⟨_, rd_in _ (List.mem_cons_of_mem _ List.mem_cons_self) rfl, rd_in _ List.mem_cons_self rfl, rfl, rfl, trivial⟩
theorem rtG_short : ∀ x ∈ [rtG], Short x := by intro x hx; simp at hx; subst hx; exact ⟨by decide, by decide⟩
end Go.Proofs.Yteghmoijhcdpeaa
