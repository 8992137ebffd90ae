/- What a ring's checks do under grants, times and revocations: plain lemmas. -/
import Derived.Test.YteghmoijhcdpeaaAva
set_option linter.unusedSimpArgs false
set_option linter.unusedVariables false
set_option maxRecDepth 100000
namespace Go.Proofs.Yteghmoijhcdpeaa
open Go.RowKit

theorem grantF_ok {T T' : Tk} {tok : ByteArray} {l : List Rt} (h : grantF T tok l = (T', 0)) : T' = updK T tok (getK T tok ++ l) ∧ (getK T tok).length + l.length ≤ 16 := by
  unfold grantF at h
  split at h
  · simp at h
  · split at h
    · simp at h
    · split at h
      · simp at h
      · rename_i h1 _
        simp at h
        exact ⟨h.symm, by omega⟩
theorem grantF_no {T T' : Tk} {tok : ByteArray} {l : List Rt} {z : Int} (h : grantF T tok l = (T', z)) (hz : z ≠ 0) : T' = T := by
  unfold grantF at h
  split at h
  · simp at h; exact h.1.symm
  · split at h
    · simp at h; exact h.1.symm
    · split at h
      · simp at h; exact h.1.symm
      · simp at h; exact absurd h.2.symm hz
theorem namesF_ne (q : Cmd) : namesF q ≠ [] := by
  unfold namesF
  repeat' split
  all_goals first | assumption | simp
theorem checkF_congr {T T' : Tk} {now : Nat} {tok tok' : ByteArray} {q : Cmd} (h : getK T tok = getK T' tok') : checkF T now tok q = checkF T' now tok' q := by unfold checkF; rw [h]
theorem checkF_zero {T : Tk} {now : Nat} {tok : ByteArray} {q : Cmd} : checkF T now tok q = 0 ↔ validF q = true ∧ ∀ nm ∈ namesF q, ∃ r ∈ getK T tok, permitsF r now q.op nm = true := by
  unfold checkF
  cases validF q
  · simp
  · simp only [↓reduceIte, true_and]
    by_cases h : (namesF q).all (fun nm => (getK T tok).any fun r => permitsF r now q.op nm) = true
    · rw [if_pos h]; simpa [List.all_eq_true, List.any_eq_true] using h
    · rw [if_neg h]
      simp only [List.all_eq_true, List.any_eq_true] at h
      exact ⟨fun h => by simp at h, fun h' => absurd h' h⟩
theorem permits_before {r : Rt} {now before : Nat} {op : Int} {nm : ByteArray} (hb : before ≤ now) (h : permitsF r now op nm = true) : permitsF r before op nm = true := by
  unfold permitsF at *
  simp only [Bool.and_eq_true, Bool.not_eq_true'] at h ⊢
  refine ⟨h.1, ?_, h.2.2⟩
  have h1 := h.2.1
  unfold dueF at *
  simp only [Bool.and_eq_false_iff, decide_eq_false_iff_not] at h1 ⊢
  rcases h1 with h1 | h1
  · exact .inl h1
  · exact .inr (by omega)
theorem checkF_before {T : Tk} {now before : Nat} {tok : ByteArray} {q : Cmd} (hb : before ≤ now) (h : checkF T now tok q = 0) : checkF T before tok q = 0 := by
  rw [checkF_zero] at *
  exact ⟨h.1, fun nm hn => by obtain ⟨r, hr, hp⟩ := h.2 nm hn; exact ⟨r, hr, permits_before hb hp⟩⟩
theorem checkF_more {T T' : Tk} {now : Nat} {tok : ByteArray} {q : Cmd} {l : List Rt} (hT : getK T' tok = getK T tok ++ l) (h : checkF T now tok q = 0) : checkF T' now tok q = 0 := by
  rw [checkF_zero] at *
  exact ⟨h.1, fun nm hn => by obtain ⟨r, hr, hp⟩ := h.2 nm hn; exact ⟨r, by rw [hT]; simp [hr], hp⟩⟩
theorem checkF_none {T : Tk} {now : Nat} {tok : ByteArray} {q : Cmd} (hT : getK T tok = []) : checkF T now tok q ≠ 0 := by
  intro h
  rw [checkF_zero, hT] at h
  cases hn : namesF q with
  | nil => exact namesF_ne q hn
  | cons nm l =>
    obtain ⟨r, hr, _⟩ := h.2 nm (by rw [hn]; simp)
    cases hr
def allOps : List Int := [1, 2, 3, 4, 5, 6, 7, 8, 9, 10, 11, 12, 13, 14, 15]
def rtAll : Rt := ⟨allOps, ByteArray.empty, 18446744073709551615⟩
theorem bits_all : ∀ o : Fin 16, 1 ≤ o.val → (bitsF allOps).1 / 2 ^ o.val % 2 = 1 := by decide
theorem hasF_empty (s : ByteArray) : hasF s ByteArray.empty = true := by
  have h0 : ByteArray.empty.size = 0 := rfl
  unfold hasF
  rw [h0]
  simp
theorem permits_all {now : Nat} {op : Int} {nm : ByteArray} (h : 1 ≤ op ∧ op ≤ 15) : permitsF rtAll now op nm = true := by
  unfold permitsF
  have h1 := bits_all ⟨op.toNat, by omega⟩ (by simp; omega)
  have h2 : dueF rtAll.til now = false := by simp [dueF, rtAll]
  have h3 : hasF nm rtAll.pfx = true := hasF_empty nm
  have h4 : (bitsF rtAll.ops).1 / 2 ^ op.toNat % 2 = 1 := h1
  rw [h2, h3]
  simp [h4]
theorem checkF_all {T : Tk} {now : Nat} {tok : ByteArray} {q : Cmd} (hT : getK T tok = [rtAll]) : checkF T now tok q = 0 ↔ validF q = true := by
  rw [checkF_zero, hT]
  exact ⟨fun h => h.1, fun h => ⟨h, fun nm _ => ⟨rtAll, by simp, permits_all (validF_op h)⟩⟩⟩
theorem getK_nil (k : ByteArray) : getK [] k = [] := rfl
theorem getK_cons (p : ByteArray × List Rt) (T : Tk) (k : ByteArray) : getK (p :: T) k = if p.1 = k then p.2 else getK T k := by
  by_cases h : p.1 = k
  · simp [getK, idxK, h]
  · rw [if_neg h]
    simp only [getK, idxK, if_neg h]
    cases idxK T k <;> simp
theorem hasK_cons (p : ByteArray × List Rt) (T : Tk) (k : ByteArray) : hasK (p :: T) k = if p.1 = k then true else hasK T k := by
  by_cases h : p.1 = k
  · simp [hasK, idxK, h]
  · simp only [hasK, idxK, if_neg h]
    cases idxK T k <;> simp
theorem updK_cons (p : ByteArray × List Rt) (T : Tk) (k : ByteArray) (rs : List Rt) : updK (p :: T) k rs = if p.1 = k then (k, rs) :: T else p :: updK T k rs := by
  by_cases h : p.1 = k
  · simp [updK, idxK, h]
  · simp only [updK, idxK, if_neg h]
    cases idxK T k <;> simp
theorem delK_cons (p : ByteArray × List Rt) (T : Tk) (k : ByteArray) : delK (p :: T) k = if p.1 = k then T else p :: delK T k := by
  by_cases h : p.1 = k
  · simp [delK, idxK, h]
  · simp only [delK, idxK, if_neg h]
    cases idxK T k <;> simp
end Go.Proofs.Yteghmoijhcdpeaa
