import Derived.Test.YteghmoijhcdpeaaCdf
set_option linter.unusedSimpArgs false
set_option linter.unusedVariables false
set_option maxRecDepth 100000
namespace Go.Proofs.Yteghmoijhcdpeaa
open Go.RowKit

/-- What reading k strings answers: the strings, what is left, whether one was not allowed. -/
def rlF (A : ByteArray → Bool) : Nat → List UInt8 × Bool → List ByteArray × List UInt8 × Bool
  | 0, r => ([], r.1, r.2)
  | k + 1, r => let p := rlF A k r
    let q := bytF p.2.1 65536
    (p.1 ++ [⟨q.1.toArray⟩], q.2.2, (p.2.2 || q.2.1 != 0) || !A ⟨q.1.toArray⟩)
theorem rlF_len (A : ByteArray → Bool) : ∀ (k : Nat) (r : List UInt8 × Bool), (rlF A k r).1.length = k ∧ (rlF A k r).2.1.length ≤ r.1.length
  | 0, r => ⟨rfl, Nat.le_refl _⟩
  | k + 1, r => by
    obtain ⟨h1, h2⟩ := rlF_len A k r
    have h3 := (bytF_len (rlF A k r).2.1 65536).1
    refine ⟨by simp [rlF, h1], ?_⟩
    simp only [rlF]
    omega
def listRF (A : ByteArray → Bool) (least most : Nat) (r : List UInt8 × Bool) : List ByteArray × List UInt8 × Bool :=
  let g := numF r.1
  if g.1 < least ∨ most < g.1 then ([], g.2.2, true) else rlF A g.1.toNat (g.2.2, r.2 || g.2.1 != 0)
theorem getF_rng : True := trivial
theorem numF_rng (l : List UInt8) : 0 ≤ (numF l).1 := by
  unfold numF
  simp only []
  split
  · exact Int.le_refl _
  · rename_i h
    exact (getF_ok l 0 0 (by simpa using h)).1

set_option maxHeartbeats 2000000 in
theorem listR {w0 w : World} {C : List Chunk} {x r c g off : Nat} {A : ByteArray → Bool} {cv : Value} {cs : Array Value} {l : List UInt8} {bad : Bool} {least most : Nat} (hg : Asks g A)
    (hs : RSt w0 x r cv ([(c, .cells cs 29 (0, 0))] :: C) l bad w) (hcs : cs[off]? = some (.slice none 0 0)) (hlm : least ≤ 16) (hmm : most ≤ 16) (hl : l.length ≤ 900000) :
    Calls Try.prog 59 #[.pointer (some ⟨x, 0, none⟩), .pointer (some ⟨c, off, none⟩), .int .i64 (least : Int), .int .i64 (most : Int), .func (.func g) #[] #[]] w
      (Did fun w' => ∃ vs V, RdS V vs (listRF A least most (l, bad)).1 ∧
        RSt w0 x r cv ([(c, .cells (cs.setIfInBounds off vs) 29 (0, 0))] :: V :: C) (listRF A least most (l, bad)).2.1 (listRF A least most (l, bad)).2.2 w') := by
  obtain ⟨X, rest, hr, hO⟩ := hs
  have hoff : off < cs.size := (Array.getElem?_eq_some_iff.1 hcs).1
  have hsame : cs.setIfInBounds off (.slice none 0 0) = cs := by
    obtain ⟨h1, h2⟩ := Array.getElem?_eq_some_iff.1 hcs
    rw [← h2]
    simp [Array.setIfInBounds, h1]
  have Hg := Lib.hid hg
  have Hsame := Lib.hid hsame
  have hn0 := numF_rng l
  have hnl := numF_len l
  have HF : Hid (listRF A least most (l, bad) = if (numF l).1 < least ∨ most < (numF l).1 then ([], (numF l).2.2, true) else rlF A (numF l).1.toNat ((numF l).2.2, bad || (numF l).2.1 != 0)) := by
    exact (rfl : _ = _)
  clear hg hsame
  generalize hq : numF l = q at *
  obtain ⟨q1, q2, q3⟩ := q
  have Hq := Lib.hid hq
  clear hq
  simp only [] at hn0 hnl
  go_enter Try.func59, Try.ntmps59
  go_wp2_with (first | ((with_reducible refine is_load ?_); refine a_load hO ?_; go_frame) | ((with_reducible refine is_load ?_); refine a_loadA hO ?_; go_frame) | ((with_reducible refine is_store ?_); refine a_store hO ?_; clear hO; intro w hO; go_frame) | ((with_reducible refine is_store ?_); refine a_storeA hO ?_; clear hO; intro w hO; go_frame) | ((with_reducible refine is_alloc ?_); refine a_alloc hO ?_; clear hO; intro w b_ hO; go_frame) | ((with_reducible refine is_box ?_); refine a_box hO ?_; clear hO; intro w b_ hO; go_frame) | ((with_reducible refine is_lit ?_); refine a_lit0 hO ?_; clear hO; intro w b_ hl_ hO; go_frame) | ((with_reducible refine is_lit ?_); refine a_lit1 hO ?_; clear hO; intro w b_ hl_ hO; go_frame) | ((with_reducible refine is_lit ?_); refine a_lit2 hO ?_; clear hO; intro w b_ hl_ hO; go_frame) | ((with_reducible refine is_lit ?_); refine a_lit3 hO ?_; clear hO; intro w b_ hl_ hO; go_frame))
  obtain ⟨b_1, hb_1⟩ : ∃ b, b = b_ := ⟨_, rfl⟩
  subst hb_1
  go_at_call 62
  refine (numberR (w0 := w0) (r := r) (b := b_1) (off := 0) (T := 23) (cs := #[.int .u64 0]) (l := l) (bad := bad) (C := [(c, .cells cs 29 (0, 0))] :: C) ⟨X, rest, hr, hO.pick3 (.there .here) (.there .here) (.there .here)⟩ (by decide) (by omega)).mono ?_
  rw [Hq.out]
  rintro e w ⟨rfl, X2, rest2, hr2, hO⟩
  simp only [] at hr2
  unfold Rdr at hO
  (try simp only [List.setIfInBounds_toArray, List.set_cons_succ, List.set_cons_zero, Value.cells] at hO)
  by_cases h1 : q1 < least ∨ most < q1
  · have HW : Hid (listRF A least most (l, bad) = ([], q3, true)) := by
      show listRF A least most (l, bad) = _
      rw [HF.out, if_pos h1]
    rcases (by omega : q1 < least ∨ (¬ q1 < least ∧ most < q1)) with h2 | ⟨h2, h3⟩
    · go_wp2_with (first | ((with_reducible refine is_load ?_); refine a_load hO ?_; go_frame) | ((with_reducible refine is_load ?_); refine a_loadA hO ?_; go_frame) | ((with_reducible refine is_store ?_); refine a_store hO ?_; clear hO; intro w hO; go_frame) | ((with_reducible refine is_store ?_); refine a_storeA hO ?_; clear hO; intro w hO; go_frame) | ((with_reducible refine is_alloc ?_); refine a_alloc hO ?_; clear hO; intro w b_ hO; go_frame) | ((with_reducible refine is_box ?_); refine a_box hO ?_; clear hO; intro w b_ hO; go_frame) | ((with_reducible refine is_lit ?_); refine a_lit0 hO ?_; clear hO; intro w b_ hl_ hO; go_frame) | ((with_reducible refine is_lit ?_); refine a_lit1 hO ?_; clear hO; intro w b_ hl_ hO; go_frame) | ((with_reducible refine is_lit ?_); refine a_lit2 hO ?_; clear hO; intro w b_ hl_ hO; go_frame) | ((with_reducible refine is_lit ?_); refine a_lit3 hO ?_; clear hO; intro w b_ hl_ hO; go_frame))
      refine bodyPost_ret (results_none rfl _ _ _) rfl ?_
      refine ⟨rfl, ?_⟩
      rw [HW.out]
      exact ⟨.slice none 0 0, [], rdS_nil _, X2, rest2, hr2, by rw [Hsame.out]; simpa [Rdr] using (hO.dropAt (.there (.there (.there .here)))).perm (C' := ([(x, .cells #[cv, .pointer (some ⟨r, 0, none⟩), .slice none 0 0, .bool true] 96 (0, 0))] :: Rdr r rest2 :: X2 :: [(c, .cells cs 29 (0, 0))] :: [] :: C)) (by simp [Rdr])⟩
    · go_wp2_with (first | ((with_reducible refine is_load ?_); refine a_load hO ?_; go_frame) | ((with_reducible refine is_load ?_); refine a_loadA hO ?_; go_frame) | ((with_reducible refine is_store ?_); refine a_store hO ?_; clear hO; intro w hO; go_frame) | ((with_reducible refine is_store ?_); refine a_storeA hO ?_; clear hO; intro w hO; go_frame) | ((with_reducible refine is_alloc ?_); refine a_alloc hO ?_; clear hO; intro w b_ hO; go_frame) | ((with_reducible refine is_box ?_); refine a_box hO ?_; clear hO; intro w b_ hO; go_frame) | ((with_reducible refine is_lit ?_); refine a_lit0 hO ?_; clear hO; intro w b_ hl_ hO; go_frame) | ((with_reducible refine is_lit ?_); refine a_lit1 hO ?_; clear hO; intro w b_ hl_ hO; go_frame) | ((with_reducible refine is_lit ?_); refine a_lit2 hO ?_; clear hO; intro w b_ hl_ hO; go_frame) | ((with_reducible refine is_lit ?_); refine a_lit3 hO ?_; clear hO; intro w b_ hl_ hO; go_frame))
      refine bodyPost_ret (results_none rfl _ _ _) rfl ?_
      refine ⟨rfl, ?_⟩
      rw [HW.out]
      exact ⟨.slice none 0 0, [], rdS_nil _, X2, rest2, hr2, by rw [Hsame.out]; simpa [Rdr] using (hO.dropAt (.there (.there (.there .here)))).perm (C' := ([(x, .cells #[cv, .pointer (some ⟨r, 0, none⟩), .slice none 0 0, .bool true] 96 (0, 0))] :: Rdr r rest2 :: X2 :: [(c, .cells cs 29 (0, 0))] :: [] :: C)) (by simp [Rdr])⟩
  · have h2 : ¬ q1 < least := by omega
    have h3 : ¬ most < q1 := by omega
    have HW : Hid (listRF A least most (l, bad) = rlF A q1.toNat (q3, bad || q2 != 0)) := by
      show listRF A least most (l, bad) = _
      rw [HF.out, if_neg h1]
    clear h1
    generalize hbb : (bad || q2 != 0) = bad1 at *
    clear hbb HF
    by_cases h0 : 0 < q1
    · obtain ⟨n, rfl⟩ := Int.eq_ofNat_of_zero_le hn0
      have hn16 : n ≤ 16 := by omega
      simp only [Int.toNat_natCast] at HW
      go_wp2_with (first | ((with_reducible refine is_load ?_); refine a_load hO ?_; go_frame) | ((with_reducible refine is_load ?_); refine a_loadA hO ?_; go_frame) | ((with_reducible refine is_store ?_); refine a_store hO ?_; clear hO; intro w hO; go_frame) | ((with_reducible refine is_store ?_); refine a_storeA hO ?_; clear hO; intro w hO; go_frame) | ((with_reducible refine is_alloc ?_); refine a_alloc hO ?_; clear hO; intro w b_ hO; go_frame) | ((with_reducible refine is_box ?_); refine a_box hO ?_; clear hO; intro w b_ hO; go_frame) | ((with_reducible refine is_lit ?_); refine a_lit0 hO ?_; clear hO; intro w b_ hl_ hO; go_frame) | ((with_reducible refine is_lit ?_); refine a_lit1 hO ?_; clear hO; intro w b_ hl_ hO; go_frame) | ((with_reducible refine is_lit ?_); refine a_lit2 hO ?_; clear hO; intro w b_ hl_ hO; go_frame) | ((with_reducible refine is_lit ?_); refine a_lit3 hO ?_; clear hO; intro w b_ hl_ hO; go_frame) | ((with_reducible apply st_make1 hO); rfl; rfl; infer_instance; infer_instance; infer_instance; rfl; (simp only [Act.eval, Array.getD_eq_getD_getElem?, List.getElem?_toArray, List.getElem?_cons_succ, List.getElem?_cons_zero, Option.getD_some]; rfl); omega; omega; decide; clear hO; intro w b_ hO; go_frame))
      have e1 : decide (most < n) = false := by simp; omega
      have e2 : decide (0 < n) = true := by simp; omega
      have e3 : decide (n < least) = false := by simp; omega
      simp only [Int.toNat_natCast, e1, e2, e3] at hO ⊢
      clear e1 e2 e3
      have Hl := fun k => rlF_len A k (q3, bad1)
      go_loopw [49] (fun i wr => ∃ k : Nat, i = .int .i64 (k : Int) ∧ k ≤ n ∧
        RSt w0 x r cv ([(b_, .cells (strs (rlF A k (q3, bad1)).1 ++ List.replicate (n - k) (Value.string ByteArray.empty)).toArray 9 (0, 0))] :: [(b_1, .cells #[.int .u64 (n : Int)] 23 (0, 0))] :: [(c, .cells (cs.setIfInBounds off (.slice (some ⟨b_, 0, none⟩) n n)) 29 (0, 0))] :: C) (rlF A k (q3, bad1)).2.1 (rlF A k (q3, bad1)).2.2 wr) (fun i _ => (n - (intOf i).toNat))
      case atStart => exact ⟨0, rfl, by omega, X2, rest2, hr2, by simpa [rlF, strs, Rdr] using hO.pick3 (.there .here) (.there .here) (.there .here)⟩
      case round =>
        clear hO hr2
        obtain ⟨k, rfl, hk, X3, rest3, hr3, hO⟩ := hrel
        obtain ⟨hl1, hl2⟩ := Hl k
        have hT : rlF A (k + 1) (q3, bad1) = ((rlF A k (q3, bad1)).1 ++ [⟨(bytF (rlF A k (q3, bad1)).2.1 65536).1.toArray⟩], (bytF (rlF A k (q3, bad1)).2.1 65536).2.2, ((rlF A k (q3, bad1)).2.2 || (bytF (rlF A k (q3, bad1)).2.1 65536).2.1 != 0) || !A ⟨(bytF (rlF A k (q3, bad1)).2.1 65536).1.toArray⟩) := rfl
        have HT := Lib.hid hT
        clear hT
        by_cases hlt : k < n
        · generalize hq : rlF A k (q3, bad1) = q at *
          obtain ⟨p1, p2, p3⟩ := q
          have Hq := Lib.hid hq
          clear hq
          simp only [] at hl1 hl2 hr3
          unfold Rdr at hO
          have hset : ∀ s : ByteArray, (strs p1 ++ List.replicate (n - k) (Value.string ByteArray.empty)).toArray.setIfInBounds k (.string s) = (strs (p1 ++ [s]) ++ List.replicate (n - (k + 1)) (Value.string ByteArray.empty)).toArray := by
            intro s
            rw [List.setIfInBounds_toArray]
            congr 1
            obtain ⟨m, hm⟩ : ∃ m, n - k = m + 1 := ⟨n - k - 1, by omega⟩
            rw [hm, show n - (k + 1) = m by omega, List.replicate_succ, List.set_append_right _ _ (by simp [strs, hl1]), strs_append]
            simp [strs, hl1]
          have Hset := Lib.hid hset
          have hkz : k < (strs p1 ++ List.replicate (n - k) (Value.string ByteArray.empty)).toArray.size := by simp [strs, hl1]; omega
          have Hkz := Lib.hid hkz
          clear hset hkz
          go_wp2_with (first | ((with_reducible refine is_load ?_); refine a_load hO ?_; go_frame) | ((with_reducible refine is_load ?_); refine a_loadA hO ?_; go_frame) | ((with_reducible refine is_store ?_); refine a_store hO ?_; clear hO; intro w hO; go_frame) | ((with_reducible refine is_store ?_); refine a_storeA hO ?_; clear hO; intro w hO; go_frame) | ((with_reducible refine is_alloc ?_); refine a_alloc hO ?_; clear hO; intro w b_ hO; go_frame) | ((with_reducible refine is_box ?_); refine a_box hO ?_; clear hO; intro w b_ hO; go_frame) | ((with_reducible refine is_lit ?_); refine a_lit0 hO ?_; clear hO; intro w b_ hl_ hO; go_frame) | ((with_reducible refine is_lit ?_); refine a_lit1 hO ?_; clear hO; intro w b_ hl_ hO; go_frame) | ((with_reducible refine is_lit ?_); refine a_lit2 hO ?_; clear hO; intro w b_ hl_ hO; go_frame) | ((with_reducible refine is_lit ?_); refine a_lit3 hO ?_; clear hO; intro w b_ hl_ hO; go_frame))
          go_at_call 56
          refine (partR Hg.out (w0 := w0) (l := p2) (bad := p3) ⟨X3, rest3, hr3, hO⟩ Hkz.out (by omega)).mono ?_
          rintro e w ⟨rfl, hW2⟩
          have HW2 := Lib.hid hW2
          clear hW2
          go_wp2_with (first | ((with_reducible refine is_load ?_); refine a_load hO ?_; go_frame) | ((with_reducible refine is_load ?_); refine a_loadA hO ?_; go_frame) | ((with_reducible refine is_store ?_); refine a_store hO ?_; clear hO; intro w hO; go_frame) | ((with_reducible refine is_store ?_); refine a_storeA hO ?_; clear hO; intro w hO; go_frame) | ((with_reducible refine is_alloc ?_); refine a_alloc hO ?_; clear hO; intro w b_ hO; go_frame) | ((with_reducible refine is_box ?_); refine a_box hO ?_; clear hO; intro w b_ hO; go_frame) | ((with_reducible refine is_lit ?_); refine a_lit0 hO ?_; clear hO; intro w b_ hl_ hO; go_frame) | ((with_reducible refine is_lit ?_); refine a_lit1 hO ?_; clear hO; intro w b_ hl_ hO; go_frame) | ((with_reducible refine is_lit ?_); refine a_lit2 hO ?_; clear hO; intro w b_ hl_ hO; go_frame) | ((with_reducible refine is_lit ?_); refine a_lit3 hO ?_; clear hO; intro w b_ hl_ hO; go_frame))
          refine ⟨⟨k + 1, by simp, by omega, ?_⟩, by simp [intOf]; omega⟩
          rw [HT.out]
          have h := HW2.out
          rw [Hset.out] at h
          exact h
        · have hkn : k = n := by omega
          subst hkn
          unfold Rdr at hO
          go_wp2_with (first | ((with_reducible refine is_load ?_); refine a_load hO ?_; go_frame) | ((with_reducible refine is_load ?_); refine a_loadA hO ?_; go_frame) | ((with_reducible refine is_store ?_); refine a_store hO ?_; clear hO; intro w hO; go_frame) | ((with_reducible refine is_store ?_); refine a_storeA hO ?_; clear hO; intro w hO; go_frame) | ((with_reducible refine is_alloc ?_); refine a_alloc hO ?_; clear hO; intro w b_ hO; go_frame) | ((with_reducible refine is_box ?_); refine a_box hO ?_; clear hO; intro w b_ hO; go_frame) | ((with_reducible refine is_lit ?_); refine a_lit0 hO ?_; clear hO; intro w b_ hl_ hO; go_frame) | ((with_reducible refine is_lit ?_); refine a_lit1 hO ?_; clear hO; intro w b_ hl_ hO; go_frame) | ((with_reducible refine is_lit ?_); refine a_lit2 hO ?_; clear hO; intro w b_ hl_ hO; go_frame) | ((with_reducible refine is_lit ?_); refine a_lit3 hO ?_; clear hO; intro w b_ hl_ hO; go_frame))
          go_end0
          refine ⟨rfl, ?_⟩
          rw [HW.out]
          rw [Nat.sub_self, List.replicate_zero, List.append_nil] at hO
          refine ⟨_, [(b_, .cells (strs (rlF A k (q3, bad1)).1).toArray 9 (0, 0))], ⟨some ⟨b_, 0, none⟩, k, by rw [hl1], by rw [hl1]; exact Nat.le_refl _, by simp [strs], fun _ => ⟨b_, 0, rfl, fun j u hu => ⟨_, 9, (0, 0), by simp; rfl, rfl, by simpa using hu⟩⟩⟩, X3, rest3, hr3, ?_⟩
          exact ((hO.dropAt (.there (.there (.there (.there .here))))).perm (by simp [Rdr]; exact (List.Perm.swap _ _ _).append_left _))
    · have h00 : q1 = 0 := by omega
      subst h00
      have hl0 : least = 0 := by omega
      subst hl0
      go_wp2_with (first | ((with_reducible refine is_load ?_); refine a_load hO ?_; go_frame) | ((with_reducible refine is_load ?_); refine a_loadA hO ?_; go_frame) | ((with_reducible refine is_store ?_); refine a_store hO ?_; clear hO; intro w hO; go_frame) | ((with_reducible refine is_store ?_); refine a_storeA hO ?_; clear hO; intro w hO; go_frame) | ((with_reducible refine is_alloc ?_); refine a_alloc hO ?_; clear hO; intro w b_ hO; go_frame) | ((with_reducible refine is_box ?_); refine a_box hO ?_; clear hO; intro w b_ hO; go_frame) | ((with_reducible refine is_lit ?_); refine a_lit0 hO ?_; clear hO; intro w b_ hl_ hO; go_frame) | ((with_reducible refine is_lit ?_); refine a_lit1 hO ?_; clear hO; intro w b_ hl_ hO; go_frame) | ((with_reducible refine is_lit ?_); refine a_lit2 hO ?_; clear hO; intro w b_ hl_ hO; go_frame) | ((with_reducible refine is_lit ?_); refine a_lit3 hO ?_; clear hO; intro w b_ hl_ hO; go_frame))
      go_loopw [49] (fun i wr => i = .int .i64 0 ∧ wr = w) (fun _ _ => 0)
      case atStart => exact ⟨rfl, rfl⟩
      case round =>
        obtain ⟨rfl, rfl⟩ := hrel
        go_wp2_with (first | ((with_reducible refine is_load ?_); refine a_load hO ?_; go_frame) | ((with_reducible refine is_load ?_); refine a_loadA hO ?_; go_frame) | ((with_reducible refine is_store ?_); refine a_store hO ?_; clear hO; intro w hO; go_frame) | ((with_reducible refine is_store ?_); refine a_storeA hO ?_; clear hO; intro w hO; go_frame) | ((with_reducible refine is_alloc ?_); refine a_alloc hO ?_; clear hO; intro w b_ hO; go_frame) | ((with_reducible refine is_box ?_); refine a_box hO ?_; clear hO; intro w b_ hO; go_frame) | ((with_reducible refine is_lit ?_); refine a_lit0 hO ?_; clear hO; intro w b_ hl_ hO; go_frame) | ((with_reducible refine is_lit ?_); refine a_lit1 hO ?_; clear hO; intro w b_ hl_ hO; go_frame) | ((with_reducible refine is_lit ?_); refine a_lit2 hO ?_; clear hO; intro w b_ hl_ hO; go_frame) | ((with_reducible refine is_lit ?_); refine a_lit3 hO ?_; clear hO; intro w b_ hl_ hO; go_frame))
        go_end0
        refine ⟨rfl, ?_⟩
        rw [HW.out]
        exact ⟨.slice none 0 0, [], rdS_nil _, X2, rest2, hr2, by rw [Hsame.out]; exact (hO.dropAt (.there (.there (.there .here)))).perm (by simp [Rdr, rlF])⟩
end Go.Proofs.Yteghmoijhcdpeaa
