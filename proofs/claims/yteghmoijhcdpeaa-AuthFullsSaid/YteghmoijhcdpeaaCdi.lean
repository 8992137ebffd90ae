import Derived.Test.YteghmoijhcdpeaaCdh
set_option linter.unusedSimpArgs false
set_option linter.unusedVariables false
set_option maxRecDepth 100000
namespace Go.Proofs.Yteghmoijhcdpeaa
open Go.RowKit

/-- What the parts of a command read, one after the other. -/
def rP (A : ByteArray → Bool) (r : List UInt8 × Bool) : ByteArray × List UInt8 × Bool := (⟨(bytF r.1 65536).1.toArray⟩, (bytF r.1 65536).2.2, (r.2 || (bytF r.1 65536).2.1 != 0) || !A ⟨(bytF r.1 65536).1.toArray⟩)
def rV (r : List UInt8 × Bool) : List UInt8 × List UInt8 × Bool := ((bytF r.1 65536).1, (bytF r.1 65536).2.2, (r.2 || (bytF r.1 65536).2.1 != 0) || !valOk ⟨(bytF r.1 65536).1.toArray⟩)
def rN (r : List UInt8 × Bool) : Int × List UInt8 × Bool := ((numF r.1).1, (numF r.1).2.2, r.2 || (numF r.1).2.1 != 0)
def rL (r : List UInt8 × Bool) : Int × List UInt8 × Bool := ((numF r.1).1, (numF r.1).2.2, (r.2 || (numF r.1).2.1 != 0) || (numF r.1).1 == 0)
def tK (l : List UInt8) := rP keyOk (l, false)
def tV (l : List UInt8) := rV (tK l).2
def tT (l : List UInt8) := listRF tagOk 0 16 (tV l).2
def tL (l : List UInt8) := rL (tT l).2
def tN (l : List UInt8) := rN (tL l).2
def tKs (l : List UInt8) := listRF keyOk 1 16 (l, false)
def tKL (l : List UInt8) := rL (tK l).2
def tG (l : List UInt8) := rP tagOk (l, false)
def tX (l : List UInt8) := rP pfxOk (l, false)
def tC (l : List UInt8) := rP keyOk (tK l).2
def baseC (op : Int) : Cmd := ⟨op, ByteArray.empty, [], [], [], 0, 0, ByteArray.empty, ByteArray.empty, ByteArray.empty⟩
def partsRF (op : Int) (l : List UInt8) : Cmd × List UInt8 × Bool :=
  if op = 1 ∨ op = 2 then ({ baseC op with key := (tK l).1, value := (tV l).1, tags := (tT l).1, life := (tL l).1.toNat }, (tL l).2)
  else if op = 3 then ({ baseC op with key := (tK l).1, value := (tV l).1, tags := (tT l).1, life := (tL l).1.toNat, version := (tN l).1.toNat }, (tN l).2)
  else if op = 4 ∨ op = 7 ∨ op = 13 then ({ baseC op with key := (tK l).1 }, (tK l).2)
  else if op = 5 then ({ baseC op with keys := (tKs l).1 }, (tKs l).2)
  else if op = 6 then ({ baseC op with key := (tK l).1, life := (tKL l).1.toNat }, (tKL l).2)
  else if op = 8 ∨ op = 9 then ({ baseC op with tag := (tG l).1 }, (tG l).2)
  else if op = 10 then ({ baseC op with pfx := (tX l).1 }, (tX l).2)
  else if op = 11 ∨ op = 12 then ({ baseC op with key := (tK l).1, child := (tC l).1 }, (tC l).2)
  else (baseC op, l, false)
theorem rP_len (A : ByteArray → Bool) (r : List UInt8 × Bool) : (rP A r).2.1.length ≤ r.1.length := (bytF_len r.1 65536).1
theorem rV_len (r : List UInt8 × Bool) : (rV r).2.1.length ≤ r.1.length := (bytF_len r.1 65536).1
theorem rN_len (r : List UInt8 × Bool) : (rN r).2.1.length ≤ r.1.length := numF_len r.1
theorem rL_len (r : List UInt8 × Bool) : (rL r).2.1.length ≤ r.1.length := numF_len r.1
theorem listRF_len (A : ByteArray → Bool) (a b : Nat) (r : List UInt8 × Bool) : (listRF A a b r).2.1.length ≤ r.1.length := by
  have h1 := numF_len r.1
  unfold listRF
  simp only []
  split
  · exact h1
  · have h2 := (rlF_len A (numF r.1).1.toNat ((numF r.1).2.2, r.2 || (numF r.1).2.1 != 0)).2
    simp only [] at h2; omega
theorem tK_len (l : List UInt8) : (tK l).2.1.length ≤ l.length := rP_len keyOk (l, false)
theorem tV_len (l : List UInt8) : (tV l).2.1.length ≤ l.length := Nat.le_trans (rV_len _) (tK_len l)
theorem tT_len (l : List UInt8) : (tT l).2.1.length ≤ l.length := Nat.le_trans (listRF_len _ _ _ _) (tV_len l)
theorem tL_len (l : List UInt8) : (tL l).2.1.length ≤ l.length := Nat.le_trans (rL_len _) (tT_len l)
theorem toNat_num (r : List UInt8 × Bool) : (((rN r).1.toNat : Nat) : Int) = (rN r).1 := Int.toNat_of_nonneg (numF_rng r.1)
theorem toNat_life (r : List UInt8 × Bool) : (((rL r).1.toNat : Nat) : Int) = (rL r).1 := Int.toNat_of_nonneg (numF_rng r.1)

theorem partR' {w0 w : World} {C : List Chunk} {x r g b off T : Nat} {A : ByteArray → Bool} {cv : Value} {cs : Array Value} (s : List UInt8 × Bool) (hg : Asks g A) (hs : RSt w0 x r cv ([(b, .cells cs T (0, 0))] :: C) s.1 s.2 w) (hoff : off < cs.size) (hl : s.1.length ≤ 10000) :
    Calls Try.prog 56 #[.pointer (some ⟨x, 0, none⟩), .pointer (some ⟨b, off, none⟩), .func (.func g) #[] #[]] w
      (Did (RSt w0 x r cv ([(b, .cells (cs.setIfInBounds off (.string (rP A s).1)) T (0, 0))] :: C) (rP A s).2.1 (rP A s).2.2)) := partR hg hs hoff (by omega)
theorem valueR' {w0 w : World} {C : List Chunk} {x r c : Nat} {v0 v1 v2 v4 v5 v6 v7 v8 v9 : Value} (s : List UInt8 × Bool)
    (hs : RSt w0 x r (.pointer (some ⟨c, 0, none⟩)) ([(c, .cells #[v0, v1, v2, .slice none 0 0, v4, v5, v6, v7, v8, v9] 29 (0, 0))] :: C) s.1 s.2 w) (hl : s.1.length ≤ 10000) :
    Calls Try.prog 58 #[.pointer (some ⟨x, 0, none⟩)] w (Did fun w' => ∃ A n cc V, RdB V (.slice A n cc) (rV s).1 ∧
      RSt w0 x r (.pointer (some ⟨c, 0, none⟩)) ([(c, .cells #[v0, v1, v2, .slice A n cc, v4, v5, v6, v7, v8, v9] 29 (0, 0))] :: V :: C) (rV s).2.1 (rV s).2.2 w') := valueR hs (by omega)
theorem lifeR' {w0 w : World} {C : List Chunk} {x r c : Nat} {v0 v1 v2 v3 v4 v6 v7 v8 v9 : Value} (s : List UInt8 × Bool)
    (hs : RSt w0 x r (.pointer (some ⟨c, 0, none⟩)) ([(c, .cells #[v0, v1, v2, v3, v4, .int .u64 0, v6, v7, v8, v9] 29 (0, 0))] :: C) s.1 s.2 w) (hl : s.1.length ≤ 10000) :
    Calls Try.prog 61 #[.pointer (some ⟨x, 0, none⟩)] w (Did (RSt w0 x r (.pointer (some ⟨c, 0, none⟩)) ([(c, .cells #[v0, v1, v2, v3, v4, .int .u64 (rL s).1, v6, v7, v8, v9] 29 (0, 0))] :: C) (rL s).2.1 (rL s).2.2)) := lifeR hs (by omega)
theorem numberR' {w0 w : World} {C : List Chunk} {x r b off T : Nat} {cv : Value} {cs : Array Value} (s : List UInt8 × Bool) (hs : RSt w0 x r cv ([(b, .cells cs T (0, 0))] :: C) s.1 s.2 w) (hoff : off < cs.size) (hl : s.1.length ≤ 10000) :
    Calls Try.prog 62 #[.pointer (some ⟨x, 0, none⟩), .pointer (some ⟨b, off, none⟩)] w (Did (RSt w0 x r cv ([(b, .cells (cs.setIfInBounds off (.int .u64 (rN s).1)) T (0, 0))] :: C) (rN s).2.1 (rN s).2.2)) := numberR hs hoff (by omega)
theorem listR' {w0 w : World} {C : List Chunk} {x r c g off : Nat} {A : ByteArray → Bool} {cv : Value} {cs : Array Value} {least most : Nat} (s : List UInt8 × Bool) (hg : Asks g A)
    (hs : RSt w0 x r cv ([(c, .cells cs 29 (0, 0))] :: C) s.1 s.2 w) (hcs : cs[off]? = some (.slice none 0 0)) (hlm : least ≤ 16) (hmm : most ≤ 16) (hl : s.1.length ≤ 10000) :
    Calls Try.prog 59 #[.pointer (some ⟨x, 0, none⟩), .pointer (some ⟨c, off, none⟩), .int .i64 (least : Int), .int .i64 (most : Int), .func (.func g) #[] #[]] w
      (Did fun w' => ∃ vs V, RdS V vs (listRF A least most s).1 ∧
        RSt w0 x r cv ([(c, .cells (cs.setIfInBounds off vs) 29 (0, 0))] :: V :: C) (listRF A least most s).2.1 (listRF A least most s).2.2 w') := listR hg hs hcs hlm hmm (by omega)

set_option maxHeartbeats 8000000 in
theorem partsR {w0 w : World} {C : List Chunk} {x r c : Nat} {l : List UInt8} {op : Int}
    (hs : RSt w0 x r (.pointer (some ⟨c, 0, none⟩)) ([(c, .cells #[.int .i64 op, .string ByteArray.empty, .slice none 0 0, .slice none 0 0, .slice none 0 0, .int .u64 0, .int .u64 0, .string ByteArray.empty, .string ByteArray.empty, .string ByteArray.empty] 29 (0, 0))] :: C) l false w)
    (hl : l.length ≤ 10000) (h1 : 1 ≤ op) (h15 : op ≤ 15) :
    Calls Try.prog 47 #[.pointer (some ⟨x, 0, none⟩)] w (Did fun w' => ∃ F cs, CmdV F cs (partsRF op l).1 ∧ RSt w0 x r (.pointer (some ⟨c, 0, none⟩)) ([(c, .cells cs 29 (0, 0))] :: F :: C) (partsRF op l).2.1 (partsRF op l).2.2 w') := by
  obtain ⟨X, rest, hr, hO⟩ := hs
  have hops : op = 1 ∨ op = 2 ∨ op = 3 ∨ op = 4 ∨ op = 5 ∨ op = 6 ∨ op = 7 ∨ op = 8 ∨ op = 9 ∨ op = 10 ∨ op = 11 ∨ op = 12 ∨ op = 13 ∨ op = 14 ∨ op = 15 := by omega
  have bK := tK_len l
  have bV := tV_len l
  have bT := tT_len l
  have bL := tL_len l
  clear h1 h15
  rcases hops with ho | ho | ho | ho | ho | ho | ho | ho | ho | ho | ho | ho | ho | ho | ho
  · have HF : Hid (partsRF op l = ({ baseC op with key := (tK l).1, value := (tV l).1, tags := (tT l).1, life := (tL l).1.toNat }, (tL l).2)) := Lib.hid (by simp [partsRF, ho])
    subst ho
    go_enter Try.func47, Try.ntmps47
    go_wp2_with (first | ((with_reducible refine is_load ?_); refine a_load hO ?_; go_frame) | ((with_reducible refine is_load ?_); refine a_loadA hO ?_; go_frame) | ((with_reducible refine is_store ?_); refine a_store hO ?_; clear hO; intro w hO; go_frame) | ((with_reducible refine is_store ?_); refine a_storeA hO ?_; clear hO; intro w hO; go_frame) | ((with_reducible refine is_alloc ?_); refine a_alloc hO ?_; clear hO; intro w b_ hO; go_frame) | ((with_reducible refine is_box ?_); refine a_box hO ?_; clear hO; intro w b_ hO; go_frame) | ((with_reducible refine is_lit ?_); refine a_lit0 hO ?_; clear hO; intro w b_ hl_ hO; go_frame) | ((with_reducible refine is_lit ?_); refine a_lit1 hO ?_; clear hO; intro w b_ hl_ hO; go_frame) | ((with_reducible refine is_lit ?_); refine a_lit2 hO ?_; clear hO; intro w b_ hl_ hO; go_frame) | ((with_reducible refine is_lit ?_); refine a_lit3 hO ?_; clear hO; intro w b_ hl_ hO; go_frame))
    go_at_call 56
    refine (partR' (w0 := w0) (r := r) (off := 1) (l, false) asks57 ⟨X, rest, hr, hO⟩ (by simp only [List.size_toArray, List.length_cons, List.length_nil]; omega) (by first | exact hl | omega)).mono ?_
    clear hO hr
    rintro e w ⟨rfl, X, rest, hr, hO⟩
    (try simp only [List.setIfInBounds_toArray, List.set_cons_succ, List.set_cons_zero, Value.cells] at hO)
    go_wp2_with (first | ((with_reducible refine is_load ?_); refine a_load hO ?_; go_frame) | ((with_reducible refine is_load ?_); refine a_loadA hO ?_; go_frame) | ((with_reducible refine is_store ?_); refine a_store hO ?_; clear hO; intro w hO; go_frame) | ((with_reducible refine is_store ?_); refine a_storeA hO ?_; clear hO; intro w hO; go_frame) | ((with_reducible refine is_alloc ?_); refine a_alloc hO ?_; clear hO; intro w b_ hO; go_frame) | ((with_reducible refine is_box ?_); refine a_box hO ?_; clear hO; intro w b_ hO; go_frame) | ((with_reducible refine is_lit ?_); refine a_lit0 hO ?_; clear hO; intro w b_ hl_ hO; go_frame) | ((with_reducible refine is_lit ?_); refine a_lit1 hO ?_; clear hO; intro w b_ hl_ hO; go_frame) | ((with_reducible refine is_lit ?_); refine a_lit2 hO ?_; clear hO; intro w b_ hl_ hO; go_frame) | ((with_reducible refine is_lit ?_); refine a_lit3 hO ?_; clear hO; intro w b_ hl_ hO; go_frame))
    go_at_call 58
    refine (valueR' (w0 := w0) (r := r) (tK l).2 ⟨X, rest, hr, hO⟩ (by omega)).mono ?_
    clear hO hr
    rintro e w ⟨rfl, A1, n1, cc1, V1, hV1, X, rest, hr, hO⟩
    (try simp only [List.setIfInBounds_toArray, List.set_cons_succ, List.set_cons_zero, Value.cells] at hO)
    go_wp2_with (first | ((with_reducible refine is_load ?_); refine a_load hO ?_; go_frame) | ((with_reducible refine is_load ?_); refine a_loadA hO ?_; go_frame) | ((with_reducible refine is_store ?_); refine a_store hO ?_; clear hO; intro w hO; go_frame) | ((with_reducible refine is_store ?_); refine a_storeA hO ?_; clear hO; intro w hO; go_frame) | ((with_reducible refine is_alloc ?_); refine a_alloc hO ?_; clear hO; intro w b_ hO; go_frame) | ((with_reducible refine is_box ?_); refine a_box hO ?_; clear hO; intro w b_ hO; go_frame) | ((with_reducible refine is_lit ?_); refine a_lit0 hO ?_; clear hO; intro w b_ hl_ hO; go_frame) | ((with_reducible refine is_lit ?_); refine a_lit1 hO ?_; clear hO; intro w b_ hl_ hO; go_frame) | ((with_reducible refine is_lit ?_); refine a_lit2 hO ?_; clear hO; intro w b_ hl_ hO; go_frame) | ((with_reducible refine is_lit ?_); refine a_lit3 hO ?_; clear hO; intro w b_ hl_ hO; go_frame))
    go_at_call 59
    refine (listR' (w0 := w0) (r := r) (off := 4) (least := 0) (most := 16) (tV l).2 asks60 ⟨X, rest, hr, hO⟩ rfl (by decide) (by decide) (by first | exact hl | omega)).mono ?_
    clear hO hr
    rintro e w ⟨rfl, vs2, V2, hV2, X, rest, hr, hO⟩
    (try simp only [List.setIfInBounds_toArray, List.set_cons_succ, List.set_cons_zero, Value.cells] at hO)
    go_wp2_with (first | ((with_reducible refine is_load ?_); refine a_load hO ?_; go_frame) | ((with_reducible refine is_load ?_); refine a_loadA hO ?_; go_frame) | ((with_reducible refine is_store ?_); refine a_store hO ?_; clear hO; intro w hO; go_frame) | ((with_reducible refine is_store ?_); refine a_storeA hO ?_; clear hO; intro w hO; go_frame) | ((with_reducible refine is_alloc ?_); refine a_alloc hO ?_; clear hO; intro w b_ hO; go_frame) | ((with_reducible refine is_box ?_); refine a_box hO ?_; clear hO; intro w b_ hO; go_frame) | ((with_reducible refine is_lit ?_); refine a_lit0 hO ?_; clear hO; intro w b_ hl_ hO; go_frame) | ((with_reducible refine is_lit ?_); refine a_lit1 hO ?_; clear hO; intro w b_ hl_ hO; go_frame) | ((with_reducible refine is_lit ?_); refine a_lit2 hO ?_; clear hO; intro w b_ hl_ hO; go_frame) | ((with_reducible refine is_lit ?_); refine a_lit3 hO ?_; clear hO; intro w b_ hl_ hO; go_frame))
    go_at_call 61
    refine (lifeR' (w0 := w0) (r := r) (tT l).2 ⟨X, rest, hr, hO⟩ (by omega)).mono ?_
    clear hO hr
    rintro e w ⟨rfl, X, rest, hr, hO⟩
    (try simp only [List.setIfInBounds_toArray, List.set_cons_succ, List.set_cons_zero, Value.cells] at hO)
    go_wp2_with (first | ((with_reducible refine is_load ?_); refine a_load hO ?_; go_frame) | ((with_reducible refine is_load ?_); refine a_loadA hO ?_; go_frame) | ((with_reducible refine is_store ?_); refine a_store hO ?_; clear hO; intro w hO; go_frame) | ((with_reducible refine is_store ?_); refine a_storeA hO ?_; clear hO; intro w hO; go_frame) | ((with_reducible refine is_alloc ?_); refine a_alloc hO ?_; clear hO; intro w b_ hO; go_frame) | ((with_reducible refine is_box ?_); refine a_box hO ?_; clear hO; intro w b_ hO; go_frame) | ((with_reducible refine is_lit ?_); refine a_lit0 hO ?_; clear hO; intro w b_ hl_ hO; go_frame) | ((with_reducible refine is_lit ?_); refine a_lit1 hO ?_; clear hO; intro w b_ hl_ hO; go_frame) | ((with_reducible refine is_lit ?_); refine a_lit2 hO ?_; clear hO; intro w b_ hl_ hO; go_frame) | ((with_reducible refine is_lit ?_); refine a_lit3 hO ?_; clear hO; intro w b_ hl_ hO; go_frame))
    go_end0
    refine ⟨rfl, ?_⟩
    rw [HF.out]
    refine ⟨V2 ++ V1, #[.int .i64 1, .string (tK l).1, .slice none 0 0, .slice A1 n1 cc1, vs2, .int .u64 (tL l).1, .int .u64 0, .string ByteArray.empty, .string ByteArray.empty, .string ByteArray.empty], ⟨_, _, _, by first | rfl | (rw [show (((tL l).1.toNat : Nat) : Int) = (tL l).1 from toNat_life _]; rfl) | (rw [show (((tL l).1.toNat : Nat) : Int) = (tL l).1 from toNat_life _, show (((tN l).1.toNat : Nat) : Int) = (tN l).1 from toNat_num _]; rfl) | (rw [show (((tKL l).1.toNat : Nat) : Int) = (tKL l).1 from toNat_life _]; rfl), rdS_nil _, Rd.mono hV1 (by intro p hp; simp [hp]), Rd.mono hV2 (by intro p hp; simp [hp])⟩, X, rest, hr, hO.perm (List.Perm.of_eq (by first | rfl | (simp only [List.flatten_cons, List.append_assoc, List.nil_append]; rfl)))⟩
  · have HF : Hid (partsRF op l = ({ baseC op with key := (tK l).1, value := (tV l).1, tags := (tT l).1, life := (tL l).1.toNat }, (tL l).2)) := Lib.hid (by simp [partsRF, ho])
    subst ho
    go_enter Try.func47, Try.ntmps47
    go_wp2_with (first | ((with_reducible refine is_load ?_); refine a_load hO ?_; go_frame) | ((with_reducible refine is_load ?_); refine a_loadA hO ?_; go_frame) | ((with_reducible refine is_store ?_); refine a_store hO ?_; clear hO; intro w hO; go_frame) | ((with_reducible refine is_store ?_); refine a_storeA hO ?_; clear hO; intro w hO; go_frame) | ((with_reducible refine is_alloc ?_); refine a_alloc hO ?_; clear hO; intro w b_ hO; go_frame) | ((with_reducible refine is_box ?_); refine a_box hO ?_; clear hO; intro w b_ hO; go_frame) | ((with_reducible refine is_lit ?_); refine a_lit0 hO ?_; clear hO; intro w b_ hl_ hO; go_frame) | ((with_reducible refine is_lit ?_); refine a_lit1 hO ?_; clear hO; intro w b_ hl_ hO; go_frame) | ((with_reducible refine is_lit ?_); refine a_lit2 hO ?_; clear hO; intro w b_ hl_ hO; go_frame) | ((with_reducible refine is_lit ?_); refine a_lit3 hO ?_; clear hO; intro w b_ hl_ hO; go_frame))
    go_at_call 56
    refine (partR' (w0 := w0) (r := r) (off := 1) (l, false) asks57 ⟨X, rest, hr, hO⟩ (by simp only [List.size_toArray, List.length_cons, List.length_nil]; omega) (by first | exact hl | omega)).mono ?_
    clear hO hr
    rintro e w ⟨rfl, X, rest, hr, hO⟩
    (try simp only [List.setIfInBounds_toArray, List.set_cons_succ, List.set_cons_zero, Value.cells] at hO)
    go_wp2_with (first | ((with_reducible refine is_load ?_); refine a_load hO ?_; go_frame) | ((with_reducible refine is_load ?_); refine a_loadA hO ?_; go_frame) | ((with_reducible refine is_store ?_); refine a_store hO ?_; clear hO; intro w hO; go_frame) | ((with_reducible refine is_store ?_); refine a_storeA hO ?_; clear hO; intro w hO; go_frame) | ((with_reducible refine is_alloc ?_); refine a_alloc hO ?_; clear hO; intro w b_ hO; go_frame) | ((with_reducible refine is_box ?_); refine a_box hO ?_; clear hO; intro w b_ hO; go_frame) | ((with_reducible refine is_lit ?_); refine a_lit0 hO ?_; clear hO; intro w b_ hl_ hO; go_frame) | ((with_reducible refine is_lit ?_); refine a_lit1 hO ?_; clear hO; intro w b_ hl_ hO; go_frame) | ((with_reducible refine is_lit ?_); refine a_lit2 hO ?_; clear hO; intro w b_ hl_ hO; go_frame) | ((with_reducible refine is_lit ?_); refine a_lit3 hO ?_; clear hO; intro w b_ hl_ hO; go_frame))
    go_at_call 58
    refine (valueR' (w0 := w0) (r := r) (tK l).2 ⟨X, rest, hr, hO⟩ (by omega)).mono ?_
    clear hO hr
    rintro e w ⟨rfl, A1, n1, cc1, V1, hV1, X, rest, hr, hO⟩
    (try simp only [List.setIfInBounds_toArray, List.set_cons_succ, List.set_cons_zero, Value.cells] at hO)
    go_wp2_with (first | ((with_reducible refine is_load ?_); refine a_load hO ?_; go_frame) | ((with_reducible refine is_load ?_); refine a_loadA hO ?_; go_frame) | ((with_reducible refine is_store ?_); refine a_store hO ?_; clear hO; intro w hO; go_frame) | ((with_reducible refine is_store ?_); refine a_storeA hO ?_; clear hO; intro w hO; go_frame) | ((with_reducible refine is_alloc ?_); refine a_alloc hO ?_; clear hO; intro w b_ hO; go_frame) | ((with_reducible refine is_box ?_); refine a_box hO ?_; clear hO; intro w b_ hO; go_frame) | ((with_reducible refine is_lit ?_); refine a_lit0 hO ?_; clear hO; intro w b_ hl_ hO; go_frame) | ((with_reducible refine is_lit ?_); refine a_lit1 hO ?_; clear hO; intro w b_ hl_ hO; go_frame) | ((with_reducible refine is_lit ?_); refine a_lit2 hO ?_; clear hO; intro w b_ hl_ hO; go_frame) | ((with_reducible refine is_lit ?_); refine a_lit3 hO ?_; clear hO; intro w b_ hl_ hO; go_frame))
    go_at_call 59
    refine (listR' (w0 := w0) (r := r) (off := 4) (least := 0) (most := 16) (tV l).2 asks60 ⟨X, rest, hr, hO⟩ rfl (by decide) (by decide) (by first | exact hl | omega)).mono ?_
    clear hO hr
    rintro e w ⟨rfl, vs2, V2, hV2, X, rest, hr, hO⟩
    (try simp only [List.setIfInBounds_toArray, List.set_cons_succ, List.set_cons_zero, Value.cells] at hO)
    go_wp2_with (first | ((with_reducible refine is_load ?_); refine a_load hO ?_; go_frame) | ((with_reducible refine is_load ?_); refine a_loadA hO ?_; go_frame) | ((with_reducible refine is_store ?_); refine a_store hO ?_; clear hO; intro w hO; go_frame) | ((with_reducible refine is_store ?_); refine a_storeA hO ?_; clear hO; intro w hO; go_frame) | ((with_reducible refine is_alloc ?_); refine a_alloc hO ?_; clear hO; intro w b_ hO; go_frame) | ((with_reducible refine is_box ?_); refine a_box hO ?_; clear hO; intro w b_ hO; go_frame) | ((with_reducible refine is_lit ?_); refine a_lit0 hO ?_; clear hO; intro w b_ hl_ hO; go_frame) | ((with_reducible refine is_lit ?_); refine a_lit1 hO ?_; clear hO; intro w b_ hl_ hO; go_frame) | ((with_reducible refine is_lit ?_); refine a_lit2 hO ?_; clear hO; intro w b_ hl_ hO; go_frame) | ((with_reducible refine is_lit ?_); refine a_lit3 hO ?_; clear hO; intro w b_ hl_ hO; go_frame))
    go_at_call 61
    refine (lifeR' (w0 := w0) (r := r) (tT l).2 ⟨X, rest, hr, hO⟩ (by omega)).mono ?_
    clear hO hr
    rintro e w ⟨rfl, X, rest, hr, hO⟩
    (try simp only [List.setIfInBounds_toArray, List.set_cons_succ, List.set_cons_zero, Value.cells] at hO)
    go_wp2_with (first | ((with_reducible refine is_load ?_); refine a_load hO ?_; go_frame) | ((with_reducible refine is_load ?_); refine a_loadA hO ?_; go_frame) | ((with_reducible refine is_store ?_); refine a_store hO ?_; clear hO; intro w hO; go_frame) | ((with_reducible refine is_store ?_); refine a_storeA hO ?_; clear hO; intro w hO; go_frame) | ((with_reducible refine is_alloc ?_); refine a_alloc hO ?_; clear hO; intro w b_ hO; go_frame) | ((with_reducible refine is_box ?_); refine a_box hO ?_; clear hO; intro w b_ hO; go_frame) | ((with_reducible refine is_lit ?_); refine a_lit0 hO ?_; clear hO; intro w b_ hl_ hO; go_frame) | ((with_reducible refine is_lit ?_); refine a_lit1 hO ?_; clear hO; intro w b_ hl_ hO; go_frame) | ((with_reducible refine is_lit ?_); refine a_lit2 hO ?_; clear hO; intro w b_ hl_ hO; go_frame) | ((with_reducible refine is_lit ?_); refine a_lit3 hO ?_; clear hO; intro w b_ hl_ hO; go_frame))
    go_end0
    refine ⟨rfl, ?_⟩
    rw [HF.out]
    refine ⟨V2 ++ V1, #[.int .i64 2, .string (tK l).1, .slice none 0 0, .slice A1 n1 cc1, vs2, .int .u64 (tL l).1, .int .u64 0, .string ByteArray.empty, .string ByteArray.empty, .string ByteArray.empty], ⟨_, _, _, by first | rfl | (rw [show (((tL l).1.toNat : Nat) : Int) = (tL l).1 from toNat_life _]; rfl) | (rw [show (((tL l).1.toNat : Nat) : Int) = (tL l).1 from toNat_life _, show (((tN l).1.toNat : Nat) : Int) = (tN l).1 from toNat_num _]; rfl) | (rw [show (((tKL l).1.toNat : Nat) : Int) = (tKL l).1 from toNat_life _]; rfl), rdS_nil _, Rd.mono hV1 (by intro p hp; simp [hp]), Rd.mono hV2 (by intro p hp; simp [hp])⟩, X, rest, hr, hO.perm (List.Perm.of_eq (by first | rfl | (simp only [List.flatten_cons, List.append_assoc, List.nil_append]; rfl)))⟩
  · have HF : Hid (partsRF op l = ({ baseC op with key := (tK l).1, value := (tV l).1, tags := (tT l).1, life := (tL l).1.toNat, version := (tN l).1.toNat }, (tN l).2)) := Lib.hid (by simp [partsRF, ho])
    subst ho
    go_enter Try.func47, Try.ntmps47
    go_wp2_with (first | ((with_reducible refine is_load ?_); refine a_load hO ?_; go_frame) | ((with_reducible refine is_load ?_); refine a_loadA hO ?_; go_frame) | ((with_reducible refine is_store ?_); refine a_store hO ?_; clear hO; intro w hO; go_frame) | ((with_reducible refine is_store ?_); refine a_storeA hO ?_; clear hO; intro w hO; go_frame) | ((with_reducible refine is_alloc ?_); refine a_alloc hO ?_; clear hO; intro w b_ hO; go_frame) | ((with_reducible refine is_box ?_); refine a_box hO ?_; clear hO; intro w b_ hO; go_frame) | ((with_reducible refine is_lit ?_); refine a_lit0 hO ?_; clear hO; intro w b_ hl_ hO; go_frame) | ((with_reducible refine is_lit ?_); refine a_lit1 hO ?_; clear hO; intro w b_ hl_ hO; go_frame) | ((with_reducible refine is_lit ?_); refine a_lit2 hO ?_; clear hO; intro w b_ hl_ hO; go_frame) | ((with_reducible refine is_lit ?_); refine a_lit3 hO ?_; clear hO; intro w b_ hl_ hO; go_frame))
    go_at_call 56
    refine (partR' (w0 := w0) (r := r) (off := 1) (l, false) asks57 ⟨X, rest, hr, hO⟩ (by simp only [List.size_toArray, List.length_cons, List.length_nil]; omega) (by first | exact hl | omega)).mono ?_
    clear hO hr
    rintro e w ⟨rfl, X, rest, hr, hO⟩
    (try simp only [List.setIfInBounds_toArray, List.set_cons_succ, List.set_cons_zero, Value.cells] at hO)
    go_wp2_with (first | ((with_reducible refine is_load ?_); refine a_load hO ?_; go_frame) | ((with_reducible refine is_load ?_); refine a_loadA hO ?_; go_frame) | ((with_reducible refine is_store ?_); refine a_store hO ?_; clear hO; intro w hO; go_frame) | ((with_reducible refine is_store ?_); refine a_storeA hO ?_; clear hO; intro w hO; go_frame) | ((with_reducible refine is_alloc ?_); refine a_alloc hO ?_; clear hO; intro w b_ hO; go_frame) | ((with_reducible refine is_box ?_); refine a_box hO ?_; clear hO; intro w b_ hO; go_frame) | ((with_reducible refine is_lit ?_); refine a_lit0 hO ?_; clear hO; intro w b_ hl_ hO; go_frame) | ((with_reducible refine is_lit ?_); refine a_lit1 hO ?_; clear hO; intro w b_ hl_ hO; go_frame) | ((with_reducible refine is_lit ?_); refine a_lit2 hO ?_; clear hO; intro w b_ hl_ hO; go_frame) | ((with_reducible refine is_lit ?_); refine a_lit3 hO ?_; clear hO; intro w b_ hl_ hO; go_frame))
    go_at_call 58
    refine (valueR' (w0 := w0) (r := r) (tK l).2 ⟨X, rest, hr, hO⟩ (by omega)).mono ?_
    clear hO hr
    rintro e w ⟨rfl, A1, n1, cc1, V1, hV1, X, rest, hr, hO⟩
    (try simp only [List.setIfInBounds_toArray, List.set_cons_succ, List.set_cons_zero, Value.cells] at hO)
    go_wp2_with (first | ((with_reducible refine is_load ?_); refine a_load hO ?_; go_frame) | ((with_reducible refine is_load ?_); refine a_loadA hO ?_; go_frame) | ((with_reducible refine is_store ?_); refine a_store hO ?_; clear hO; intro w hO; go_frame) | ((with_reducible refine is_store ?_); refine a_storeA hO ?_; clear hO; intro w hO; go_frame) | ((with_reducible refine is_alloc ?_); refine a_alloc hO ?_; clear hO; intro w b_ hO; go_frame) | ((with_reducible refine is_box ?_); refine a_box hO ?_; clear hO; intro w b_ hO; go_frame) | ((with_reducible refine is_lit ?_); refine a_lit0 hO ?_; clear hO; intro w b_ hl_ hO; go_frame) | ((with_reducible refine is_lit ?_); refine a_lit1 hO ?_; clear hO; intro w b_ hl_ hO; go_frame) | ((with_reducible refine is_lit ?_); refine a_lit2 hO ?_; clear hO; intro w b_ hl_ hO; go_frame) | ((with_reducible refine is_lit ?_); refine a_lit3 hO ?_; clear hO; intro w b_ hl_ hO; go_frame))
    go_at_call 59
    refine (listR' (w0 := w0) (r := r) (off := 4) (least := 0) (most := 16) (tV l).2 asks60 ⟨X, rest, hr, hO⟩ rfl (by decide) (by decide) (by first | exact hl | omega)).mono ?_
    clear hO hr
    rintro e w ⟨rfl, vs2, V2, hV2, X, rest, hr, hO⟩
    (try simp only [List.setIfInBounds_toArray, List.set_cons_succ, List.set_cons_zero, Value.cells] at hO)
    go_wp2_with (first | ((with_reducible refine is_load ?_); refine a_load hO ?_; go_frame) | ((with_reducible refine is_load ?_); refine a_loadA hO ?_; go_frame) | ((with_reducible refine is_store ?_); refine a_store hO ?_; clear hO; intro w hO; go_frame) | ((with_reducible refine is_store ?_); refine a_storeA hO ?_; clear hO; intro w hO; go_frame) | ((with_reducible refine is_alloc ?_); refine a_alloc hO ?_; clear hO; intro w b_ hO; go_frame) | ((with_reducible refine is_box ?_); refine a_box hO ?_; clear hO; intro w b_ hO; go_frame) | ((with_reducible refine is_lit ?_); refine a_lit0 hO ?_; clear hO; intro w b_ hl_ hO; go_frame) | ((with_reducible refine is_lit ?_); refine a_lit1 hO ?_; clear hO; intro w b_ hl_ hO; go_frame) | ((with_reducible refine is_lit ?_); refine a_lit2 hO ?_; clear hO; intro w b_ hl_ hO; go_frame) | ((with_reducible refine is_lit ?_); refine a_lit3 hO ?_; clear hO; intro w b_ hl_ hO; go_frame))
    go_at_call 61
    refine (lifeR' (w0 := w0) (r := r) (tT l).2 ⟨X, rest, hr, hO⟩ (by omega)).mono ?_
    clear hO hr
    rintro e w ⟨rfl, X, rest, hr, hO⟩
    (try simp only [List.setIfInBounds_toArray, List.set_cons_succ, List.set_cons_zero, Value.cells] at hO)
    go_wp2_with (first | ((with_reducible refine is_load ?_); refine a_load hO ?_; go_frame) | ((with_reducible refine is_load ?_); refine a_loadA hO ?_; go_frame) | ((with_reducible refine is_store ?_); refine a_store hO ?_; clear hO; intro w hO; go_frame) | ((with_reducible refine is_store ?_); refine a_storeA hO ?_; clear hO; intro w hO; go_frame) | ((with_reducible refine is_alloc ?_); refine a_alloc hO ?_; clear hO; intro w b_ hO; go_frame) | ((with_reducible refine is_box ?_); refine a_box hO ?_; clear hO; intro w b_ hO; go_frame) | ((with_reducible refine is_lit ?_); refine a_lit0 hO ?_; clear hO; intro w b_ hl_ hO; go_frame) | ((with_reducible refine is_lit ?_); refine a_lit1 hO ?_; clear hO; intro w b_ hl_ hO; go_frame) | ((with_reducible refine is_lit ?_); refine a_lit2 hO ?_; clear hO; intro w b_ hl_ hO; go_frame) | ((with_reducible refine is_lit ?_); refine a_lit3 hO ?_; clear hO; intro w b_ hl_ hO; go_frame))
    go_at_call 62
    refine (numberR' (w0 := w0) (r := r) (off := 6) (tL l).2 ⟨X, rest, hr, hO⟩ (by simp only [List.size_toArray, List.length_cons, List.length_nil]; omega) (by omega)).mono ?_
    clear hO hr
    rintro e w ⟨rfl, X, rest, hr, hO⟩
    (try simp only [List.setIfInBounds_toArray, List.set_cons_succ, List.set_cons_zero, Value.cells] at hO)
    go_wp2_with (first | ((with_reducible refine is_load ?_); refine a_load hO ?_; go_frame) | ((with_reducible refine is_load ?_); refine a_loadA hO ?_; go_frame) | ((with_reducible refine is_store ?_); refine a_store hO ?_; clear hO; intro w hO; go_frame) | ((with_reducible refine is_store ?_); refine a_storeA hO ?_; clear hO; intro w hO; go_frame) | ((with_reducible refine is_alloc ?_); refine a_alloc hO ?_; clear hO; intro w b_ hO; go_frame) | ((with_reducible refine is_box ?_); refine a_box hO ?_; clear hO; intro w b_ hO; go_frame) | ((with_reducible refine is_lit ?_); refine a_lit0 hO ?_; clear hO; intro w b_ hl_ hO; go_frame) | ((with_reducible refine is_lit ?_); refine a_lit1 hO ?_; clear hO; intro w b_ hl_ hO; go_frame) | ((with_reducible refine is_lit ?_); refine a_lit2 hO ?_; clear hO; intro w b_ hl_ hO; go_frame) | ((with_reducible refine is_lit ?_); refine a_lit3 hO ?_; clear hO; intro w b_ hl_ hO; go_frame))
    go_end0
    refine ⟨rfl, ?_⟩
    rw [HF.out]
    refine ⟨V2 ++ V1, #[.int .i64 3, .string (tK l).1, .slice none 0 0, .slice A1 n1 cc1, vs2, .int .u64 (tL l).1, .int .u64 (tN l).1, .string ByteArray.empty, .string ByteArray.empty, .string ByteArray.empty], ⟨_, _, _, by first | rfl | (rw [show (((tL l).1.toNat : Nat) : Int) = (tL l).1 from toNat_life _]; rfl) | (rw [show (((tL l).1.toNat : Nat) : Int) = (tL l).1 from toNat_life _, show (((tN l).1.toNat : Nat) : Int) = (tN l).1 from toNat_num _]; rfl) | (rw [show (((tKL l).1.toNat : Nat) : Int) = (tKL l).1 from toNat_life _]; rfl), rdS_nil _, Rd.mono hV1 (by intro p hp; simp [hp]), Rd.mono hV2 (by intro p hp; simp [hp])⟩, X, rest, hr, hO.perm (List.Perm.of_eq (by first | rfl | (simp only [List.flatten_cons, List.append_assoc, List.nil_append]; rfl)))⟩
  · have HF : Hid (partsRF op l = ({ baseC op with key := (tK l).1 }, (tK l).2)) := Lib.hid (by simp [partsRF, ho])
    subst ho
    go_enter Try.func47, Try.ntmps47
    go_wp2_with (first | ((with_reducible refine is_load ?_); refine a_load hO ?_; go_frame) | ((with_reducible refine is_load ?_); refine a_loadA hO ?_; go_frame) | ((with_reducible refine is_store ?_); refine a_store hO ?_; clear hO; intro w hO; go_frame) | ((with_reducible refine is_store ?_); refine a_storeA hO ?_; clear hO; intro w hO; go_frame) | ((with_reducible refine is_alloc ?_); refine a_alloc hO ?_; clear hO; intro w b_ hO; go_frame) | ((with_reducible refine is_box ?_); refine a_box hO ?_; clear hO; intro w b_ hO; go_frame) | ((with_reducible refine is_lit ?_); refine a_lit0 hO ?_; clear hO; intro w b_ hl_ hO; go_frame) | ((with_reducible refine is_lit ?_); refine a_lit1 hO ?_; clear hO; intro w b_ hl_ hO; go_frame) | ((with_reducible refine is_lit ?_); refine a_lit2 hO ?_; clear hO; intro w b_ hl_ hO; go_frame) | ((with_reducible refine is_lit ?_); refine a_lit3 hO ?_; clear hO; intro w b_ hl_ hO; go_frame))
    go_at_call 56
    refine (partR' (w0 := w0) (r := r) (off := 1) (l, false) asks57 ⟨X, rest, hr, hO⟩ (by simp only [List.size_toArray, List.length_cons, List.length_nil]; omega) (by first | exact hl | omega)).mono ?_
    clear hO hr
    rintro e w ⟨rfl, X, rest, hr, hO⟩
    (try simp only [List.setIfInBounds_toArray, List.set_cons_succ, List.set_cons_zero, Value.cells] at hO)
    go_wp2_with (first | ((with_reducible refine is_load ?_); refine a_load hO ?_; go_frame) | ((with_reducible refine is_load ?_); refine a_loadA hO ?_; go_frame) | ((with_reducible refine is_store ?_); refine a_store hO ?_; clear hO; intro w hO; go_frame) | ((with_reducible refine is_store ?_); refine a_storeA hO ?_; clear hO; intro w hO; go_frame) | ((with_reducible refine is_alloc ?_); refine a_alloc hO ?_; clear hO; intro w b_ hO; go_frame) | ((with_reducible refine is_box ?_); refine a_box hO ?_; clear hO; intro w b_ hO; go_frame) | ((with_reducible refine is_lit ?_); refine a_lit0 hO ?_; clear hO; intro w b_ hl_ hO; go_frame) | ((with_reducible refine is_lit ?_); refine a_lit1 hO ?_; clear hO; intro w b_ hl_ hO; go_frame) | ((with_reducible refine is_lit ?_); refine a_lit2 hO ?_; clear hO; intro w b_ hl_ hO; go_frame) | ((with_reducible refine is_lit ?_); refine a_lit3 hO ?_; clear hO; intro w b_ hl_ hO; go_frame))
    go_end0
    refine ⟨rfl, ?_⟩
    rw [HF.out]
    refine ⟨[], #[.int .i64 4, .string (tK l).1, .slice none 0 0, .slice none 0 0, .slice none 0 0, .int .u64 0, .int .u64 0, .string ByteArray.empty, .string ByteArray.empty, .string ByteArray.empty], ⟨_, _, _, by first | rfl | (rw [show (((tL l).1.toNat : Nat) : Int) = (tL l).1 from toNat_life _]; rfl) | (rw [show (((tL l).1.toNat : Nat) : Int) = (tL l).1 from toNat_life _, show (((tN l).1.toNat : Nat) : Int) = (tN l).1 from toNat_num _]; rfl) | (rw [show (((tKL l).1.toNat : Nat) : Int) = (tKL l).1 from toNat_life _]; rfl), rdS_nil _, rdB_nil _, rdS_nil _⟩, X, rest, hr, hO.perm (List.Perm.of_eq (by first | rfl | (simp only [List.flatten_cons, List.append_assoc, List.nil_append]; rfl)))⟩
  · have HF : Hid (partsRF op l = ({ baseC op with keys := (tKs l).1 }, (tKs l).2)) := Lib.hid (by simp [partsRF, ho])
    subst ho
    go_enter Try.func47, Try.ntmps47
    go_wp2_with (first | ((with_reducible refine is_load ?_); refine a_load hO ?_; go_frame) | ((with_reducible refine is_load ?_); refine a_loadA hO ?_; go_frame) | ((with_reducible refine is_store ?_); refine a_store hO ?_; clear hO; intro w hO; go_frame) | ((with_reducible refine is_store ?_); refine a_storeA hO ?_; clear hO; intro w hO; go_frame) | ((with_reducible refine is_alloc ?_); refine a_alloc hO ?_; clear hO; intro w b_ hO; go_frame) | ((with_reducible refine is_box ?_); refine a_box hO ?_; clear hO; intro w b_ hO; go_frame) | ((with_reducible refine is_lit ?_); refine a_lit0 hO ?_; clear hO; intro w b_ hl_ hO; go_frame) | ((with_reducible refine is_lit ?_); refine a_lit1 hO ?_; clear hO; intro w b_ hl_ hO; go_frame) | ((with_reducible refine is_lit ?_); refine a_lit2 hO ?_; clear hO; intro w b_ hl_ hO; go_frame) | ((with_reducible refine is_lit ?_); refine a_lit3 hO ?_; clear hO; intro w b_ hl_ hO; go_frame))
    go_at_call 59
    refine (listR' (w0 := w0) (r := r) (off := 2) (least := 1) (most := 16) (l, false) asks57 ⟨X, rest, hr, hO⟩ rfl (by decide) (by decide) (by first | exact hl | omega)).mono ?_
    clear hO hr
    rintro e w ⟨rfl, vs2, V2, hV2, X, rest, hr, hO⟩
    (try simp only [List.setIfInBounds_toArray, List.set_cons_succ, List.set_cons_zero, Value.cells] at hO)
    go_wp2_with (first | ((with_reducible refine is_load ?_); refine a_load hO ?_; go_frame) | ((with_reducible refine is_load ?_); refine a_loadA hO ?_; go_frame) | ((with_reducible refine is_store ?_); refine a_store hO ?_; clear hO; intro w hO; go_frame) | ((with_reducible refine is_store ?_); refine a_storeA hO ?_; clear hO; intro w hO; go_frame) | ((with_reducible refine is_alloc ?_); refine a_alloc hO ?_; clear hO; intro w b_ hO; go_frame) | ((with_reducible refine is_box ?_); refine a_box hO ?_; clear hO; intro w b_ hO; go_frame) | ((with_reducible refine is_lit ?_); refine a_lit0 hO ?_; clear hO; intro w b_ hl_ hO; go_frame) | ((with_reducible refine is_lit ?_); refine a_lit1 hO ?_; clear hO; intro w b_ hl_ hO; go_frame) | ((with_reducible refine is_lit ?_); refine a_lit2 hO ?_; clear hO; intro w b_ hl_ hO; go_frame) | ((with_reducible refine is_lit ?_); refine a_lit3 hO ?_; clear hO; intro w b_ hl_ hO; go_frame))
    go_end0
    refine ⟨rfl, ?_⟩
    rw [HF.out]
    refine ⟨V2, #[.int .i64 5, .string ByteArray.empty, vs2, .slice none 0 0, .slice none 0 0, .int .u64 0, .int .u64 0, .string ByteArray.empty, .string ByteArray.empty, .string ByteArray.empty], ⟨_, _, _, by first | rfl | (rw [show (((tL l).1.toNat : Nat) : Int) = (tL l).1 from toNat_life _]; rfl) | (rw [show (((tL l).1.toNat : Nat) : Int) = (tL l).1 from toNat_life _, show (((tN l).1.toNat : Nat) : Int) = (tN l).1 from toNat_num _]; rfl) | (rw [show (((tKL l).1.toNat : Nat) : Int) = (tKL l).1 from toNat_life _]; rfl), hV2, rdB_nil _, rdS_nil _⟩, X, rest, hr, hO.perm (List.Perm.of_eq (by first | rfl | (simp only [List.flatten_cons, List.append_assoc, List.nil_append]; rfl)))⟩
  · have HF : Hid (partsRF op l = ({ baseC op with key := (tK l).1, life := (tKL l).1.toNat }, (tKL l).2)) := Lib.hid (by simp [partsRF, ho])
    subst ho
    go_enter Try.func47, Try.ntmps47
    go_wp2_with (first | ((with_reducible refine is_load ?_); refine a_load hO ?_; go_frame) | ((with_reducible refine is_load ?_); refine a_loadA hO ?_; go_frame) | ((with_reducible refine is_store ?_); refine a_store hO ?_; clear hO; intro w hO; go_frame) | ((with_reducible refine is_store ?_); refine a_storeA hO ?_; clear hO; intro w hO; go_frame) | ((with_reducible refine is_alloc ?_); refine a_alloc hO ?_; clear hO; intro w b_ hO; go_frame) | ((with_reducible refine is_box ?_); refine a_box hO ?_; clear hO; intro w b_ hO; go_frame) | ((with_reducible refine is_lit ?_); refine a_lit0 hO ?_; clear hO; intro w b_ hl_ hO; go_frame) | ((with_reducible refine is_lit ?_); refine a_lit1 hO ?_; clear hO; intro w b_ hl_ hO; go_frame) | ((with_reducible refine is_lit ?_); refine a_lit2 hO ?_; clear hO; intro w b_ hl_ hO; go_frame) | ((with_reducible refine is_lit ?_); refine a_lit3 hO ?_; clear hO; intro w b_ hl_ hO; go_frame))
    go_at_call 56
    refine (partR' (w0 := w0) (r := r) (off := 1) (l, false) asks57 ⟨X, rest, hr, hO⟩ (by simp only [List.size_toArray, List.length_cons, List.length_nil]; omega) (by first | exact hl | omega)).mono ?_
    clear hO hr
    rintro e w ⟨rfl, X, rest, hr, hO⟩
    (try simp only [List.setIfInBounds_toArray, List.set_cons_succ, List.set_cons_zero, Value.cells] at hO)
    go_wp2_with (first | ((with_reducible refine is_load ?_); refine a_load hO ?_; go_frame) | ((with_reducible refine is_load ?_); refine a_loadA hO ?_; go_frame) | ((with_reducible refine is_store ?_); refine a_store hO ?_; clear hO; intro w hO; go_frame) | ((with_reducible refine is_store ?_); refine a_storeA hO ?_; clear hO; intro w hO; go_frame) | ((with_reducible refine is_alloc ?_); refine a_alloc hO ?_; clear hO; intro w b_ hO; go_frame) | ((with_reducible refine is_box ?_); refine a_box hO ?_; clear hO; intro w b_ hO; go_frame) | ((with_reducible refine is_lit ?_); refine a_lit0 hO ?_; clear hO; intro w b_ hl_ hO; go_frame) | ((with_reducible refine is_lit ?_); refine a_lit1 hO ?_; clear hO; intro w b_ hl_ hO; go_frame) | ((with_reducible refine is_lit ?_); refine a_lit2 hO ?_; clear hO; intro w b_ hl_ hO; go_frame) | ((with_reducible refine is_lit ?_); refine a_lit3 hO ?_; clear hO; intro w b_ hl_ hO; go_frame))
    go_at_call 61
    refine (lifeR' (w0 := w0) (r := r) (tK l).2 ⟨X, rest, hr, hO⟩ (by omega)).mono ?_
    clear hO hr
    rintro e w ⟨rfl, X, rest, hr, hO⟩
    (try simp only [List.setIfInBounds_toArray, List.set_cons_succ, List.set_cons_zero, Value.cells] at hO)
    go_wp2_with (first | ((with_reducible refine is_load ?_); refine a_load hO ?_; go_frame) | ((with_reducible refine is_load ?_); refine a_loadA hO ?_; go_frame) | ((with_reducible refine is_store ?_); refine a_store hO ?_; clear hO; intro w hO; go_frame) | ((with_reducible refine is_store ?_); refine a_storeA hO ?_; clear hO; intro w hO; go_frame) | ((with_reducible refine is_alloc ?_); refine a_alloc hO ?_; clear hO; intro w b_ hO; go_frame) | ((with_reducible refine is_box ?_); refine a_box hO ?_; clear hO; intro w b_ hO; go_frame) | ((with_reducible refine is_lit ?_); refine a_lit0 hO ?_; clear hO; intro w b_ hl_ hO; go_frame) | ((with_reducible refine is_lit ?_); refine a_lit1 hO ?_; clear hO; intro w b_ hl_ hO; go_frame) | ((with_reducible refine is_lit ?_); refine a_lit2 hO ?_; clear hO; intro w b_ hl_ hO; go_frame) | ((with_reducible refine is_lit ?_); refine a_lit3 hO ?_; clear hO; intro w b_ hl_ hO; go_frame))
    go_end0
    refine ⟨rfl, ?_⟩
    rw [HF.out]
    refine ⟨[], #[.int .i64 6, .string (tK l).1, .slice none 0 0, .slice none 0 0, .slice none 0 0, .int .u64 (tKL l).1, .int .u64 0, .string ByteArray.empty, .string ByteArray.empty, .string ByteArray.empty], ⟨_, _, _, by first | rfl | (rw [show (((tL l).1.toNat : Nat) : Int) = (tL l).1 from toNat_life _]; rfl) | (rw [show (((tL l).1.toNat : Nat) : Int) = (tL l).1 from toNat_life _, show (((tN l).1.toNat : Nat) : Int) = (tN l).1 from toNat_num _]; rfl) | (rw [show (((tKL l).1.toNat : Nat) : Int) = (tKL l).1 from toNat_life _]; rfl), rdS_nil _, rdB_nil _, rdS_nil _⟩, X, rest, hr, hO.perm (List.Perm.of_eq (by first | rfl | (simp only [List.flatten_cons, List.append_assoc, List.nil_append]; rfl)))⟩
  · have HF : Hid (partsRF op l = ({ baseC op with key := (tK l).1 }, (tK l).2)) := Lib.hid (by simp [partsRF, ho])
    subst ho
    go_enter Try.func47, Try.ntmps47
    go_wp2_with (first | ((with_reducible refine is_load ?_); refine a_load hO ?_; go_frame) | ((with_reducible refine is_load ?_); refine a_loadA hO ?_; go_frame) | ((with_reducible refine is_store ?_); refine a_store hO ?_; clear hO; intro w hO; go_frame) | ((with_reducible refine is_store ?_); refine a_storeA hO ?_; clear hO; intro w hO; go_frame) | ((with_reducible refine is_alloc ?_); refine a_alloc hO ?_; clear hO; intro w b_ hO; go_frame) | ((with_reducible refine is_box ?_); refine a_box hO ?_; clear hO; intro w b_ hO; go_frame) | ((with_reducible refine is_lit ?_); refine a_lit0 hO ?_; clear hO; intro w b_ hl_ hO; go_frame) | ((with_reducible refine is_lit ?_); refine a_lit1 hO ?_; clear hO; intro w b_ hl_ hO; go_frame) | ((with_reducible refine is_lit ?_); refine a_lit2 hO ?_; clear hO; intro w b_ hl_ hO; go_frame) | ((with_reducible refine is_lit ?_); refine a_lit3 hO ?_; clear hO; intro w b_ hl_ hO; go_frame))
    go_at_call 56
    refine (partR' (w0 := w0) (r := r) (off := 1) (l, false) asks57 ⟨X, rest, hr, hO⟩ (by simp only [List.size_toArray, List.length_cons, List.length_nil]; omega) (by first | exact hl | omega)).mono ?_
    clear hO hr
    rintro e w ⟨rfl, X, rest, hr, hO⟩
    (try simp only [List.setIfInBounds_toArray, List.set_cons_succ, List.set_cons_zero, Value.cells] at hO)
    go_wp2_with (first | ((with_reducible refine is_load ?_); refine a_load hO ?_; go_frame) | ((with_reducible refine is_load ?_); refine a_loadA hO ?_; go_frame) | ((with_reducible refine is_store ?_); refine a_store hO ?_; clear hO; intro w hO; go_frame) | ((with_reducible refine is_store ?_); refine a_storeA hO ?_; clear hO; intro w hO; go_frame) | ((with_reducible refine is_alloc ?_); refine a_alloc hO ?_; clear hO; intro w b_ hO; go_frame) | ((with_reducible refine is_box ?_); refine a_box hO ?_; clear hO; intro w b_ hO; go_frame) | ((with_reducible refine is_lit ?_); refine a_lit0 hO ?_; clear hO; intro w b_ hl_ hO; go_frame) | ((with_reducible refine is_lit ?_); refine a_lit1 hO ?_; clear hO; intro w b_ hl_ hO; go_frame) | ((with_reducible refine is_lit ?_); refine a_lit2 hO ?_; clear hO; intro w b_ hl_ hO; go_frame) | ((with_reducible refine is_lit ?_); refine a_lit3 hO ?_; clear hO; intro w b_ hl_ hO; go_frame))
    go_end0
    refine ⟨rfl, ?_⟩
    rw [HF.out]
    refine ⟨[], #[.int .i64 7, .string (tK l).1, .slice none 0 0, .slice none 0 0, .slice none 0 0, .int .u64 0, .int .u64 0, .string ByteArray.empty, .string ByteArray.empty, .string ByteArray.empty], ⟨_, _, _, by first | rfl | (rw [show (((tL l).1.toNat : Nat) : Int) = (tL l).1 from toNat_life _]; rfl) | (rw [show (((tL l).1.toNat : Nat) : Int) = (tL l).1 from toNat_life _, show (((tN l).1.toNat : Nat) : Int) = (tN l).1 from toNat_num _]; rfl) | (rw [show (((tKL l).1.toNat : Nat) : Int) = (tKL l).1 from toNat_life _]; rfl), rdS_nil _, rdB_nil _, rdS_nil _⟩, X, rest, hr, hO.perm (List.Perm.of_eq (by first | rfl | (simp only [List.flatten_cons, List.append_assoc, List.nil_append]; rfl)))⟩
  · have HF : Hid (partsRF op l = ({ baseC op with tag := (tG l).1 }, (tG l).2)) := Lib.hid (by simp [partsRF, ho])
    subst ho
    go_enter Try.func47, Try.ntmps47
    go_wp2_with (first | ((with_reducible refine is_load ?_); refine a_load hO ?_; go_frame) | ((with_reducible refine is_load ?_); refine a_loadA hO ?_; go_frame) | ((with_reducible refine is_store ?_); refine a_store hO ?_; clear hO; intro w hO; go_frame) | ((with_reducible refine is_store ?_); refine a_storeA hO ?_; clear hO; intro w hO; go_frame) | ((with_reducible refine is_alloc ?_); refine a_alloc hO ?_; clear hO; intro w b_ hO; go_frame) | ((with_reducible refine is_box ?_); refine a_box hO ?_; clear hO; intro w b_ hO; go_frame) | ((with_reducible refine is_lit ?_); refine a_lit0 hO ?_; clear hO; intro w b_ hl_ hO; go_frame) | ((with_reducible refine is_lit ?_); refine a_lit1 hO ?_; clear hO; intro w b_ hl_ hO; go_frame) | ((with_reducible refine is_lit ?_); refine a_lit2 hO ?_; clear hO; intro w b_ hl_ hO; go_frame) | ((with_reducible refine is_lit ?_); refine a_lit3 hO ?_; clear hO; intro w b_ hl_ hO; go_frame))
    go_at_call 56
    refine (partR' (w0 := w0) (r := r) (off := 7) (l, false) asks60 ⟨X, rest, hr, hO⟩ (by simp only [List.size_toArray, List.length_cons, List.length_nil]; omega) (by first | exact hl | omega)).mono ?_
    clear hO hr
    rintro e w ⟨rfl, X, rest, hr, hO⟩
    (try simp only [List.setIfInBounds_toArray, List.set_cons_succ, List.set_cons_zero, Value.cells] at hO)
    go_wp2_with (first | ((with_reducible refine is_load ?_); refine a_load hO ?_; go_frame) | ((with_reducible refine is_load ?_); refine a_loadA hO ?_; go_frame) | ((with_reducible refine is_store ?_); refine a_store hO ?_; clear hO; intro w hO; go_frame) | ((with_reducible refine is_store ?_); refine a_storeA hO ?_; clear hO; intro w hO; go_frame) | ((with_reducible refine is_alloc ?_); refine a_alloc hO ?_; clear hO; intro w b_ hO; go_frame) | ((with_reducible refine is_box ?_); refine a_box hO ?_; clear hO; intro w b_ hO; go_frame) | ((with_reducible refine is_lit ?_); refine a_lit0 hO ?_; clear hO; intro w b_ hl_ hO; go_frame) | ((with_reducible refine is_lit ?_); refine a_lit1 hO ?_; clear hO; intro w b_ hl_ hO; go_frame) | ((with_reducible refine is_lit ?_); refine a_lit2 hO ?_; clear hO; intro w b_ hl_ hO; go_frame) | ((with_reducible refine is_lit ?_); refine a_lit3 hO ?_; clear hO; intro w b_ hl_ hO; go_frame))
    go_end0
    refine ⟨rfl, ?_⟩
    rw [HF.out]
    refine ⟨[], #[.int .i64 8, .string ByteArray.empty, .slice none 0 0, .slice none 0 0, .slice none 0 0, .int .u64 0, .int .u64 0, .string (tG l).1, .string ByteArray.empty, .string ByteArray.empty], ⟨_, _, _, by first | rfl | (rw [show (((tL l).1.toNat : Nat) : Int) = (tL l).1 from toNat_life _]; rfl) | (rw [show (((tL l).1.toNat : Nat) : Int) = (tL l).1 from toNat_life _, show (((tN l).1.toNat : Nat) : Int) = (tN l).1 from toNat_num _]; rfl) | (rw [show (((tKL l).1.toNat : Nat) : Int) = (tKL l).1 from toNat_life _]; rfl), rdS_nil _, rdB_nil _, rdS_nil _⟩, X, rest, hr, hO.perm (List.Perm.of_eq (by first | rfl | (simp only [List.flatten_cons, List.append_assoc, List.nil_append]; rfl)))⟩
  · have HF : Hid (partsRF op l = ({ baseC op with tag := (tG l).1 }, (tG l).2)) := Lib.hid (by simp [partsRF, ho])
    subst ho
    go_enter Try.func47, Try.ntmps47
    go_wp2_with (first | ((with_reducible refine is_load ?_); refine a_load hO ?_; go_frame) | ((with_reducible refine is_load ?_); refine a_loadA hO ?_; go_frame) | ((with_reducible refine is_store ?_); refine a_store hO ?_; clear hO; intro w hO; go_frame) | ((with_reducible refine is_store ?_); refine a_storeA hO ?_; clear hO; intro w hO; go_frame) | ((with_reducible refine is_alloc ?_); refine a_alloc hO ?_; clear hO; intro w b_ hO; go_frame) | ((with_reducible refine is_box ?_); refine a_box hO ?_; clear hO; intro w b_ hO; go_frame) | ((with_reducible refine is_lit ?_); refine a_lit0 hO ?_; clear hO; intro w b_ hl_ hO; go_frame) | ((with_reducible refine is_lit ?_); refine a_lit1 hO ?_; clear hO; intro w b_ hl_ hO; go_frame) | ((with_reducible refine is_lit ?_); refine a_lit2 hO ?_; clear hO; intro w b_ hl_ hO; go_frame) | ((with_reducible refine is_lit ?_); refine a_lit3 hO ?_; clear hO; intro w b_ hl_ hO; go_frame))
    go_at_call 56
    refine (partR' (w0 := w0) (r := r) (off := 7) (l, false) asks60 ⟨X, rest, hr, hO⟩ (by simp only [List.size_toArray, List.length_cons, List.length_nil]; omega) (by first | exact hl | omega)).mono ?_
    clear hO hr
    rintro e w ⟨rfl, X, rest, hr, hO⟩
    (try simp only [List.setIfInBounds_toArray, List.set_cons_succ, List.set_cons_zero, Value.cells] at hO)
    go_wp2_with (first | ((with_reducible refine is_load ?_); refine a_load hO ?_; go_frame) | ((with_reducible refine is_load ?_); refine a_loadA hO ?_; go_frame) | ((with_reducible refine is_store ?_); refine a_store hO ?_; clear hO; intro w hO; go_frame) | ((with_reducible refine is_store ?_); refine a_storeA hO ?_; clear hO; intro w hO; go_frame) | ((with_reducible refine is_alloc ?_); refine a_alloc hO ?_; clear hO; intro w b_ hO; go_frame) | ((with_reducible refine is_box ?_); refine a_box hO ?_; clear hO; intro w b_ hO; go_frame) | ((with_reducible refine is_lit ?_); refine a_lit0 hO ?_; clear hO; intro w b_ hl_ hO; go_frame) | ((with_reducible refine is_lit ?_); refine a_lit1 hO ?_; clear hO; intro w b_ hl_ hO; go_frame) | ((with_reducible refine is_lit ?_); refine a_lit2 hO ?_; clear hO; intro w b_ hl_ hO; go_frame) | ((with_reducible refine is_lit ?_); refine a_lit3 hO ?_; clear hO; intro w b_ hl_ hO; go_frame))
    go_end0
    refine ⟨rfl, ?_⟩
    rw [HF.out]
    refine ⟨[], #[.int .i64 9, .string ByteArray.empty, .slice none 0 0, .slice none 0 0, .slice none 0 0, .int .u64 0, .int .u64 0, .string (tG l).1, .string ByteArray.empty, .string ByteArray.empty], ⟨_, _, _, by first | rfl | (rw [show (((tL l).1.toNat : Nat) : Int) = (tL l).1 from toNat_life _]; rfl) | (rw [show (((tL l).1.toNat : Nat) : Int) = (tL l).1 from toNat_life _, show (((tN l).1.toNat : Nat) : Int) = (tN l).1 from toNat_num _]; rfl) | (rw [show (((tKL l).1.toNat : Nat) : Int) = (tKL l).1 from toNat_life _]; rfl), rdS_nil _, rdB_nil _, rdS_nil _⟩, X, rest, hr, hO.perm (List.Perm.of_eq (by first | rfl | (simp only [List.flatten_cons, List.append_assoc, List.nil_append]; rfl)))⟩
  · have HF : Hid (partsRF op l = ({ baseC op with pfx := (tX l).1 }, (tX l).2)) := Lib.hid (by simp [partsRF, ho])
    subst ho
    go_enter Try.func47, Try.ntmps47
    go_wp2_with (first | ((with_reducible refine is_load ?_); refine a_load hO ?_; go_frame) | ((with_reducible refine is_load ?_); refine a_loadA hO ?_; go_frame) | ((with_reducible refine is_store ?_); refine a_store hO ?_; clear hO; intro w hO; go_frame) | ((with_reducible refine is_store ?_); refine a_storeA hO ?_; clear hO; intro w hO; go_frame) | ((with_reducible refine is_alloc ?_); refine a_alloc hO ?_; clear hO; intro w b_ hO; go_frame) | ((with_reducible refine is_box ?_); refine a_box hO ?_; clear hO; intro w b_ hO; go_frame) | ((with_reducible refine is_lit ?_); refine a_lit0 hO ?_; clear hO; intro w b_ hl_ hO; go_frame) | ((with_reducible refine is_lit ?_); refine a_lit1 hO ?_; clear hO; intro w b_ hl_ hO; go_frame) | ((with_reducible refine is_lit ?_); refine a_lit2 hO ?_; clear hO; intro w b_ hl_ hO; go_frame) | ((with_reducible refine is_lit ?_); refine a_lit3 hO ?_; clear hO; intro w b_ hl_ hO; go_frame))
    go_at_call 56
    refine (partR' (w0 := w0) (r := r) (off := 8) (l, false) asks41 ⟨X, rest, hr, hO⟩ (by simp only [List.size_toArray, List.length_cons, List.length_nil]; omega) (by first | exact hl | omega)).mono ?_
    clear hO hr
    rintro e w ⟨rfl, X, rest, hr, hO⟩
    (try simp only [List.setIfInBounds_toArray, List.set_cons_succ, List.set_cons_zero, Value.cells] at hO)
    go_wp2_with (first | ((with_reducible refine is_load ?_); refine a_load hO ?_; go_frame) | ((with_reducible refine is_load ?_); refine a_loadA hO ?_; go_frame) | ((with_reducible refine is_store ?_); refine a_store hO ?_; clear hO; intro w hO; go_frame) | ((with_reducible refine is_store ?_); refine a_storeA hO ?_; clear hO; intro w hO; go_frame) | ((with_reducible refine is_alloc ?_); refine a_alloc hO ?_; clear hO; intro w b_ hO; go_frame) | ((with_reducible refine is_box ?_); refine a_box hO ?_; clear hO; intro w b_ hO; go_frame) | ((with_reducible refine is_lit ?_); refine a_lit0 hO ?_; clear hO; intro w b_ hl_ hO; go_frame) | ((with_reducible refine is_lit ?_); refine a_lit1 hO ?_; clear hO; intro w b_ hl_ hO; go_frame) | ((with_reducible refine is_lit ?_); refine a_lit2 hO ?_; clear hO; intro w b_ hl_ hO; go_frame) | ((with_reducible refine is_lit ?_); refine a_lit3 hO ?_; clear hO; intro w b_ hl_ hO; go_frame))
    go_end0
    refine ⟨rfl, ?_⟩
    rw [HF.out]
    refine ⟨[], #[.int .i64 10, .string ByteArray.empty, .slice none 0 0, .slice none 0 0, .slice none 0 0, .int .u64 0, .int .u64 0, .string ByteArray.empty, .string (tX l).1, .string ByteArray.empty], ⟨_, _, _, by first | rfl | (rw [show (((tL l).1.toNat : Nat) : Int) = (tL l).1 from toNat_life _]; rfl) | (rw [show (((tL l).1.toNat : Nat) : Int) = (tL l).1 from toNat_life _, show (((tN l).1.toNat : Nat) : Int) = (tN l).1 from toNat_num _]; rfl) | (rw [show (((tKL l).1.toNat : Nat) : Int) = (tKL l).1 from toNat_life _]; rfl), rdS_nil _, rdB_nil _, rdS_nil _⟩, X, rest, hr, hO.perm (List.Perm.of_eq (by first | rfl | (simp only [List.flatten_cons, List.append_assoc, List.nil_append]; rfl)))⟩
  · have HF : Hid (partsRF op l = ({ baseC op with key := (tK l).1, child := (tC l).1 }, (tC l).2)) := Lib.hid (by simp [partsRF, ho])
    subst ho
    go_enter Try.func47, Try.ntmps47
    go_wp2_with (first | ((with_reducible refine is_load ?_); refine a_load hO ?_; go_frame) | ((with_reducible refine is_load ?_); refine a_loadA hO ?_; go_frame) | ((with_reducible refine is_store ?_); refine a_store hO ?_; clear hO; intro w hO; go_frame) | ((with_reducible refine is_store ?_); refine a_storeA hO ?_; clear hO; intro w hO; go_frame) | ((with_reducible refine is_alloc ?_); refine a_alloc hO ?_; clear hO; intro w b_ hO; go_frame) | ((with_reducible refine is_box ?_); refine a_box hO ?_; clear hO; intro w b_ hO; go_frame) | ((with_reducible refine is_lit ?_); refine a_lit0 hO ?_; clear hO; intro w b_ hl_ hO; go_frame) | ((with_reducible refine is_lit ?_); refine a_lit1 hO ?_; clear hO; intro w b_ hl_ hO; go_frame) | ((with_reducible refine is_lit ?_); refine a_lit2 hO ?_; clear hO; intro w b_ hl_ hO; go_frame) | ((with_reducible refine is_lit ?_); refine a_lit3 hO ?_; clear hO; intro w b_ hl_ hO; go_frame))
    go_at_call 56
    refine (partR' (w0 := w0) (r := r) (off := 1) (l, false) asks57 ⟨X, rest, hr, hO⟩ (by simp only [List.size_toArray, List.length_cons, List.length_nil]; omega) (by first | exact hl | omega)).mono ?_
    clear hO hr
    rintro e w ⟨rfl, X, rest, hr, hO⟩
    (try simp only [List.setIfInBounds_toArray, List.set_cons_succ, List.set_cons_zero, Value.cells] at hO)
    go_wp2_with (first | ((with_reducible refine is_load ?_); refine a_load hO ?_; go_frame) | ((with_reducible refine is_load ?_); refine a_loadA hO ?_; go_frame) | ((with_reducible refine is_store ?_); refine a_store hO ?_; clear hO; intro w hO; go_frame) | ((with_reducible refine is_store ?_); refine a_storeA hO ?_; clear hO; intro w hO; go_frame) | ((with_reducible refine is_alloc ?_); refine a_alloc hO ?_; clear hO; intro w b_ hO; go_frame) | ((with_reducible refine is_box ?_); refine a_box hO ?_; clear hO; intro w b_ hO; go_frame) | ((with_reducible refine is_lit ?_); refine a_lit0 hO ?_; clear hO; intro w b_ hl_ hO; go_frame) | ((with_reducible refine is_lit ?_); refine a_lit1 hO ?_; clear hO; intro w b_ hl_ hO; go_frame) | ((with_reducible refine is_lit ?_); refine a_lit2 hO ?_; clear hO; intro w b_ hl_ hO; go_frame) | ((with_reducible refine is_lit ?_); refine a_lit3 hO ?_; clear hO; intro w b_ hl_ hO; go_frame))
    go_at_call 56
    refine (partR' (w0 := w0) (r := r) (off := 9) (tK l).2 asks57 ⟨X, rest, hr, hO⟩ (by simp only [List.size_toArray, List.length_cons, List.length_nil]; omega) (by first | exact hl | omega)).mono ?_
    clear hO hr
    rintro e w ⟨rfl, X, rest, hr, hO⟩
    (try simp only [List.setIfInBounds_toArray, List.set_cons_succ, List.set_cons_zero, Value.cells] at hO)
    go_wp2_with (first | ((with_reducible refine is_load ?_); refine a_load hO ?_; go_frame) | ((with_reducible refine is_load ?_); refine a_loadA hO ?_; go_frame) | ((with_reducible refine is_store ?_); refine a_store hO ?_; clear hO; intro w hO; go_frame) | ((with_reducible refine is_store ?_); refine a_storeA hO ?_; clear hO; intro w hO; go_frame) | ((with_reducible refine is_alloc ?_); refine a_alloc hO ?_; clear hO; intro w b_ hO; go_frame) | ((with_reducible refine is_box ?_); refine a_box hO ?_; clear hO; intro w b_ hO; go_frame) | ((with_reducible refine is_lit ?_); refine a_lit0 hO ?_; clear hO; intro w b_ hl_ hO; go_frame) | ((with_reducible refine is_lit ?_); refine a_lit1 hO ?_; clear hO; intro w b_ hl_ hO; go_frame) | ((with_reducible refine is_lit ?_); refine a_lit2 hO ?_; clear hO; intro w b_ hl_ hO; go_frame) | ((with_reducible refine is_lit ?_); refine a_lit3 hO ?_; clear hO; intro w b_ hl_ hO; go_frame))
    go_end0
    refine ⟨rfl, ?_⟩
    rw [HF.out]
    refine ⟨[], #[.int .i64 11, .string (tK l).1, .slice none 0 0, .slice none 0 0, .slice none 0 0, .int .u64 0, .int .u64 0, .string ByteArray.empty, .string ByteArray.empty, .string (tC l).1], ⟨_, _, _, by first | rfl | (rw [show (((tL l).1.toNat : Nat) : Int) = (tL l).1 from toNat_life _]; rfl) | (rw [show (((tL l).1.toNat : Nat) : Int) = (tL l).1 from toNat_life _, show (((tN l).1.toNat : Nat) : Int) = (tN l).1 from toNat_num _]; rfl) | (rw [show (((tKL l).1.toNat : Nat) : Int) = (tKL l).1 from toNat_life _]; rfl), rdS_nil _, rdB_nil _, rdS_nil _⟩, X, rest, hr, hO.perm (List.Perm.of_eq (by first | rfl | (simp only [List.flatten_cons, List.append_assoc, List.nil_append]; rfl)))⟩
  · have HF : Hid (partsRF op l = ({ baseC op with key := (tK l).1, child := (tC l).1 }, (tC l).2)) := Lib.hid (by simp [partsRF, ho])
    subst ho
    go_enter Try.func47, Try.ntmps47
    go_wp2_with (first | ((with_reducible refine is_load ?_); refine a_load hO ?_; go_frame) | ((with_reducible refine is_load ?_); refine a_loadA hO ?_; go_frame) | ((with_reducible refine is_store ?_); refine a_store hO ?_; clear hO; intro w hO; go_frame) | ((with_reducible refine is_store ?_); refine a_storeA hO ?_; clear hO; intro w hO; go_frame) | ((with_reducible refine is_alloc ?_); refine a_alloc hO ?_; clear hO; intro w b_ hO; go_frame) | ((with_reducible refine is_box ?_); refine a_box hO ?_; clear hO; intro w b_ hO; go_frame) | ((with_reducible refine is_lit ?_); refine a_lit0 hO ?_; clear hO; intro w b_ hl_ hO; go_frame) | ((with_reducible refine is_lit ?_); refine a_lit1 hO ?_; clear hO; intro w b_ hl_ hO; go_frame) | ((with_reducible refine is_lit ?_); refine a_lit2 hO ?_; clear hO; intro w b_ hl_ hO; go_frame) | ((with_reducible refine is_lit ?_); refine a_lit3 hO ?_; clear hO; intro w b_ hl_ hO; go_frame))
    go_at_call 56
    refine (partR' (w0 := w0) (r := r) (off := 1) (l, false) asks57 ⟨X, rest, hr, hO⟩ (by simp only [List.size_toArray, List.length_cons, List.length_nil]; omega) (by first | exact hl | omega)).mono ?_
    clear hO hr
    rintro e w ⟨rfl, X, rest, hr, hO⟩
    (try simp only [List.setIfInBounds_toArray, List.set_cons_succ, List.set_cons_zero, Value.cells] at hO)
    go_wp2_with (first | ((with_reducible refine is_load ?_); refine a_load hO ?_; go_frame) | ((with_reducible refine is_load ?_); refine a_loadA hO ?_; go_frame) | ((with_reducible refine is_store ?_); refine a_store hO ?_; clear hO; intro w hO; go_frame) | ((with_reducible refine is_store ?_); refine a_storeA hO ?_; clear hO; intro w hO; go_frame) | ((with_reducible refine is_alloc ?_); refine a_alloc hO ?_; clear hO; intro w b_ hO; go_frame) | ((with_reducible refine is_box ?_); refine a_box hO ?_; clear hO; intro w b_ hO; go_frame) | ((with_reducible refine is_lit ?_); refine a_lit0 hO ?_; clear hO; intro w b_ hl_ hO; go_frame) | ((with_reducible refine is_lit ?_); refine a_lit1 hO ?_; clear hO; intro w b_ hl_ hO; go_frame) | ((with_reducible refine is_lit ?_); refine a_lit2 hO ?_; clear hO; intro w b_ hl_ hO; go_frame) | ((with_reducible refine is_lit ?_); refine a_lit3 hO ?_; clear hO; intro w b_ hl_ hO; go_frame))
    go_at_call 56
    refine (partR' (w0 := w0) (r := r) (off := 9) (tK l).2 asks57 ⟨X, rest, hr, hO⟩ (by simp only [List.size_toArray, List.length_cons, List.length_nil]; omega) (by first | exact hl | omega)).mono ?_
    clear hO hr
    rintro e w ⟨rfl, X, rest, hr, hO⟩
    (try simp only [List.setIfInBounds_toArray, List.set_cons_succ, List.set_cons_zero, Value.cells] at hO)
    go_wp2_with (first | ((with_reducible refine is_load ?_); refine a_load hO ?_; go_frame) | ((with_reducible refine is_load ?_); refine a_loadA hO ?_; go_frame) | ((with_reducible refine is_store ?_); refine a_store hO ?_; clear hO; intro w hO; go_frame) | ((with_reducible refine is_store ?_); refine a_storeA hO ?_; clear hO; intro w hO; go_frame) | ((with_reducible refine is_alloc ?_); refine a_alloc hO ?_; clear hO; intro w b_ hO; go_frame) | ((with_reducible refine is_box ?_); refine a_box hO ?_; clear hO; intro w b_ hO; go_frame) | ((with_reducible refine is_lit ?_); refine a_lit0 hO ?_; clear hO; intro w b_ hl_ hO; go_frame) | ((with_reducible refine is_lit ?_); refine a_lit1 hO ?_; clear hO; intro w b_ hl_ hO; go_frame) | ((with_reducible refine is_lit ?_); refine a_lit2 hO ?_; clear hO; intro w b_ hl_ hO; go_frame) | ((with_reducible refine is_lit ?_); refine a_lit3 hO ?_; clear hO; intro w b_ hl_ hO; go_frame))
    go_end0
    refine ⟨rfl, ?_⟩
    rw [HF.out]
    refine ⟨[], #[.int .i64 12, .string (tK l).1, .slice none 0 0, .slice none 0 0, .slice none 0 0, .int .u64 0, .int .u64 0, .string ByteArray.empty, .string ByteArray.empty, .string (tC l).1], ⟨_, _, _, by first | rfl | (rw [show (((tL l).1.toNat : Nat) : Int) = (tL l).1 from toNat_life _]; rfl) | (rw [show (((tL l).1.toNat : Nat) : Int) = (tL l).1 from toNat_life _, show (((tN l).1.toNat : Nat) : Int) = (tN l).1 from toNat_num _]; rfl) | (rw [show (((tKL l).1.toNat : Nat) : Int) = (tKL l).1 from toNat_life _]; rfl), rdS_nil _, rdB_nil _, rdS_nil _⟩, X, rest, hr, hO.perm (List.Perm.of_eq (by first | rfl | (simp only [List.flatten_cons, List.append_assoc, List.nil_append]; rfl)))⟩
  · have HF : Hid (partsRF op l = ({ baseC op with key := (tK l).1 }, (tK l).2)) := Lib.hid (by simp [partsRF, ho])
    subst ho
    go_enter Try.func47, Try.ntmps47
    go_wp2_with (first | ((with_reducible refine is_load ?_); refine a_load hO ?_; go_frame) | ((with_reducible refine is_load ?_); refine a_loadA hO ?_; go_frame) | ((with_reducible refine is_store ?_); refine a_store hO ?_; clear hO; intro w hO; go_frame) | ((with_reducible refine is_store ?_); refine a_storeA hO ?_; clear hO; intro w hO; go_frame) | ((with_reducible refine is_alloc ?_); refine a_alloc hO ?_; clear hO; intro w b_ hO; go_frame) | ((with_reducible refine is_box ?_); refine a_box hO ?_; clear hO; intro w b_ hO; go_frame) | ((with_reducible refine is_lit ?_); refine a_lit0 hO ?_; clear hO; intro w b_ hl_ hO; go_frame) | ((with_reducible refine is_lit ?_); refine a_lit1 hO ?_; clear hO; intro w b_ hl_ hO; go_frame) | ((with_reducible refine is_lit ?_); refine a_lit2 hO ?_; clear hO; intro w b_ hl_ hO; go_frame) | ((with_reducible refine is_lit ?_); refine a_lit3 hO ?_; clear hO; intro w b_ hl_ hO; go_frame))
    go_at_call 56
    refine (partR' (w0 := w0) (r := r) (off := 1) (l, false) asks57 ⟨X, rest, hr, hO⟩ (by simp only [List.size_toArray, List.length_cons, List.length_nil]; omega) (by first | exact hl | omega)).mono ?_
    clear hO hr
    rintro e w ⟨rfl, X, rest, hr, hO⟩
    (try simp only [List.setIfInBounds_toArray, List.set_cons_succ, List.set_cons_zero, Value.cells] at hO)
    go_wp2_with (first | ((with_reducible refine is_load ?_); refine a_load hO ?_; go_frame) | ((with_reducible refine is_load ?_); refine a_loadA hO ?_; go_frame) | ((with_reducible refine is_store ?_); refine a_store hO ?_; clear hO; intro w hO; go_frame) | ((with_reducible refine is_store ?_); refine a_storeA hO ?_; clear hO; intro w hO; go_frame) | ((with_reducible refine is_alloc ?_); refine a_alloc hO ?_; clear hO; intro w b_ hO; go_frame) | ((with_reducible refine is_box ?_); refine a_box hO ?_; clear hO; intro w b_ hO; go_frame) | ((with_reducible refine is_lit ?_); refine a_lit0 hO ?_; clear hO; intro w b_ hl_ hO; go_frame) | ((with_reducible refine is_lit ?_); refine a_lit1 hO ?_; clear hO; intro w b_ hl_ hO; go_frame) | ((with_reducible refine is_lit ?_); refine a_lit2 hO ?_; clear hO; intro w b_ hl_ hO; go_frame) | ((with_reducible refine is_lit ?_); refine a_lit3 hO ?_; clear hO; intro w b_ hl_ hO; go_frame))
    go_end0
    refine ⟨rfl, ?_⟩
    rw [HF.out]
    refine ⟨[], #[.int .i64 13, .string (tK l).1, .slice none 0 0, .slice none 0 0, .slice none 0 0, .int .u64 0, .int .u64 0, .string ByteArray.empty, .string ByteArray.empty, .string ByteArray.empty], ⟨_, _, _, by first | rfl | (rw [show (((tL l).1.toNat : Nat) : Int) = (tL l).1 from toNat_life _]; rfl) | (rw [show (((tL l).1.toNat : Nat) : Int) = (tL l).1 from toNat_life _, show (((tN l).1.toNat : Nat) : Int) = (tN l).1 from toNat_num _]; rfl) | (rw [show (((tKL l).1.toNat : Nat) : Int) = (tKL l).1 from toNat_life _]; rfl), rdS_nil _, rdB_nil _, rdS_nil _⟩, X, rest, hr, hO.perm (List.Perm.of_eq (by first | rfl | (simp only [List.flatten_cons, List.append_assoc, List.nil_append]; rfl)))⟩
  · have HF : Hid (partsRF op l = (baseC op, l, false)) := Lib.hid (by simp [partsRF, ho])
    subst ho
    go_enter Try.func47, Try.ntmps47
    go_wp2_with (first | ((with_reducible refine is_load ?_); refine a_load hO ?_; go_frame) | ((with_reducible refine is_load ?_); refine a_loadA hO ?_; go_frame) | ((with_reducible refine is_store ?_); refine a_store hO ?_; clear hO; intro w hO; go_frame) | ((with_reducible refine is_store ?_); refine a_storeA hO ?_; clear hO; intro w hO; go_frame) | ((with_reducible refine is_alloc ?_); refine a_alloc hO ?_; clear hO; intro w b_ hO; go_frame) | ((with_reducible refine is_box ?_); refine a_box hO ?_; clear hO; intro w b_ hO; go_frame) | ((with_reducible refine is_lit ?_); refine a_lit0 hO ?_; clear hO; intro w b_ hl_ hO; go_frame) | ((with_reducible refine is_lit ?_); refine a_lit1 hO ?_; clear hO; intro w b_ hl_ hO; go_frame) | ((with_reducible refine is_lit ?_); refine a_lit2 hO ?_; clear hO; intro w b_ hl_ hO; go_frame) | ((with_reducible refine is_lit ?_); refine a_lit3 hO ?_; clear hO; intro w b_ hl_ hO; go_frame))
    go_end0
    refine ⟨rfl, ?_⟩
    rw [HF.out]
    refine ⟨[], #[.int .i64 14, .string ByteArray.empty, .slice none 0 0, .slice none 0 0, .slice none 0 0, .int .u64 0, .int .u64 0, .string ByteArray.empty, .string ByteArray.empty, .string ByteArray.empty], ⟨_, _, _, by first | rfl | (rw [show (((tL l).1.toNat : Nat) : Int) = (tL l).1 from toNat_life _]; rfl) | (rw [show (((tL l).1.toNat : Nat) : Int) = (tL l).1 from toNat_life _, show (((tN l).1.toNat : Nat) : Int) = (tN l).1 from toNat_num _]; rfl) | (rw [show (((tKL l).1.toNat : Nat) : Int) = (tKL l).1 from toNat_life _]; rfl), rdS_nil _, rdB_nil _, rdS_nil _⟩, X, rest, hr, hO.perm (List.Perm.of_eq (by first | rfl | (simp only [List.flatten_cons, List.append_assoc, List.nil_append]; rfl)))⟩
  · have HF : Hid (partsRF op l = (baseC op, l, false)) := Lib.hid (by simp [partsRF, ho])
    subst ho
    go_enter Try.func47, Try.ntmps47
    go_wp2_with (first | ((with_reducible refine is_load ?_); refine a_load hO ?_; go_frame) | ((with_reducible refine is_load ?_); refine a_loadA hO ?_; go_frame) | ((with_reducible refine is_store ?_); refine a_store hO ?_; clear hO; intro w hO; go_frame) | ((with_reducible refine is_store ?_); refine a_storeA hO ?_; clear hO; intro w hO; go_frame) | ((with_reducible refine is_alloc ?_); refine a_alloc hO ?_; clear hO; intro w b_ hO; go_frame) | ((with_reducible refine is_box ?_); refine a_box hO ?_; clear hO; intro w b_ hO; go_frame) | ((with_reducible refine is_lit ?_); refine a_lit0 hO ?_; clear hO; intro w b_ hl_ hO; go_frame) | ((with_reducible refine is_lit ?_); refine a_lit1 hO ?_; clear hO; intro w b_ hl_ hO; go_frame) | ((with_reducible refine is_lit ?_); refine a_lit2 hO ?_; clear hO; intro w b_ hl_ hO; go_frame) | ((with_reducible refine is_lit ?_); refine a_lit3 hO ?_; clear hO; intro w b_ hl_ hO; go_frame))
    go_end0
    refine ⟨rfl, ?_⟩
    rw [HF.out]
    refine ⟨[], #[.int .i64 15, .string ByteArray.empty, .slice none 0 0, .slice none 0 0, .slice none 0 0, .int .u64 0, .int .u64 0, .string ByteArray.empty, .string ByteArray.empty, .string ByteArray.empty], ⟨_, _, _, by first | rfl | (rw [show (((tL l).1.toNat : Nat) : Int) = (tL l).1 from toNat_life _]; rfl) | (rw [show (((tL l).1.toNat : Nat) : Int) = (tL l).1 from toNat_life _, show (((tN l).1.toNat : Nat) : Int) = (tN l).1 from toNat_num _]; rfl) | (rw [show (((tKL l).1.toNat : Nat) : Int) = (tKL l).1 from toNat_life _]; rfl), rdS_nil _, rdB_nil _, rdS_nil _⟩, X, rest, hr, hO.perm (List.Perm.of_eq (by first | rfl | (simp only [List.flatten_cons, List.append_assoc, List.nil_append]; rfl)))⟩
end Go.Proofs.Yteghmoijhcdpeaa
