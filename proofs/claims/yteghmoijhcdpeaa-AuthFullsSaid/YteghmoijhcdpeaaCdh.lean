import Derived.Test.YteghmoijhcdpeaaCdg
set_option linter.unusedSimpArgs false
set_option linter.unusedVariables false
set_option maxRecDepth 100000
namespace Go.Proofs.Yteghmoijhcdpeaa
open Go.RowKit

/-- What the parts of a command write, one after the other. -/
def wP (A : ByteArray → Bool) (s : ByteArray) (r : List UInt8 × Bool) : List UInt8 × Bool := (r.1 ++ putF 10 s.size ++ s.data.toList, r.2 || !A s)
def wV (v : List UInt8) (r : List UInt8 × Bool) : List UInt8 × Bool := (r.1 ++ putF 10 v.length ++ v, r.2 || !decide (v.length ≤ 65536))
def wL (life : Nat) (r : List UInt8 × Bool) : List UInt8 × Bool := (r.1 ++ putF 10 life, r.2 || life == 0)
def wN (k : Nat) (r : List UInt8 × Bool) : List UInt8 × Bool := (r.1 ++ putF 10 k, r.2)
def sK (q : Cmd) := wP keyOk q.key ([], false)
def sV (q : Cmd) := wV q.value (sK q)
def sT (q : Cmd) := listWF tagOk 0 16 q.tags (sV q)
def sL (q : Cmd) := wL q.life (sT q)
def partsWF (q : Cmd) : List UInt8 × Bool :=
  if q.op = 1 ∨ q.op = 2 then sL q
  else if q.op = 3 then wN q.version (sL q)
  else if q.op = 4 ∨ q.op = 7 ∨ q.op = 13 then sK q
  else if q.op = 5 then listWF keyOk 1 16 q.keys ([], false)
  else if q.op = 6 then wL q.life (sK q)
  else if q.op = 8 ∨ q.op = 9 then wP tagOk q.tag ([], false)
  else if q.op = 10 then wP pfxOk q.pfx ([], false)
  else if q.op = 11 ∨ q.op = 12 then wP keyOk q.child (sK q)
  else ([], false)
theorem wP_len (A : ByteArray → Bool) (s : ByteArray) (r : List UInt8 × Bool) : (wP A s r).1.length ≤ r.1.length + 10 + s.size := by
  have h := putF_len 10 s.size
  have h2 : s.data.toList.length = s.size := Array.length_toList
  simp only [wP, List.length_append]; omega
theorem wV_len (v : List UInt8) (r : List UInt8 × Bool) : (wV v r).1.length ≤ r.1.length + 10 + v.length := by
  have h := putF_len 10 v.length
  simp only [wV, List.length_append]; omega
theorem wL_len (k : Nat) (r : List UInt8 × Bool) : (wL k r).1.length ≤ r.1.length + 10 := by
  have h := putF_len 10 k
  simp only [wL, List.length_append]; omega
theorem wN_len (k : Nat) (r : List UInt8 × Bool) : (wN k r).1.length ≤ r.1.length + 10 := by
  have h := putF_len 10 k
  simp only [wN, List.length_append]; omega
theorem listF_len (A : ByteArray → Bool) : ∀ (ss : List ByteArray) (r : List UInt8 × Bool), (∀ s ∈ ss, s.size ≤ 300) → (listF A ss r).1.length ≤ r.1.length + 310 * ss.length
  | [], r, _ => by simp [listF]
  | s :: ss, r, h => by
    have h1 := listF_len A ss (r.1 ++ putF 10 s.size ++ s.data.toList, r.2 || !A s) (fun t ht => h t (by simp [ht]))
    have h2 := h s (by simp)
    have h3 := putF_len 10 s.size
    have h4 : s.data.toList.length = s.size := Array.length_toList
    simp only [listF, List.length_cons, List.length_append] at h1 ⊢; omega
theorem listWF_len (A : ByteArray → Bool) (a b : Nat) (ss : List ByteArray) (r : List UInt8 × Bool) (h : ∀ s ∈ ss, s.size ≤ 300) : (listWF A a b ss r).1.length ≤ r.1.length + 10 + 310 * ss.length := by
  have h3 := putF_len 10 ss.length
  unfold listWF
  split
  · simp only [List.length_append]; omega
  · have h1 := listF_len A ss (r.1 ++ putF 10 ss.length, r.2) h
    simp only [List.length_append] at h1; omega
theorem sK_len {q : Cmd} (h : Lite q) : (sK q).1.length ≤ 310 := by
  have h1 := wP_len keyOk q.key ([], false)
  have h2 := h.key
  simp only [sK, List.length_nil] at h1 ⊢; omega
theorem sV_len {q : Cmd} (h : Lite q) : (sV q).1.length ≤ 620 := by
  have h1 := wV_len q.value (sK q)
  have h2 := h.value
  have h3 := sK_len h
  simp only [sV] at h1 ⊢; omega
theorem sT_len {q : Cmd} (h : Lite q) : (sT q).1.length ≤ 6830 := by
  have h1 := listWF_len tagOk 0 16 q.tags (sV q) h.tags1
  have h2 := h.tags
  have h3 := sV_len h
  simp only [sT] at h1 ⊢; omega
theorem sL_len {q : Cmd} (h : Lite q) : (sL q).1.length ≤ 6840 := by
  have h1 := wL_len q.life (sT q)
  have h3 := sT_len h
  simp only [sL] at h1 ⊢; omega
theorem partsWF_len {q : Cmd} (h : Lite q) : (partsWF q).1.length ≤ 7000 := by
  have h1 := sK_len h
  have h2 := sL_len h
  have h3 := wN_len q.version (sL q)
  have h4 := wL_len q.life (sK q)
  have h5 := listWF_len keyOk 1 16 q.keys ([], false) h.keys1
  have h6 := wP_len tagOk q.tag ([], false)
  have h7 := wP_len pfxOk q.pfx ([], false)
  have h8 := wP_len keyOk q.child (sK q)
  have k1 := h.keys
  have k2 := h.tag
  have k3 := h.pfx
  have k4 := h.child
  simp only [List.length_nil] at h5 h6 h7
  unfold partsWF
  repeat (first | (split; omega) | (simp only [List.length_nil]; omega) | split)

theorem partW' {w0 w : World} {C CY : List Chunk} {Y : Chunk} {x g : Nat} {A : ByteArray → Bool} {cv : Value} {p : Addr} {s : ByteArray} (r : List UInt8 × Bool) (hg : Asks g A) (hs : WSt w0 x cv C r.1 r.2 w) (hY : Pick C Y CY) (hp : FCell Y p (.string s)) (hsz : s.size ≤ 300) (hl : r.1.length ≤ 10000) :
    Calls Try.prog 56 #[.pointer (some ⟨x, 0, none⟩), .pointer (some p), .func (.func g) #[] #[]] w (Did (WSt w0 x cv C (wP A s r).1 (wP A s r).2)) := partW hg hs hY hp (by omega) (by omega)
theorem valueW' {w0 w : World} {C C1 CF : List Chunk} {F : Chunk} {x c : Nat} {cs : Array Value} {q : Cmd} (r : List UInt8 × Bool) (hs : WSt w0 x (.pointer (some ⟨c, 0, none⟩)) C r.1 r.2 w) (hc : Pick C [(c, .cells cs 29 (0, 0))] C1) (hq : CmdV F cs q) (hF : Pick C F CF)
    (hv : q.value.length ≤ 300) (hl : r.1.length ≤ 10000) :
    Calls Try.prog 58 #[.pointer (some ⟨x, 0, none⟩)] w (Did (WSt w0 x (.pointer (some ⟨c, 0, none⟩)) C (wV q.value r).1 (wV q.value r).2)) := valueW hs hc hq hF (by omega) (by omega)
theorem lifeW' {w0 w : World} {C C1 : List Chunk} {x c : Nat} {v0 v1 v2 v3 v4 v6 v7 v8 v9 : Value} {life : Nat} (r : List UInt8 × Bool) (hs : WSt w0 x (.pointer (some ⟨c, 0, none⟩)) C r.1 r.2 w)
    (hc : Pick C [(c, .cells #[v0, v1, v2, v3, v4, .int .u64 (life : Int), v6, v7, v8, v9] 29 (0, 0))] C1) (hlf : life < 18446744073709551616) (hl : r.1.length ≤ 10000) :
    Calls Try.prog 61 #[.pointer (some ⟨x, 0, none⟩)] w (Did (WSt w0 x (.pointer (some ⟨c, 0, none⟩)) C (wL life r).1 (wL life r).2)) := lifeW (cs := #[]) hs hc hlf (by omega)
theorem numberW' {w0 w : World} {C CY : List Chunk} {Y : Chunk} {x : Nat} {cv : Value} {p : Addr} (k : Nat) (r : List UInt8 × Bool) (hs : WSt w0 x cv C r.1 r.2 w) (hY : Pick C Y CY) (hp : FCell Y p (.int .u64 k)) (hk : k < 18446744073709551616) (hl : r.1.length ≤ 10000) :
    Calls Try.prog 62 #[.pointer (some ⟨x, 0, none⟩), .pointer (some p)] w (Did (WSt w0 x cv C (wN k r).1 (wN k r).2)) := numberW k hs hY hp hk (by omega)
theorem listW' {w0 w : World} {C CY CF : List Chunk} {Y F : Chunk} {x g : Nat} {A : ByteArray → Bool} {cv vk : Value} {p : Addr} {ss : List ByteArray} {least most : Nat} (r : List UInt8 × Bool) (hg : Asks g A) (hs : WSt w0 x cv C r.1 r.2 w) (hY : Pick C Y CY) (hp : FCell Y p vk)
    (hF : Pick C F CF) (hk : RdS F vk ss) (hlm : least ≤ 16) (hmm : most ≤ 16) (hn : ss.length ≤ 20) (hsz : ∀ s ∈ ss, s.size ≤ 300) (hl : r.1.length ≤ 10000) :
    Calls Try.prog 59 #[.pointer (some ⟨x, 0, none⟩), .pointer (some p), .int .i64 (least : Int), .int .i64 (most : Int), .func (.func g) #[] #[]] w
      (Did (WSt w0 x cv C (listWF A least most ss r).1 (listWF A least most ss r).2)) := listW hg hs hY hp hF hk hlm hmm hn hsz (by omega)

set_option maxHeartbeats 8000000 in
theorem partsW {w0 w : World} {C C1 CF : List Chunk} {F : Chunk} {x c : Nat} {cs : Array Value} {q : Cmd} (hs : WSt w0 x (.pointer (some ⟨c, 0, none⟩)) C [] false w) (hc : Pick C [(c, .cells cs 29 (0, 0))] C1) (hq : CmdV F cs q) (hF : Pick C F CF) (hL : Lite q) (h1 : 1 ≤ q.op) (h15 : q.op ≤ 15) :
    Calls Try.prog 47 #[.pointer (some ⟨x, 0, none⟩)] w (Did (WSt w0 x (.pointer (some ⟨c, 0, none⟩)) C (partsWF q).1 (partsWF q).2)) := by
  obtain ⟨Aa, cc, K, hr, hO⟩ := hs
  have HQ := Lib.hid hq
  obtain ⟨vk, vv, vt, rfl, hk, hvv, ht⟩ := hq
  have Hk := Lib.hid hk
  have Ht := Lib.hid ht
  have HL := Lib.hid hL
  clear hk hvv ht hL
  have hops : q.op = 1 ∨ q.op = 2 ∨ q.op = 3 ∨ q.op = 4 ∨ q.op = 5 ∨ q.op = 6 ∨ q.op = 7 ∨ q.op = 8 ∨ q.op = 9 ∨ q.op = 10 ∨ q.op = 11 ∨ q.op = 12 ∨ q.op = 13 ∨ q.op = 14 ∨ q.op = 15 := by omega
  clear h1 h15
  rcases hops with ho | ho | ho | ho | ho | ho | ho | ho | ho | ho | ho | ho | ho | ho | ho
  · have HF : Hid (partsWF q = sL q) := Lib.hid (by simp [partsWF, ho])
    rw [ho] at hc HQ
    clear ho
    go_enter Try.func47, Try.ntmps47
    go_wp2_with (first | ((with_reducible refine is_load ?_); refine a_load hO ?_; go_frame) | ((with_reducible refine is_load ?_); refine a_loadA hO ?_; go_frame) | ((with_reducible refine is_store ?_); refine a_store hO ?_; clear hO; intro w hO; go_frame) | ((with_reducible refine is_store ?_); refine a_storeA hO ?_; clear hO; intro w hO; go_frame) | ((with_reducible refine is_alloc ?_); refine a_alloc hO ?_; clear hO; intro w b_ hO; go_frame) | ((with_reducible refine is_box ?_); refine a_box hO ?_; clear hO; intro w b_ hO; go_frame) | ((with_reducible refine is_lit ?_); refine a_lit0 hO ?_; clear hO; intro w b_ hl_ hO; go_frame) | ((with_reducible refine is_lit ?_); refine a_lit1 hO ?_; clear hO; intro w b_ hl_ hO; go_frame) | ((with_reducible refine is_lit ?_); refine a_lit2 hO ?_; clear hO; intro w b_ hl_ hO; go_frame) | ((with_reducible refine is_lit ?_); refine a_lit3 hO ?_; clear hO; intro w b_ hl_ hO; go_frame))
    go_at_call 56
    refine (partW' (w0 := w0) (C := C) (s := q.key) ([], false) asks57 ⟨Aa, cc, K, hr, hO⟩ hc (fcell_one rfl) HL.out.key (by simp)).mono ?_
    clear hO hr
    rintro e w ⟨rfl, Aa, cc, K, hr, hO⟩
    go_wp2_with (first | ((with_reducible refine is_load ?_); refine a_load hO ?_; go_frame) | ((with_reducible refine is_load ?_); refine a_loadA hO ?_; go_frame) | ((with_reducible refine is_store ?_); refine a_store hO ?_; clear hO; intro w hO; go_frame) | ((with_reducible refine is_store ?_); refine a_storeA hO ?_; clear hO; intro w hO; go_frame) | ((with_reducible refine is_alloc ?_); refine a_alloc hO ?_; clear hO; intro w b_ hO; go_frame) | ((with_reducible refine is_box ?_); refine a_box hO ?_; clear hO; intro w b_ hO; go_frame) | ((with_reducible refine is_lit ?_); refine a_lit0 hO ?_; clear hO; intro w b_ hl_ hO; go_frame) | ((with_reducible refine is_lit ?_); refine a_lit1 hO ?_; clear hO; intro w b_ hl_ hO; go_frame) | ((with_reducible refine is_lit ?_); refine a_lit2 hO ?_; clear hO; intro w b_ hl_ hO; go_frame) | ((with_reducible refine is_lit ?_); refine a_lit3 hO ?_; clear hO; intro w b_ hl_ hO; go_frame))
    go_at_call 58
    refine (valueW' (w0 := w0) (C := C) (q := q) (sK q) ⟨Aa, cc, K, hr, hO⟩ hc HQ.out hF HL.out.value (by have := sK_len HL.out; omega)).mono ?_
    clear hO hr
    rintro e w ⟨rfl, Aa, cc, K, hr, hO⟩
    go_wp2_with (first | ((with_reducible refine is_load ?_); refine a_load hO ?_; go_frame) | ((with_reducible refine is_load ?_); refine a_loadA hO ?_; go_frame) | ((with_reducible refine is_store ?_); refine a_store hO ?_; clear hO; intro w hO; go_frame) | ((with_reducible refine is_store ?_); refine a_storeA hO ?_; clear hO; intro w hO; go_frame) | ((with_reducible refine is_alloc ?_); refine a_alloc hO ?_; clear hO; intro w b_ hO; go_frame) | ((with_reducible refine is_box ?_); refine a_box hO ?_; clear hO; intro w b_ hO; go_frame) | ((with_reducible refine is_lit ?_); refine a_lit0 hO ?_; clear hO; intro w b_ hl_ hO; go_frame) | ((with_reducible refine is_lit ?_); refine a_lit1 hO ?_; clear hO; intro w b_ hl_ hO; go_frame) | ((with_reducible refine is_lit ?_); refine a_lit2 hO ?_; clear hO; intro w b_ hl_ hO; go_frame) | ((with_reducible refine is_lit ?_); refine a_lit3 hO ?_; clear hO; intro w b_ hl_ hO; go_frame))
    go_at_call 59
    refine (listW' (w0 := w0) (C := C) (ss := q.tags) (least := 0) (most := 16) (sV q) asks60 ⟨Aa, cc, K, hr, hO⟩ hc (fcell_one rfl) hF Ht.out (by decide) (by decide) HL.out.tags HL.out.tags1 (by have := sV_len HL.out; omega)).mono ?_
    clear hO hr
    rintro e w ⟨rfl, Aa, cc, K, hr, hO⟩
    go_wp2_with (first | ((with_reducible refine is_load ?_); refine a_load hO ?_; go_frame) | ((with_reducible refine is_load ?_); refine a_loadA hO ?_; go_frame) | ((with_reducible refine is_store ?_); refine a_store hO ?_; clear hO; intro w hO; go_frame) | ((with_reducible refine is_store ?_); refine a_storeA hO ?_; clear hO; intro w hO; go_frame) | ((with_reducible refine is_alloc ?_); refine a_alloc hO ?_; clear hO; intro w b_ hO; go_frame) | ((with_reducible refine is_box ?_); refine a_box hO ?_; clear hO; intro w b_ hO; go_frame) | ((with_reducible refine is_lit ?_); refine a_lit0 hO ?_; clear hO; intro w b_ hl_ hO; go_frame) | ((with_reducible refine is_lit ?_); refine a_lit1 hO ?_; clear hO; intro w b_ hl_ hO; go_frame) | ((with_reducible refine is_lit ?_); refine a_lit2 hO ?_; clear hO; intro w b_ hl_ hO; go_frame) | ((with_reducible refine is_lit ?_); refine a_lit3 hO ?_; clear hO; intro w b_ hl_ hO; go_frame))
    go_at_call 61
    refine (lifeW' (w0 := w0) (C := C) (life := q.life) (sT q) ⟨Aa, cc, K, hr, hO⟩ hc HL.out.life (by have := sT_len HL.out; omega)).mono ?_
    clear hO hr
    rintro e w ⟨rfl, Aa, cc, K, hr, hO⟩
    go_wp2_with (first | ((with_reducible refine is_load ?_); refine a_load hO ?_; go_frame) | ((with_reducible refine is_load ?_); refine a_loadA hO ?_; go_frame) | ((with_reducible refine is_store ?_); refine a_store hO ?_; clear hO; intro w hO; go_frame) | ((with_reducible refine is_store ?_); refine a_storeA hO ?_; clear hO; intro w hO; go_frame) | ((with_reducible refine is_alloc ?_); refine a_alloc hO ?_; clear hO; intro w b_ hO; go_frame) | ((with_reducible refine is_box ?_); refine a_box hO ?_; clear hO; intro w b_ hO; go_frame) | ((with_reducible refine is_lit ?_); refine a_lit0 hO ?_; clear hO; intro w b_ hl_ hO; go_frame) | ((with_reducible refine is_lit ?_); refine a_lit1 hO ?_; clear hO; intro w b_ hl_ hO; go_frame) | ((with_reducible refine is_lit ?_); refine a_lit2 hO ?_; clear hO; intro w b_ hl_ hO; go_frame) | ((with_reducible refine is_lit ?_); refine a_lit3 hO ?_; clear hO; intro w b_ hl_ hO; go_frame))
    go_end0
    refine ⟨rfl, ?_⟩
    rw [HF.out]
    exact ⟨Aa, cc, K, hr, hO⟩
  · have HF : Hid (partsWF q = sL q) := Lib.hid (by simp [partsWF, ho])
    rw [ho] at hc HQ
    clear ho
    go_enter Try.func47, Try.ntmps47
    go_wp2_with (first | ((with_reducible refine is_load ?_); refine a_load hO ?_; go_frame) | ((with_reducible refine is_load ?_); refine a_loadA hO ?_; go_frame) | ((with_reducible refine is_store ?_); refine a_store hO ?_; clear hO; intro w hO; go_frame) | ((with_reducible refine is_store ?_); refine a_storeA hO ?_; clear hO; intro w hO; go_frame) | ((with_reducible refine is_alloc ?_); refine a_alloc hO ?_; clear hO; intro w b_ hO; go_frame) | ((with_reducible refine is_box ?_); refine a_box hO ?_; clear hO; intro w b_ hO; go_frame) | ((with_reducible refine is_lit ?_); refine a_lit0 hO ?_; clear hO; intro w b_ hl_ hO; go_frame) | ((with_reducible refine is_lit ?_); refine a_lit1 hO ?_; clear hO; intro w b_ hl_ hO; go_frame) | ((with_reducible refine is_lit ?_); refine a_lit2 hO ?_; clear hO; intro w b_ hl_ hO; go_frame) | ((with_reducible refine is_lit ?_); refine a_lit3 hO ?_; clear hO; intro w b_ hl_ hO; go_frame))
    go_at_call 56
    refine (partW' (w0 := w0) (C := C) (s := q.key) ([], false) asks57 ⟨Aa, cc, K, hr, hO⟩ hc (fcell_one rfl) HL.out.key (by simp)).mono ?_
    clear hO hr
    rintro e w ⟨rfl, Aa, cc, K, hr, hO⟩
    go_wp2_with (first | ((with_reducible refine is_load ?_); refine a_load hO ?_; go_frame) | ((with_reducible refine is_load ?_); refine a_loadA hO ?_; go_frame) | ((with_reducible refine is_store ?_); refine a_store hO ?_; clear hO; intro w hO; go_frame) | ((with_reducible refine is_store ?_); refine a_storeA hO ?_; clear hO; intro w hO; go_frame) | ((with_reducible refine is_alloc ?_); refine a_alloc hO ?_; clear hO; intro w b_ hO; go_frame) | ((with_reducible refine is_box ?_); refine a_box hO ?_; clear hO; intro w b_ hO; go_frame) | ((with_reducible refine is_lit ?_); refine a_lit0 hO ?_; clear hO; intro w b_ hl_ hO; go_frame) | ((with_reducible refine is_lit ?_); refine a_lit1 hO ?_; clear hO; intro w b_ hl_ hO; go_frame) | ((with_reducible refine is_lit ?_); refine a_lit2 hO ?_; clear hO; intro w b_ hl_ hO; go_frame) | ((with_reducible refine is_lit ?_); refine a_lit3 hO ?_; clear hO; intro w b_ hl_ hO; go_frame))
    go_at_call 58
    refine (valueW' (w0 := w0) (C := C) (q := q) (sK q) ⟨Aa, cc, K, hr, hO⟩ hc HQ.out hF HL.out.value (by have := sK_len HL.out; omega)).mono ?_
    clear hO hr
    rintro e w ⟨rfl, Aa, cc, K, hr, hO⟩
    go_wp2_with (first | ((with_reducible refine is_load ?_); refine a_load hO ?_; go_frame) | ((with_reducible refine is_load ?_); refine a_loadA hO ?_; go_frame) | ((with_reducible refine is_store ?_); refine a_store hO ?_; clear hO; intro w hO; go_frame) | ((with_reducible refine is_store ?_); refine a_storeA hO ?_; clear hO; intro w hO; go_frame) | ((with_reducible refine is_alloc ?_); refine a_alloc hO ?_; clear hO; intro w b_ hO; go_frame) | ((with_reducible refine is_box ?_); refine a_box hO ?_; clear hO; intro w b_ hO; go_frame) | ((with_reducible refine is_lit ?_); refine a_lit0 hO ?_; clear hO; intro w b_ hl_ hO; go_frame) | ((with_reducible refine is_lit ?_); refine a_lit1 hO ?_; clear hO; intro w b_ hl_ hO; go_frame) | ((with_reducible refine is_lit ?_); refine a_lit2 hO ?_; clear hO; intro w b_ hl_ hO; go_frame) | ((with_reducible refine is_lit ?_); refine a_lit3 hO ?_; clear hO; intro w b_ hl_ hO; go_frame))
    go_at_call 59
    refine (listW' (w0 := w0) (C := C) (ss := q.tags) (least := 0) (most := 16) (sV q) asks60 ⟨Aa, cc, K, hr, hO⟩ hc (fcell_one rfl) hF Ht.out (by decide) (by decide) HL.out.tags HL.out.tags1 (by have := sV_len HL.out; omega)).mono ?_
    clear hO hr
    rintro e w ⟨rfl, Aa, cc, K, hr, hO⟩
    go_wp2_with (first | ((with_reducible refine is_load ?_); refine a_load hO ?_; go_frame) | ((with_reducible refine is_load ?_); refine a_loadA hO ?_; go_frame) | ((with_reducible refine is_store ?_); refine a_store hO ?_; clear hO; intro w hO; go_frame) | ((with_reducible refine is_store ?_); refine a_storeA hO ?_; clear hO; intro w hO; go_frame) | ((with_reducible refine is_alloc ?_); refine a_alloc hO ?_; clear hO; intro w b_ hO; go_frame) | ((with_reducible refine is_box ?_); refine a_box hO ?_; clear hO; intro w b_ hO; go_frame) | ((with_reducible refine is_lit ?_); refine a_lit0 hO ?_; clear hO; intro w b_ hl_ hO; go_frame) | ((with_reducible refine is_lit ?_); refine a_lit1 hO ?_; clear hO; intro w b_ hl_ hO; go_frame) | ((with_reducible refine is_lit ?_); refine a_lit2 hO ?_; clear hO; intro w b_ hl_ hO; go_frame) | ((with_reducible refine is_lit ?_); refine a_lit3 hO ?_; clear hO; intro w b_ hl_ hO; go_frame))
    go_at_call 61
    refine (lifeW' (w0 := w0) (C := C) (life := q.life) (sT q) ⟨Aa, cc, K, hr, hO⟩ hc HL.out.life (by have := sT_len HL.out; omega)).mono ?_
    clear hO hr
    rintro e w ⟨rfl, Aa, cc, K, hr, hO⟩
    go_wp2_with (first | ((with_reducible refine is_load ?_); refine a_load hO ?_; go_frame) | ((with_reducible refine is_load ?_); refine a_loadA hO ?_; go_frame) | ((with_reducible refine is_store ?_); refine a_store hO ?_; clear hO; intro w hO; go_frame) | ((with_reducible refine is_store ?_); refine a_storeA hO ?_; clear hO; intro w hO; go_frame) | ((with_reducible refine is_alloc ?_); refine a_alloc hO ?_; clear hO; intro w b_ hO; go_frame) | ((with_reducible refine is_box ?_); refine a_box hO ?_; clear hO; intro w b_ hO; go_frame) | ((with_reducible refine is_lit ?_); refine a_lit0 hO ?_; clear hO; intro w b_ hl_ hO; go_frame) | ((with_reducible refine is_lit ?_); refine a_lit1 hO ?_; clear hO; intro w b_ hl_ hO; go_frame) | ((with_reducible refine is_lit ?_); refine a_lit2 hO ?_; clear hO; intro w b_ hl_ hO; go_frame) | ((with_reducible refine is_lit ?_); refine a_lit3 hO ?_; clear hO; intro w b_ hl_ hO; go_frame))
    go_end0
    refine ⟨rfl, ?_⟩
    rw [HF.out]
    exact ⟨Aa, cc, K, hr, hO⟩
  · have HF : Hid (partsWF q = wN q.version (sL q)) := Lib.hid (by simp [partsWF, ho])
    rw [ho] at hc HQ
    clear ho
    go_enter Try.func47, Try.ntmps47
    go_wp2_with (first | ((with_reducible refine is_load ?_); refine a_load hO ?_; go_frame) | ((with_reducible refine is_load ?_); refine a_loadA hO ?_; go_frame) | ((with_reducible refine is_store ?_); refine a_store hO ?_; clear hO; intro w hO; go_frame) | ((with_reducible refine is_store ?_); refine a_storeA hO ?_; clear hO; intro w hO; go_frame) | ((with_reducible refine is_alloc ?_); refine a_alloc hO ?_; clear hO; intro w b_ hO; go_frame) | ((with_reducible refine is_box ?_); refine a_box hO ?_; clear hO; intro w b_ hO; go_frame) | ((with_reducible refine is_lit ?_); refine a_lit0 hO ?_; clear hO; intro w b_ hl_ hO; go_frame) | ((with_reducible refine is_lit ?_); refine a_lit1 hO ?_; clear hO; intro w b_ hl_ hO; go_frame) | ((with_reducible refine is_lit ?_); refine a_lit2 hO ?_; clear hO; intro w b_ hl_ hO; go_frame) | ((with_reducible refine is_lit ?_); refine a_lit3 hO ?_; clear hO; intro w b_ hl_ hO; go_frame))
    go_at_call 56
    refine (partW' (w0 := w0) (C := C) (s := q.key) ([], false) asks57 ⟨Aa, cc, K, hr, hO⟩ hc (fcell_one rfl) HL.out.key (by simp)).mono ?_
    clear hO hr
    rintro e w ⟨rfl, Aa, cc, K, hr, hO⟩
    go_wp2_with (first | ((with_reducible refine is_load ?_); refine a_load hO ?_; go_frame) | ((with_reducible refine is_load ?_); refine a_loadA hO ?_; go_frame) | ((with_reducible refine is_store ?_); refine a_store hO ?_; clear hO; intro w hO; go_frame) | ((with_reducible refine is_store ?_); refine a_storeA hO ?_; clear hO; intro w hO; go_frame) | ((with_reducible refine is_alloc ?_); refine a_alloc hO ?_; clear hO; intro w b_ hO; go_frame) | ((with_reducible refine is_box ?_); refine a_box hO ?_; clear hO; intro w b_ hO; go_frame) | ((with_reducible refine is_lit ?_); refine a_lit0 hO ?_; clear hO; intro w b_ hl_ hO; go_frame) | ((with_reducible refine is_lit ?_); refine a_lit1 hO ?_; clear hO; intro w b_ hl_ hO; go_frame) | ((with_reducible refine is_lit ?_); refine a_lit2 hO ?_; clear hO; intro w b_ hl_ hO; go_frame) | ((with_reducible refine is_lit ?_); refine a_lit3 hO ?_; clear hO; intro w b_ hl_ hO; go_frame))
    go_at_call 58
    refine (valueW' (w0 := w0) (C := C) (q := q) (sK q) ⟨Aa, cc, K, hr, hO⟩ hc HQ.out hF HL.out.value (by have := sK_len HL.out; omega)).mono ?_
    clear hO hr
    rintro e w ⟨rfl, Aa, cc, K, hr, hO⟩
    go_wp2_with (first | ((with_reducible refine is_load ?_); refine a_load hO ?_; go_frame) | ((with_reducible refine is_load ?_); refine a_loadA hO ?_; go_frame) | ((with_reducible refine is_store ?_); refine a_store hO ?_; clear hO; intro w hO; go_frame) | ((with_reducible refine is_store ?_); refine a_storeA hO ?_; clear hO; intro w hO; go_frame) | ((with_reducible refine is_alloc ?_); refine a_alloc hO ?_; clear hO; intro w b_ hO; go_frame) | ((with_reducible refine is_box ?_); refine a_box hO ?_; clear hO; intro w b_ hO; go_frame) | ((with_reducible refine is_lit ?_); refine a_lit0 hO ?_; clear hO; intro w b_ hl_ hO; go_frame) | ((with_reducible refine is_lit ?_); refine a_lit1 hO ?_; clear hO; intro w b_ hl_ hO; go_frame) | ((with_reducible refine is_lit ?_); refine a_lit2 hO ?_; clear hO; intro w b_ hl_ hO; go_frame) | ((with_reducible refine is_lit ?_); refine a_lit3 hO ?_; clear hO; intro w b_ hl_ hO; go_frame))
    go_at_call 59
    refine (listW' (w0 := w0) (C := C) (ss := q.tags) (least := 0) (most := 16) (sV q) asks60 ⟨Aa, cc, K, hr, hO⟩ hc (fcell_one rfl) hF Ht.out (by decide) (by decide) HL.out.tags HL.out.tags1 (by have := sV_len HL.out; omega)).mono ?_
    clear hO hr
    rintro e w ⟨rfl, Aa, cc, K, hr, hO⟩
    go_wp2_with (first | ((with_reducible refine is_load ?_); refine a_load hO ?_; go_frame) | ((with_reducible refine is_load ?_); refine a_loadA hO ?_; go_frame) | ((with_reducible refine is_store ?_); refine a_store hO ?_; clear hO; intro w hO; go_frame) | ((with_reducible refine is_store ?_); refine a_storeA hO ?_; clear hO; intro w hO; go_frame) | ((with_reducible refine is_alloc ?_); refine a_alloc hO ?_; clear hO; intro w b_ hO; go_frame) | ((with_reducible refine is_box ?_); refine a_box hO ?_; clear hO; intro w b_ hO; go_frame) | ((with_reducible refine is_lit ?_); refine a_lit0 hO ?_; clear hO; intro w b_ hl_ hO; go_frame) | ((with_reducible refine is_lit ?_); refine a_lit1 hO ?_; clear hO; intro w b_ hl_ hO; go_frame) | ((with_reducible refine is_lit ?_); refine a_lit2 hO ?_; clear hO; intro w b_ hl_ hO; go_frame) | ((with_reducible refine is_lit ?_); refine a_lit3 hO ?_; clear hO; intro w b_ hl_ hO; go_frame))
    go_at_call 61
    refine (lifeW' (w0 := w0) (C := C) (life := q.life) (sT q) ⟨Aa, cc, K, hr, hO⟩ hc HL.out.life (by have := sT_len HL.out; omega)).mono ?_
    clear hO hr
    rintro e w ⟨rfl, Aa, cc, K, hr, hO⟩
    go_wp2_with (first | ((with_reducible refine is_load ?_); refine a_load hO ?_; go_frame) | ((with_reducible refine is_load ?_); refine a_loadA hO ?_; go_frame) | ((with_reducible refine is_store ?_); refine a_store hO ?_; clear hO; intro w hO; go_frame) | ((with_reducible refine is_store ?_); refine a_storeA hO ?_; clear hO; intro w hO; go_frame) | ((with_reducible refine is_alloc ?_); refine a_alloc hO ?_; clear hO; intro w b_ hO; go_frame) | ((with_reducible refine is_box ?_); refine a_box hO ?_; clear hO; intro w b_ hO; go_frame) | ((with_reducible refine is_lit ?_); refine a_lit0 hO ?_; clear hO; intro w b_ hl_ hO; go_frame) | ((with_reducible refine is_lit ?_); refine a_lit1 hO ?_; clear hO; intro w b_ hl_ hO; go_frame) | ((with_reducible refine is_lit ?_); refine a_lit2 hO ?_; clear hO; intro w b_ hl_ hO; go_frame) | ((with_reducible refine is_lit ?_); refine a_lit3 hO ?_; clear hO; intro w b_ hl_ hO; go_frame))
    go_at_call 62
    refine (numberW' (w0 := w0) (C := C) q.version (sL q) ⟨Aa, cc, K, hr, hO⟩ hc (fcell_one rfl) HL.out.version (by have := sL_len HL.out; omega)).mono ?_
    clear hO hr
    rintro e w ⟨rfl, Aa, cc, K, hr, hO⟩
    go_wp2_with (first | ((with_reducible refine is_load ?_); refine a_load hO ?_; go_frame) | ((with_reducible refine is_load ?_); refine a_loadA hO ?_; go_frame) | ((with_reducible refine is_store ?_); refine a_store hO ?_; clear hO; intro w hO; go_frame) | ((with_reducible refine is_store ?_); refine a_storeA hO ?_; clear hO; intro w hO; go_frame) | ((with_reducible refine is_alloc ?_); refine a_alloc hO ?_; clear hO; intro w b_ hO; go_frame) | ((with_reducible refine is_box ?_); refine a_box hO ?_; clear hO; intro w b_ hO; go_frame) | ((with_reducible refine is_lit ?_); refine a_lit0 hO ?_; clear hO; intro w b_ hl_ hO; go_frame) | ((with_reducible refine is_lit ?_); refine a_lit1 hO ?_; clear hO; intro w b_ hl_ hO; go_frame) | ((with_reducible refine is_lit ?_); refine a_lit2 hO ?_; clear hO; intro w b_ hl_ hO; go_frame) | ((with_reducible refine is_lit ?_); refine a_lit3 hO ?_; clear hO; intro w b_ hl_ hO; go_frame))
    go_end0
    refine ⟨rfl, ?_⟩
    rw [HF.out]
    exact ⟨Aa, cc, K, hr, hO⟩
  · have HF : Hid (partsWF q = sK q) := Lib.hid (by simp [partsWF, ho])
    rw [ho] at hc HQ
    clear ho
    go_enter Try.func47, Try.ntmps47
    go_wp2_with (first | ((with_reducible refine is_load ?_); refine a_load hO ?_; go_frame) | ((with_reducible refine is_load ?_); refine a_loadA hO ?_; go_frame) | ((with_reducible refine is_store ?_); refine a_store hO ?_; clear hO; intro w hO; go_frame) | ((with_reducible refine is_store ?_); refine a_storeA hO ?_; clear hO; intro w hO; go_frame) | ((with_reducible refine is_alloc ?_); refine a_alloc hO ?_; clear hO; intro w b_ hO; go_frame) | ((with_reducible refine is_box ?_); refine a_box hO ?_; clear hO; intro w b_ hO; go_frame) | ((with_reducible refine is_lit ?_); refine a_lit0 hO ?_; clear hO; intro w b_ hl_ hO; go_frame) | ((with_reducible refine is_lit ?_); refine a_lit1 hO ?_; clear hO; intro w b_ hl_ hO; go_frame) | ((with_reducible refine is_lit ?_); refine a_lit2 hO ?_; clear hO; intro w b_ hl_ hO; go_frame) | ((with_reducible refine is_lit ?_); refine a_lit3 hO ?_; clear hO; intro w b_ hl_ hO; go_frame))
    go_at_call 56
    refine (partW' (w0 := w0) (C := C) (s := q.key) ([], false) asks57 ⟨Aa, cc, K, hr, hO⟩ hc (fcell_one rfl) HL.out.key (by simp)).mono ?_
    clear hO hr
    rintro e w ⟨rfl, Aa, cc, K, hr, hO⟩
    go_wp2_with (first | ((with_reducible refine is_load ?_); refine a_load hO ?_; go_frame) | ((with_reducible refine is_load ?_); refine a_loadA hO ?_; go_frame) | ((with_reducible refine is_store ?_); refine a_store hO ?_; clear hO; intro w hO; go_frame) | ((with_reducible refine is_store ?_); refine a_storeA hO ?_; clear hO; intro w hO; go_frame) | ((with_reducible refine is_alloc ?_); refine a_alloc hO ?_; clear hO; intro w b_ hO; go_frame) | ((with_reducible refine is_box ?_); refine a_box hO ?_; clear hO; intro w b_ hO; go_frame) | ((with_reducible refine is_lit ?_); refine a_lit0 hO ?_; clear hO; intro w b_ hl_ hO; go_frame) | ((with_reducible refine is_lit ?_); refine a_lit1 hO ?_; clear hO; intro w b_ hl_ hO; go_frame) | ((with_reducible refine is_lit ?_); refine a_lit2 hO ?_; clear hO; intro w b_ hl_ hO; go_frame) | ((with_reducible refine is_lit ?_); refine a_lit3 hO ?_; clear hO; intro w b_ hl_ hO; go_frame))
    go_end0
    refine ⟨rfl, ?_⟩
    rw [HF.out]
    exact ⟨Aa, cc, K, hr, hO⟩
  · have HF : Hid (partsWF q = listWF keyOk 1 16 q.keys ([], false)) := Lib.hid (by simp [partsWF, ho])
    rw [ho] at hc HQ
    clear ho
    go_enter Try.func47, Try.ntmps47
    go_wp2_with (first | ((with_reducible refine is_load ?_); refine a_load hO ?_; go_frame) | ((with_reducible refine is_load ?_); refine a_loadA hO ?_; go_frame) | ((with_reducible refine is_store ?_); refine a_store hO ?_; clear hO; intro w hO; go_frame) | ((with_reducible refine is_store ?_); refine a_storeA hO ?_; clear hO; intro w hO; go_frame) | ((with_reducible refine is_alloc ?_); refine a_alloc hO ?_; clear hO; intro w b_ hO; go_frame) | ((with_reducible refine is_box ?_); refine a_box hO ?_; clear hO; intro w b_ hO; go_frame) | ((with_reducible refine is_lit ?_); refine a_lit0 hO ?_; clear hO; intro w b_ hl_ hO; go_frame) | ((with_reducible refine is_lit ?_); refine a_lit1 hO ?_; clear hO; intro w b_ hl_ hO; go_frame) | ((with_reducible refine is_lit ?_); refine a_lit2 hO ?_; clear hO; intro w b_ hl_ hO; go_frame) | ((with_reducible refine is_lit ?_); refine a_lit3 hO ?_; clear hO; intro w b_ hl_ hO; go_frame))
    go_at_call 59
    refine (listW' (w0 := w0) (C := C) (ss := q.keys) (least := 1) (most := 16) ([], false) asks57 ⟨Aa, cc, K, hr, hO⟩ hc (fcell_one rfl) hF Hk.out (by decide) (by decide) HL.out.keys HL.out.keys1 (by simp)).mono ?_
    clear hO hr
    rintro e w ⟨rfl, Aa, cc, K, hr, hO⟩
    go_wp2_with (first | ((with_reducible refine is_load ?_); refine a_load hO ?_; go_frame) | ((with_reducible refine is_load ?_); refine a_loadA hO ?_; go_frame) | ((with_reducible refine is_store ?_); refine a_store hO ?_; clear hO; intro w hO; go_frame) | ((with_reducible refine is_store ?_); refine a_storeA hO ?_; clear hO; intro w hO; go_frame) | ((with_reducible refine is_alloc ?_); refine a_alloc hO ?_; clear hO; intro w b_ hO; go_frame) | ((with_reducible refine is_box ?_); refine a_box hO ?_; clear hO; intro w b_ hO; go_frame) | ((with_reducible refine is_lit ?_); refine a_lit0 hO ?_; clear hO; intro w b_ hl_ hO; go_frame) | ((with_reducible refine is_lit ?_); refine a_lit1 hO ?_; clear hO; intro w b_ hl_ hO; go_frame) | ((with_reducible refine is_lit ?_); refine a_lit2 hO ?_; clear hO; intro w b_ hl_ hO; go_frame) | ((with_reducible refine is_lit ?_); refine a_lit3 hO ?_; clear hO; intro w b_ hl_ hO; go_frame))
    go_end0
    refine ⟨rfl, ?_⟩
    rw [HF.out]
    exact ⟨Aa, cc, K, hr, hO⟩
  · have HF : Hid (partsWF q = wL q.life (sK q)) := Lib.hid (by simp [partsWF, ho])
    rw [ho] at hc HQ
    clear ho
    go_enter Try.func47, Try.ntmps47
    go_wp2_with (first | ((with_reducible refine is_load ?_); refine a_load hO ?_; go_frame) | ((with_reducible refine is_load ?_); refine a_loadA hO ?_; go_frame) | ((with_reducible refine is_store ?_); refine a_store hO ?_; clear hO; intro w hO; go_frame) | ((with_reducible refine is_store ?_); refine a_storeA hO ?_; clear hO; intro w hO; go_frame) | ((with_reducible refine is_alloc ?_); refine a_alloc hO ?_; clear hO; intro w b_ hO; go_frame) | ((with_reducible refine is_box ?_); refine a_box hO ?_; clear hO; intro w b_ hO; go_frame) | ((with_reducible refine is_lit ?_); refine a_lit0 hO ?_; clear hO; intro w b_ hl_ hO; go_frame) | ((with_reducible refine is_lit ?_); refine a_lit1 hO ?_; clear hO; intro w b_ hl_ hO; go_frame) | ((with_reducible refine is_lit ?_); refine a_lit2 hO ?_; clear hO; intro w b_ hl_ hO; go_frame) | ((with_reducible refine is_lit ?_); refine a_lit3 hO ?_; clear hO; intro w b_ hl_ hO; go_frame))
    go_at_call 56
    refine (partW' (w0 := w0) (C := C) (s := q.key) ([], false) asks57 ⟨Aa, cc, K, hr, hO⟩ hc (fcell_one rfl) HL.out.key (by simp)).mono ?_
    clear hO hr
    rintro e w ⟨rfl, Aa, cc, K, hr, hO⟩
    go_wp2_with (first | ((with_reducible refine is_load ?_); refine a_load hO ?_; go_frame) | ((with_reducible refine is_load ?_); refine a_loadA hO ?_; go_frame) | ((with_reducible refine is_store ?_); refine a_store hO ?_; clear hO; intro w hO; go_frame) | ((with_reducible refine is_store ?_); refine a_storeA hO ?_; clear hO; intro w hO; go_frame) | ((with_reducible refine is_alloc ?_); refine a_alloc hO ?_; clear hO; intro w b_ hO; go_frame) | ((with_reducible refine is_box ?_); refine a_box hO ?_; clear hO; intro w b_ hO; go_frame) | ((with_reducible refine is_lit ?_); refine a_lit0 hO ?_; clear hO; intro w b_ hl_ hO; go_frame) | ((with_reducible refine is_lit ?_); refine a_lit1 hO ?_; clear hO; intro w b_ hl_ hO; go_frame) | ((with_reducible refine is_lit ?_); refine a_lit2 hO ?_; clear hO; intro w b_ hl_ hO; go_frame) | ((with_reducible refine is_lit ?_); refine a_lit3 hO ?_; clear hO; intro w b_ hl_ hO; go_frame))
    go_at_call 61
    refine (lifeW' (w0 := w0) (C := C) (life := q.life) (sK q) ⟨Aa, cc, K, hr, hO⟩ hc HL.out.life (by have := sK_len HL.out; omega)).mono ?_
    clear hO hr
    rintro e w ⟨rfl, Aa, cc, K, hr, hO⟩
    go_wp2_with (first | ((with_reducible refine is_load ?_); refine a_load hO ?_; go_frame) | ((with_reducible refine is_load ?_); refine a_loadA hO ?_; go_frame) | ((with_reducible refine is_store ?_); refine a_store hO ?_; clear hO; intro w hO; go_frame) | ((with_reducible refine is_store ?_); refine a_storeA hO ?_; clear hO; intro w hO; go_frame) | ((with_reducible refine is_alloc ?_); refine a_alloc hO ?_; clear hO; intro w b_ hO; go_frame) | ((with_reducible refine is_box ?_); refine a_box hO ?_; clear hO; intro w b_ hO; go_frame) | ((with_reducible refine is_lit ?_); refine a_lit0 hO ?_; clear hO; intro w b_ hl_ hO; go_frame) | ((with_reducible refine is_lit ?_); refine a_lit1 hO ?_; clear hO; intro w b_ hl_ hO; go_frame) | ((with_reducible refine is_lit ?_); refine a_lit2 hO ?_; clear hO; intro w b_ hl_ hO; go_frame) | ((with_reducible refine is_lit ?_); refine a_lit3 hO ?_; clear hO; intro w b_ hl_ hO; go_frame))
    go_end0
    refine ⟨rfl, ?_⟩
    rw [HF.out]
    exact ⟨Aa, cc, K, hr, hO⟩
  · have HF : Hid (partsWF q = sK q) := Lib.hid (by simp [partsWF, ho])
    rw [ho] at hc HQ
    clear ho
    go_enter Try.func47, Try.ntmps47
    go_wp2_with (first | ((with_reducible refine is_load ?_); refine a_load hO ?_; go_frame) | ((with_reducible refine is_load ?_); refine a_loadA hO ?_; go_frame) | ((with_reducible refine is_store ?_); refine a_store hO ?_; clear hO; intro w hO; go_frame) | ((with_reducible refine is_store ?_); refine a_storeA hO ?_; clear hO; intro w hO; go_frame) | ((with_reducible refine is_alloc ?_); refine a_alloc hO ?_; clear hO; intro w b_ hO; go_frame) | ((with_reducible refine is_box ?_); refine a_box hO ?_; clear hO; intro w b_ hO; go_frame) | ((with_reducible refine is_lit ?_); refine a_lit0 hO ?_; clear hO; intro w b_ hl_ hO; go_frame) | ((with_reducible refine is_lit ?_); refine a_lit1 hO ?_; clear hO; intro w b_ hl_ hO; go_frame) | ((with_reducible refine is_lit ?_); refine a_lit2 hO ?_; clear hO; intro w b_ hl_ hO; go_frame) | ((with_reducible refine is_lit ?_); refine a_lit3 hO ?_; clear hO; intro w b_ hl_ hO; go_frame))
    go_at_call 56
    refine (partW' (w0 := w0) (C := C) (s := q.key) ([], false) asks57 ⟨Aa, cc, K, hr, hO⟩ hc (fcell_one rfl) HL.out.key (by simp)).mono ?_
    clear hO hr
    rintro e w ⟨rfl, Aa, cc, K, hr, hO⟩
    go_wp2_with (first | ((with_reducible refine is_load ?_); refine a_load hO ?_; go_frame) | ((with_reducible refine is_load ?_); refine a_loadA hO ?_; go_frame) | ((with_reducible refine is_store ?_); refine a_store hO ?_; clear hO; intro w hO; go_frame) | ((with_reducible refine is_store ?_); refine a_storeA hO ?_; clear hO; intro w hO; go_frame) | ((with_reducible refine is_alloc ?_); refine a_alloc hO ?_; clear hO; intro w b_ hO; go_frame) | ((with_reducible refine is_box ?_); refine a_box hO ?_; clear hO; intro w b_ hO; go_frame) | ((with_reducible refine is_lit ?_); refine a_lit0 hO ?_; clear hO; intro w b_ hl_ hO; go_frame) | ((with_reducible refine is_lit ?_); refine a_lit1 hO ?_; clear hO; intro w b_ hl_ hO; go_frame) | ((with_reducible refine is_lit ?_); refine a_lit2 hO ?_; clear hO; intro w b_ hl_ hO; go_frame) | ((with_reducible refine is_lit ?_); refine a_lit3 hO ?_; clear hO; intro w b_ hl_ hO; go_frame))
    go_end0
    refine ⟨rfl, ?_⟩
    rw [HF.out]
    exact ⟨Aa, cc, K, hr, hO⟩
  · have HF : Hid (partsWF q = wP tagOk q.tag ([], false)) := Lib.hid (by simp [partsWF, ho])
    rw [ho] at hc HQ
    clear ho
    go_enter Try.func47, Try.ntmps47
    go_wp2_with (first | ((with_reducible refine is_load ?_); refine a_load hO ?_; go_frame) | ((with_reducible refine is_load ?_); refine a_loadA hO ?_; go_frame) | ((with_reducible refine is_store ?_); refine a_store hO ?_; clear hO; intro w hO; go_frame) | ((with_reducible refine is_store ?_); refine a_storeA hO ?_; clear hO; intro w hO; go_frame) | ((with_reducible refine is_alloc ?_); refine a_alloc hO ?_; clear hO; intro w b_ hO; go_frame) | ((with_reducible refine is_box ?_); refine a_box hO ?_; clear hO; intro w b_ hO; go_frame) | ((with_reducible refine is_lit ?_); refine a_lit0 hO ?_; clear hO; intro w b_ hl_ hO; go_frame) | ((with_reducible refine is_lit ?_); refine a_lit1 hO ?_; clear hO; intro w b_ hl_ hO; go_frame) | ((with_reducible refine is_lit ?_); refine a_lit2 hO ?_; clear hO; intro w b_ hl_ hO; go_frame) | ((with_reducible refine is_lit ?_); refine a_lit3 hO ?_; clear hO; intro w b_ hl_ hO; go_frame))
    go_at_call 56
    refine (partW' (w0 := w0) (C := C) (s := q.tag) ([], false) asks60 ⟨Aa, cc, K, hr, hO⟩ hc (fcell_one rfl) HL.out.tag (by simp)).mono ?_
    clear hO hr
    rintro e w ⟨rfl, Aa, cc, K, hr, hO⟩
    go_wp2_with (first | ((with_reducible refine is_load ?_); refine a_load hO ?_; go_frame) | ((with_reducible refine is_load ?_); refine a_loadA hO ?_; go_frame) | ((with_reducible refine is_store ?_); refine a_store hO ?_; clear hO; intro w hO; go_frame) | ((with_reducible refine is_store ?_); refine a_storeA hO ?_; clear hO; intro w hO; go_frame) | ((with_reducible refine is_alloc ?_); refine a_alloc hO ?_; clear hO; intro w b_ hO; go_frame) | ((with_reducible refine is_box ?_); refine a_box hO ?_; clear hO; intro w b_ hO; go_frame) | ((with_reducible refine is_lit ?_); refine a_lit0 hO ?_; clear hO; intro w b_ hl_ hO; go_frame) | ((with_reducible refine is_lit ?_); refine a_lit1 hO ?_; clear hO; intro w b_ hl_ hO; go_frame) | ((with_reducible refine is_lit ?_); refine a_lit2 hO ?_; clear hO; intro w b_ hl_ hO; go_frame) | ((with_reducible refine is_lit ?_); refine a_lit3 hO ?_; clear hO; intro w b_ hl_ hO; go_frame))
    go_end0
    refine ⟨rfl, ?_⟩
    rw [HF.out]
    exact ⟨Aa, cc, K, hr, hO⟩
  · have HF : Hid (partsWF q = wP tagOk q.tag ([], false)) := Lib.hid (by simp [partsWF, ho])
    rw [ho] at hc HQ
    clear ho
    go_enter Try.func47, Try.ntmps47
    go_wp2_with (first | ((with_reducible refine is_load ?_); refine a_load hO ?_; go_frame) | ((with_reducible refine is_load ?_); refine a_loadA hO ?_; go_frame) | ((with_reducible refine is_store ?_); refine a_store hO ?_; clear hO; intro w hO; go_frame) | ((with_reducible refine is_store ?_); refine a_storeA hO ?_; clear hO; intro w hO; go_frame) | ((with_reducible refine is_alloc ?_); refine a_alloc hO ?_; clear hO; intro w b_ hO; go_frame) | ((with_reducible refine is_box ?_); refine a_box hO ?_; clear hO; intro w b_ hO; go_frame) | ((with_reducible refine is_lit ?_); refine a_lit0 hO ?_; clear hO; intro w b_ hl_ hO; go_frame) | ((with_reducible refine is_lit ?_); refine a_lit1 hO ?_; clear hO; intro w b_ hl_ hO; go_frame) | ((with_reducible refine is_lit ?_); refine a_lit2 hO ?_; clear hO; intro w b_ hl_ hO; go_frame) | ((with_reducible refine is_lit ?_); refine a_lit3 hO ?_; clear hO; intro w b_ hl_ hO; go_frame))
    go_at_call 56
    refine (partW' (w0 := w0) (C := C) (s := q.tag) ([], false) asks60 ⟨Aa, cc, K, hr, hO⟩ hc (fcell_one rfl) HL.out.tag (by simp)).mono ?_
    clear hO hr
    rintro e w ⟨rfl, Aa, cc, K, hr, hO⟩
    go_wp2_with (first | ((with_reducible refine is_load ?_); refine a_load hO ?_; go_frame) | ((with_reducible refine is_load ?_); refine a_loadA hO ?_; go_frame) | ((with_reducible refine is_store ?_); refine a_store hO ?_; clear hO; intro w hO; go_frame) | ((with_reducible refine is_store ?_); refine a_storeA hO ?_; clear hO; intro w hO; go_frame) | ((with_reducible refine is_alloc ?_); refine a_alloc hO ?_; clear hO; intro w b_ hO; go_frame) | ((with_reducible refine is_box ?_); refine a_box hO ?_; clear hO; intro w b_ hO; go_frame) | ((with_reducible refine is_lit ?_); refine a_lit0 hO ?_; clear hO; intro w b_ hl_ hO; go_frame) | ((with_reducible refine is_lit ?_); refine a_lit1 hO ?_; clear hO; intro w b_ hl_ hO; go_frame) | ((with_reducible refine is_lit ?_); refine a_lit2 hO ?_; clear hO; intro w b_ hl_ hO; go_frame) | ((with_reducible refine is_lit ?_); refine a_lit3 hO ?_; clear hO; intro w b_ hl_ hO; go_frame))
    go_end0
    refine ⟨rfl, ?_⟩
    rw [HF.out]
    exact ⟨Aa, cc, K, hr, hO⟩
  · have HF : Hid (partsWF q = wP pfxOk q.pfx ([], false)) := Lib.hid (by simp [partsWF, ho])
    rw [ho] at hc HQ
    clear ho
    go_enter Try.func47, Try.ntmps47
    go_wp2_with (first | ((with_reducible refine is_load ?_); refine a_load hO ?_; go_frame) | ((with_reducible refine is_load ?_); refine a_loadA hO ?_; go_frame) | ((with_reducible refine is_store ?_); refine a_store hO ?_; clear hO; intro w hO; go_frame) | ((with_reducible refine is_store ?_); refine a_storeA hO ?_; clear hO; intro w hO; go_frame) | ((with_reducible refine is_alloc ?_); refine a_alloc hO ?_; clear hO; intro w b_ hO; go_frame) | ((with_reducible refine is_box ?_); refine a_box hO ?_; clear hO; intro w b_ hO; go_frame) | ((with_reducible refine is_lit ?_); refine a_lit0 hO ?_; clear hO; intro w b_ hl_ hO; go_frame) | ((with_reducible refine is_lit ?_); refine a_lit1 hO ?_; clear hO; intro w b_ hl_ hO; go_frame) | ((with_reducible refine is_lit ?_); refine a_lit2 hO ?_; clear hO; intro w b_ hl_ hO; go_frame) | ((with_reducible refine is_lit ?_); refine a_lit3 hO ?_; clear hO; intro w b_ hl_ hO; go_frame))
    go_at_call 56
    refine (partW' (w0 := w0) (C := C) (s := q.pfx) ([], false) asks41 ⟨Aa, cc, K, hr, hO⟩ hc (fcell_one rfl) HL.out.pfx (by simp)).mono ?_
    clear hO hr
    rintro e w ⟨rfl, Aa, cc, K, hr, hO⟩
    go_wp2_with (first | ((with_reducible refine is_load ?_); refine a_load hO ?_; go_frame) | ((with_reducible refine is_load ?_); refine a_loadA hO ?_; go_frame) | ((with_reducible refine is_store ?_); refine a_store hO ?_; clear hO; intro w hO; go_frame) | ((with_reducible refine is_store ?_); refine a_storeA hO ?_; clear hO; intro w hO; go_frame) | ((with_reducible refine is_alloc ?_); refine a_alloc hO ?_; clear hO; intro w b_ hO; go_frame) | ((with_reducible refine is_box ?_); refine a_box hO ?_; clear hO; intro w b_ hO; go_frame) | ((with_reducible refine is_lit ?_); refine a_lit0 hO ?_; clear hO; intro w b_ hl_ hO; go_frame) | ((with_reducible refine is_lit ?_); refine a_lit1 hO ?_; clear hO; intro w b_ hl_ hO; go_frame) | ((with_reducible refine is_lit ?_); refine a_lit2 hO ?_; clear hO; intro w b_ hl_ hO; go_frame) | ((with_reducible refine is_lit ?_); refine a_lit3 hO ?_; clear hO; intro w b_ hl_ hO; go_frame))
    go_end0
    refine ⟨rfl, ?_⟩
    rw [HF.out]
    exact ⟨Aa, cc, K, hr, hO⟩
  · have HF : Hid (partsWF q = wP keyOk q.child (sK q)) := Lib.hid (by simp [partsWF, ho])
    rw [ho] at hc HQ
    clear ho
    go_enter Try.func47, Try.ntmps47
    go_wp2_with (first | ((with_reducible refine is_load ?_); refine a_load hO ?_; go_frame) | ((with_reducible refine is_load ?_); refine a_loadA hO ?_; go_frame) | ((with_reducible refine is_store ?_); refine a_store hO ?_; clear hO; intro w hO; go_frame) | ((with_reducible refine is_store ?_); refine a_storeA hO ?_; clear hO; intro w hO; go_frame) | ((with_reducible refine is_alloc ?_); refine a_alloc hO ?_; clear hO; intro w b_ hO; go_frame) | ((with_reducible refine is_box ?_); refine a_box hO ?_; clear hO; intro w b_ hO; go_frame) | ((with_reducible refine is_lit ?_); refine a_lit0 hO ?_; clear hO; intro w b_ hl_ hO; go_frame) | ((with_reducible refine is_lit ?_); refine a_lit1 hO ?_; clear hO; intro w b_ hl_ hO; go_frame) | ((with_reducible refine is_lit ?_); refine a_lit2 hO ?_; clear hO; intro w b_ hl_ hO; go_frame) | ((with_reducible refine is_lit ?_); refine a_lit3 hO ?_; clear hO; intro w b_ hl_ hO; go_frame))
    go_at_call 56
    refine (partW' (w0 := w0) (C := C) (s := q.key) ([], false) asks57 ⟨Aa, cc, K, hr, hO⟩ hc (fcell_one rfl) HL.out.key (by simp)).mono ?_
    clear hO hr
    rintro e w ⟨rfl, Aa, cc, K, hr, hO⟩
    go_wp2_with (first | ((with_reducible refine is_load ?_); refine a_load hO ?_; go_frame) | ((with_reducible refine is_load ?_); refine a_loadA hO ?_; go_frame) | ((with_reducible refine is_store ?_); refine a_store hO ?_; clear hO; intro w hO; go_frame) | ((with_reducible refine is_store ?_); refine a_storeA hO ?_; clear hO; intro w hO; go_frame) | ((with_reducible refine is_alloc ?_); refine a_alloc hO ?_; clear hO; intro w b_ hO; go_frame) | ((with_reducible refine is_box ?_); refine a_box hO ?_; clear hO; intro w b_ hO; go_frame) | ((with_reducible refine is_lit ?_); refine a_lit0 hO ?_; clear hO; intro w b_ hl_ hO; go_frame) | ((with_reducible refine is_lit ?_); refine a_lit1 hO ?_; clear hO; intro w b_ hl_ hO; go_frame) | ((with_reducible refine is_lit ?_); refine a_lit2 hO ?_; clear hO; intro w b_ hl_ hO; go_frame) | ((with_reducible refine is_lit ?_); refine a_lit3 hO ?_; clear hO; intro w b_ hl_ hO; go_frame))
    go_at_call 56
    refine (partW' (w0 := w0) (C := C) (s := q.child) (sK q) asks57 ⟨Aa, cc, K, hr, hO⟩ hc (fcell_one rfl) HL.out.child (by have := sK_len HL.out; omega)).mono ?_
    clear hO hr
    rintro e w ⟨rfl, Aa, cc, K, hr, hO⟩
    go_wp2_with (first | ((with_reducible refine is_load ?_); refine a_load hO ?_; go_frame) | ((with_reducible refine is_load ?_); refine a_loadA hO ?_; go_frame) | ((with_reducible refine is_store ?_); refine a_store hO ?_; clear hO; intro w hO; go_frame) | ((with_reducible refine is_store ?_); refine a_storeA hO ?_; clear hO; intro w hO; go_frame) | ((with_reducible refine is_alloc ?_); refine a_alloc hO ?_; clear hO; intro w b_ hO; go_frame) | ((with_reducible refine is_box ?_); refine a_box hO ?_; clear hO; intro w b_ hO; go_frame) | ((with_reducible refine is_lit ?_); refine a_lit0 hO ?_; clear hO; intro w b_ hl_ hO; go_frame) | ((with_reducible refine is_lit ?_); refine a_lit1 hO ?_; clear hO; intro w b_ hl_ hO; go_frame) | ((with_reducible refine is_lit ?_); refine a_lit2 hO ?_; clear hO; intro w b_ hl_ hO; go_frame) | ((with_reducible refine is_lit ?_); refine a_lit3 hO ?_; clear hO; intro w b_ hl_ hO; go_frame))
    go_end0
    refine ⟨rfl, ?_⟩
    rw [HF.out]
    exact ⟨Aa, cc, K, hr, hO⟩
  · have HF : Hid (partsWF q = wP keyOk q.child (sK q)) := Lib.hid (by simp [partsWF, ho])
    rw [ho] at hc HQ
    clear ho
    go_enter Try.func47, Try.ntmps47
    go_wp2_with (first | ((with_reducible refine is_load ?_); refine a_load hO ?_; go_frame) | ((with_reducible refine is_load ?_); refine a_loadA hO ?_; go_frame) | ((with_reducible refine is_store ?_); refine a_store hO ?_; clear hO; intro w hO; go_frame) | ((with_reducible refine is_store ?_); refine a_storeA hO ?_; clear hO; intro w hO; go_frame) | ((with_reducible refine is_alloc ?_); refine a_alloc hO ?_; clear hO; intro w b_ hO; go_frame) | ((with_reducible refine is_box ?_); refine a_box hO ?_; clear hO; intro w b_ hO; go_frame) | ((with_reducible refine is_lit ?_); refine a_lit0 hO ?_; clear hO; intro w b_ hl_ hO; go_frame) | ((with_reducible refine is_lit ?_); refine a_lit1 hO ?_; clear hO; intro w b_ hl_ hO; go_frame) | ((with_reducible refine is_lit ?_); refine a_lit2 hO ?_; clear hO; intro w b_ hl_ hO; go_frame) | ((with_reducible refine is_lit ?_); refine a_lit3 hO ?_; clear hO; intro w b_ hl_ hO; go_frame))
    go_at_call 56
    refine (partW' (w0 := w0) (C := C) (s := q.key) ([], false) asks57 ⟨Aa, cc, K, hr, hO⟩ hc (fcell_one rfl) HL.out.key (by simp)).mono ?_
    clear hO hr
    rintro e w ⟨rfl, Aa, cc, K, hr, hO⟩
    go_wp2_with (first | ((with_reducible refine is_load ?_); refine a_load hO ?_; go_frame) | ((with_reducible refine is_load ?_); refine a_loadA hO ?_; go_frame) | ((with_reducible refine is_store ?_); refine a_store hO ?_; clear hO; intro w hO; go_frame) | ((with_reducible refine is_store ?_); refine a_storeA hO ?_; clear hO; intro w hO; go_frame) | ((with_reducible refine is_alloc ?_); refine a_alloc hO ?_; clear hO; intro w b_ hO; go_frame) | ((with_reducible refine is_box ?_); refine a_box hO ?_; clear hO; intro w b_ hO; go_frame) | ((with_reducible refine is_lit ?_); refine a_lit0 hO ?_; clear hO; intro w b_ hl_ hO; go_frame) | ((with_reducible refine is_lit ?_); refine a_lit1 hO ?_; clear hO; intro w b_ hl_ hO; go_frame) | ((with_reducible refine is_lit ?_); refine a_lit2 hO ?_; clear hO; intro w b_ hl_ hO; go_frame) | ((with_reducible refine is_lit ?_); refine a_lit3 hO ?_; clear hO; intro w b_ hl_ hO; go_frame))
    go_at_call 56
    refine (partW' (w0 := w0) (C := C) (s := q.child) (sK q) asks57 ⟨Aa, cc, K, hr, hO⟩ hc (fcell_one rfl) HL.out.child (by have := sK_len HL.out; omega)).mono ?_
    clear hO hr
    rintro e w ⟨rfl, Aa, cc, K, hr, hO⟩
    go_wp2_with (first | ((with_reducible refine is_load ?_); refine a_load hO ?_; go_frame) | ((with_reducible refine is_load ?_); refine a_loadA hO ?_; go_frame) | ((with_reducible refine is_store ?_); refine a_store hO ?_; clear hO; intro w hO; go_frame) | ((with_reducible refine is_store ?_); refine a_storeA hO ?_; clear hO; intro w hO; go_frame) | ((with_reducible refine is_alloc ?_); refine a_alloc hO ?_; clear hO; intro w b_ hO; go_frame) | ((with_reducible refine is_box ?_); refine a_box hO ?_; clear hO; intro w b_ hO; go_frame) | ((with_reducible refine is_lit ?_); refine a_lit0 hO ?_; clear hO; intro w b_ hl_ hO; go_frame) | ((with_reducible refine is_lit ?_); refine a_lit1 hO ?_; clear hO; intro w b_ hl_ hO; go_frame) | ((with_reducible refine is_lit ?_); refine a_lit2 hO ?_; clear hO; intro w b_ hl_ hO; go_frame) | ((with_reducible refine is_lit ?_); refine a_lit3 hO ?_; clear hO; intro w b_ hl_ hO; go_frame))
    go_end0
    refine ⟨rfl, ?_⟩
    rw [HF.out]
    exact ⟨Aa, cc, K, hr, hO⟩
  · have HF : Hid (partsWF q = sK q) := Lib.hid (by simp [partsWF, ho])
    rw [ho] at hc HQ
    clear ho
    go_enter Try.func47, Try.ntmps47
    go_wp2_with (first | ((with_reducible refine is_load ?_); refine a_load hO ?_; go_frame) | ((with_reducible refine is_load ?_); refine a_loadA hO ?_; go_frame) | ((with_reducible refine is_store ?_); refine a_store hO ?_; clear hO; intro w hO; go_frame) | ((with_reducible refine is_store ?_); refine a_storeA hO ?_; clear hO; intro w hO; go_frame) | ((with_reducible refine is_alloc ?_); refine a_alloc hO ?_; clear hO; intro w b_ hO; go_frame) | ((with_reducible refine is_box ?_); refine a_box hO ?_; clear hO; intro w b_ hO; go_frame) | ((with_reducible refine is_lit ?_); refine a_lit0 hO ?_; clear hO; intro w b_ hl_ hO; go_frame) | ((with_reducible refine is_lit ?_); refine a_lit1 hO ?_; clear hO; intro w b_ hl_ hO; go_frame) | ((with_reducible refine is_lit ?_); refine a_lit2 hO ?_; clear hO; intro w b_ hl_ hO; go_frame) | ((with_reducible refine is_lit ?_); refine a_lit3 hO ?_; clear hO; intro w b_ hl_ hO; go_frame))
    go_at_call 56
    refine (partW' (w0 := w0) (C := C) (s := q.key) ([], false) asks57 ⟨Aa, cc, K, hr, hO⟩ hc (fcell_one rfl) HL.out.key (by simp)).mono ?_
    clear hO hr
    rintro e w ⟨rfl, Aa, cc, K, hr, hO⟩
    go_wp2_with (first | ((with_reducible refine is_load ?_); refine a_load hO ?_; go_frame) | ((with_reducible refine is_load ?_); refine a_loadA hO ?_; go_frame) | ((with_reducible refine is_store ?_); refine a_store hO ?_; clear hO; intro w hO; go_frame) | ((with_reducible refine is_store ?_); refine a_storeA hO ?_; clear hO; intro w hO; go_frame) | ((with_reducible refine is_alloc ?_); refine a_alloc hO ?_; clear hO; intro w b_ hO; go_frame) | ((with_reducible refine is_box ?_); refine a_box hO ?_; clear hO; intro w b_ hO; go_frame) | ((with_reducible refine is_lit ?_); refine a_lit0 hO ?_; clear hO; intro w b_ hl_ hO; go_frame) | ((with_reducible refine is_lit ?_); refine a_lit1 hO ?_; clear hO; intro w b_ hl_ hO; go_frame) | ((with_reducible refine is_lit ?_); refine a_lit2 hO ?_; clear hO; intro w b_ hl_ hO; go_frame) | ((with_reducible refine is_lit ?_); refine a_lit3 hO ?_; clear hO; intro w b_ hl_ hO; go_frame))
    go_end0
    refine ⟨rfl, ?_⟩
    rw [HF.out]
    exact ⟨Aa, cc, K, hr, hO⟩
  · have HF : Hid (partsWF q = ([], false)) := Lib.hid (by simp [partsWF, ho])
    rw [ho] at hc HQ
    clear ho
    go_enter Try.func47, Try.ntmps47
    go_wp2_with (first | ((with_reducible refine is_load ?_); refine a_load hO ?_; go_frame) | ((with_reducible refine is_load ?_); refine a_loadA hO ?_; go_frame) | ((with_reducible refine is_store ?_); refine a_store hO ?_; clear hO; intro w hO; go_frame) | ((with_reducible refine is_store ?_); refine a_storeA hO ?_; clear hO; intro w hO; go_frame) | ((with_reducible refine is_alloc ?_); refine a_alloc hO ?_; clear hO; intro w b_ hO; go_frame) | ((with_reducible refine is_box ?_); refine a_box hO ?_; clear hO; intro w b_ hO; go_frame) | ((with_reducible refine is_lit ?_); refine a_lit0 hO ?_; clear hO; intro w b_ hl_ hO; go_frame) | ((with_reducible refine is_lit ?_); refine a_lit1 hO ?_; clear hO; intro w b_ hl_ hO; go_frame) | ((with_reducible refine is_lit ?_); refine a_lit2 hO ?_; clear hO; intro w b_ hl_ hO; go_frame) | ((with_reducible refine is_lit ?_); refine a_lit3 hO ?_; clear hO; intro w b_ hl_ hO; go_frame))
    go_end0
    refine ⟨rfl, ?_⟩
    rw [HF.out]
    exact ⟨Aa, cc, K, hr, hO⟩
  · have HF : Hid (partsWF q = ([], false)) := Lib.hid (by simp [partsWF, ho])
    rw [ho] at hc HQ
    clear ho
    go_enter Try.func47, Try.ntmps47
    go_wp2_with (first | ((with_reducible refine is_load ?_); refine a_load hO ?_; go_frame) | ((with_reducible refine is_load ?_); refine a_loadA hO ?_; go_frame) | ((with_reducible refine is_store ?_); refine a_store hO ?_; clear hO; intro w hO; go_frame) | ((with_reducible refine is_store ?_); refine a_storeA hO ?_; clear hO; intro w hO; go_frame) | ((with_reducible refine is_alloc ?_); refine a_alloc hO ?_; clear hO; intro w b_ hO; go_frame) | ((with_reducible refine is_box ?_); refine a_box hO ?_; clear hO; intro w b_ hO; go_frame) | ((with_reducible refine is_lit ?_); refine a_lit0 hO ?_; clear hO; intro w b_ hl_ hO; go_frame) | ((with_reducible refine is_lit ?_); refine a_lit1 hO ?_; clear hO; intro w b_ hl_ hO; go_frame) | ((with_reducible refine is_lit ?_); refine a_lit2 hO ?_; clear hO; intro w b_ hl_ hO; go_frame) | ((with_reducible refine is_lit ?_); refine a_lit3 hO ?_; clear hO; intro w b_ hl_ hO; go_frame))
    go_end0
    refine ⟨rfl, ?_⟩
    rw [HF.out]
    exact ⟨Aa, cc, K, hr, hO⟩
end Go.Proofs.Yteghmoijhcdpeaa
