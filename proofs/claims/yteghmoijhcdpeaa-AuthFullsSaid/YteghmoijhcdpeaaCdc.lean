import Derived.Test.YteghmoijhcdpeaaCdb
set_option linter.unusedSimpArgs false
set_option linter.unusedVariables false
set_option maxRecDepth 100000
namespace Go.Proofs.Yteghmoijhcdpeaa
open Go.RowKit

theorem Own.pick2 {w0 w : World} {C C1 C2 : List Chunk} {X1 X2 : Chunk} (h : Own w0 w C) (p1 : Pick C X1 C1) (p2 : Pick C1 X2 C2) : Own w0 w (X1 :: X2 :: C2) := ((h.pick p1).pick (.there p2)).swap
theorem Own.pick3 {w0 w : World} {C C1 C2 C3 : List Chunk} {X1 X2 X3 : Chunk} (h : Own w0 w C) (p1 : Pick C X1 C1) (p2 : Pick C1 X2 C2) (p3 : Pick C2 X3 C3) : Own w0 w (X1 :: X2 :: X3 :: C3) :=
  (((h.pick2 p1 p2).pick (.there (.there p3))).pick (.there (.there .here))).pick (.there (.there .here))

structure Cmd where
  op : Int
  key : ByteArray
  keys : List ByteArray
  value : List UInt8
  tags : List ByteArray
  life : Nat
  version : Nat
  tag : ByteArray
  pfx : ByteArray
  child : ByteArray
/-- The ten cells of a command, out of the memory F. -/
def CmdV (F : Chunk) (cs : Array Value) (q : Cmd) : Prop :=
  ∃ vk vv vt, cs = #[.int .i64 q.op, .string q.key, vk, vv, vt, .int .u64 q.life, .int .u64 q.version, .string q.tag, .string q.pfx, .string q.child] ∧ RdS F vk q.keys ∧ RdB F vv q.value ∧ RdS F vt q.tags
/-- What a command may hold at most. -/
structure Lite (q : Cmd) : Prop where
  key : q.key.size ≤ 300
  keys : q.keys.length ≤ 20
  keys1 : ∀ s ∈ q.keys, s.size ≤ 300
  value : q.value.length ≤ 300
  tags : q.tags.length ≤ 20
  tags1 : ∀ s ∈ q.tags, s.size ≤ 300
  tag : q.tag.size ≤ 300
  pfx : q.pfx.size ≤ 300
  child : q.child.size ≤ 300
  life : q.life < 18446744073709551616
  version : q.version < 18446744073709551616

theorem fcell_one {b T off : Nat} {c : Array Value} {fr : Nat × Nat} {v : Value} (h : c[off]? = some v) : FCell [(b, .cells c T fr)] ⟨b, off, none⟩ v := ⟨c, T, fr, by simp, rfl, h⟩

theorem valueW {w0 w : World} {C C1 CF : List Chunk} {F : Chunk} {x c : Nat} {cs : Array Value} {q : Cmd} {l : List UInt8} {bad : Bool} (hs : WSt w0 x (.pointer (some ⟨c, 0, none⟩)) C l bad w) (hc : Pick C [(c, .cells cs 29 (0, 0))] C1) (hq : CmdV F cs q) (hF : Pick C F CF)
    (hv : q.value.length ≤ 100000) (hl : l.length ≤ 1000000) :
    Calls Try.prog 58 #[.pointer (some ⟨x, 0, none⟩)] w (Did (WSt w0 x (.pointer (some ⟨c, 0, none⟩)) C (l ++ putF 10 q.value.length ++ q.value) (bad || !decide (q.value.length ≤ 65536)))) := by
  obtain ⟨Aa, cc, K, hr, hO⟩ := hs
  obtain ⟨vk, vv, vt, rfl, hk, hvv, ht⟩ := hq
  go_enter Try.func58, Try.ntmps58
  go_wp2_with (first | ((with_reducible refine is_load ?_); refine a_load hO ?_; go_frame) | ((with_reducible refine is_load ?_); refine a_loadA hO ?_; go_frame) | ((with_reducible refine is_store ?_); refine a_store hO ?_; clear hO; intro w hO; go_frame) | ((with_reducible refine is_store ?_); refine a_storeA hO ?_; clear hO; intro w hO; go_frame) | ((with_reducible refine is_alloc ?_); refine a_alloc hO ?_; clear hO; intro w b_ hO; go_frame) | ((with_reducible refine is_box ?_); refine a_box hO ?_; clear hO; intro w b_ hO; go_frame) | ((with_reducible refine is_lit ?_); refine a_lit0 hO ?_; clear hO; intro w b_ hl_ hO; go_frame) | ((with_reducible refine is_lit ?_); refine a_lit1 hO ?_; clear hO; intro w b_ hl_ hO; go_frame) | ((with_reducible refine is_lit ?_); refine a_lit2 hO ?_; clear hO; intro w b_ hl_ hO; go_frame) | ((with_reducible refine is_lit ?_); refine a_lit3 hO ?_; clear hO; intro w b_ hl_ hO; go_frame) | ((with_reducible apply st_bytesToStr hO); rfl; rfl; infer_instance; infer_instance; infer_instance; (simp only [Act.eval, Array.getD_eq_getD_getElem?, List.getElem?_toArray, List.getElem?_cons_succ, List.getElem?_cons_zero, Option.getD_some]; rfl); exact hvv; (focus (repeat (first | exact Pick.here | assumption | apply Pick.there))); go_frame))
  go_at_call 56
  refine (partW asks73 (w0 := w0) (C := [(b_, .cells #[.string ⟨q.value.toArray⟩] 9 (0, 0))] :: C) (l := l) (bad := bad) (s := ⟨q.value.toArray⟩) ⟨Aa, cc, K, hr, hO.pick2 (.there .here) (.there .here)⟩ .here (fcell_one rfl) (by simpa [ByteArray.size] using hv) hl).mono ?_
  rintro e w ⟨rfl, A2, c2, K2, hr2, hO⟩
  go_wp2_with (first | ((with_reducible refine is_load ?_); refine a_load hO ?_; go_frame) | ((with_reducible refine is_load ?_); refine a_loadA hO ?_; go_frame) | ((with_reducible refine is_store ?_); refine a_store hO ?_; clear hO; intro w hO; go_frame) | ((with_reducible refine is_store ?_); refine a_storeA hO ?_; clear hO; intro w hO; go_frame) | ((with_reducible refine is_alloc ?_); refine a_alloc hO ?_; clear hO; intro w b_ hO; go_frame) | ((with_reducible refine is_box ?_); refine a_box hO ?_; clear hO; intro w b_ hO; go_frame) | ((with_reducible refine is_lit ?_); refine a_lit0 hO ?_; clear hO; intro w b_ hl_ hO; go_frame) | ((with_reducible refine is_lit ?_); refine a_lit1 hO ?_; clear hO; intro w b_ hl_ hO; go_frame) | ((with_reducible refine is_lit ?_); refine a_lit2 hO ?_; clear hO; intro w b_ hl_ hO; go_frame) | ((with_reducible refine is_lit ?_); refine a_lit3 hO ?_; clear hO; intro w b_ hl_ hO; go_frame))
  go_end0
  exact ⟨rfl, A2, c2, K2, by simpa [ByteArray.size] using hr2, by simpa [valOk, ByteArray.size] using hO.dropAt (.there (.there .here))⟩

theorem lifeW {w0 w : World} {C C1 : List Chunk} {x c : Nat} {cs : Array Value} {v0 v1 v2 v3 v4 v6 v7 v8 v9 : Value} {life : Nat} {l : List UInt8} {bad : Bool} (hs : WSt w0 x (.pointer (some ⟨c, 0, none⟩)) C l bad w)
    (hc : Pick C [(c, .cells #[v0, v1, v2, v3, v4, .int .u64 (life : Int), v6, v7, v8, v9] 29 (0, 0))] C1) (hlf : life < 18446744073709551616) (hl : l.length ≤ 1000000) :
    Calls Try.prog 61 #[.pointer (some ⟨x, 0, none⟩)] w (Did (WSt w0 x (.pointer (some ⟨c, 0, none⟩)) C (l ++ putF 10 life) (bad || life == 0))) := by
  obtain ⟨Aa, cc, K, hr, hO⟩ := hs
  have Hlf := Lib.hid hlf
  clear hlf
  have e0 : ((life : Int) == 0) = (life == 0) := by rw [Bool.eq_iff_iff]; simp
  have E0 := Lib.hid e0
  clear e0
  go_enter Try.func61, Try.ntmps61
  go_wp2_with (first | ((with_reducible refine is_load ?_); refine a_load hO ?_; go_frame) | ((with_reducible refine is_load ?_); refine a_loadA hO ?_; go_frame) | ((with_reducible refine is_store ?_); refine a_store hO ?_; clear hO; intro w hO; go_frame) | ((with_reducible refine is_store ?_); refine a_storeA hO ?_; clear hO; intro w hO; go_frame) | ((with_reducible refine is_alloc ?_); refine a_alloc hO ?_; clear hO; intro w b_ hO; go_frame) | ((with_reducible refine is_box ?_); refine a_box hO ?_; clear hO; intro w b_ hO; go_frame) | ((with_reducible refine is_lit ?_); refine a_lit0 hO ?_; clear hO; intro w b_ hl_ hO; go_frame) | ((with_reducible refine is_lit ?_); refine a_lit1 hO ?_; clear hO; intro w b_ hl_ hO; go_frame) | ((with_reducible refine is_lit ?_); refine a_lit2 hO ?_; clear hO; intro w b_ hl_ hO; go_frame) | ((with_reducible refine is_lit ?_); refine a_lit3 hO ?_; clear hO; intro w b_ hl_ hO; go_frame))
  go_at_call 62
  refine (numberW (w0 := w0) (C := [(b_, .cells #[.int .u64 (life : Int)] 23 (0, 0))] :: C) (l := l) (bad := bad) life ⟨Aa, cc, K, hr, hO.pick2 (.there .here) (.there .here)⟩ .here (fcell_one rfl) Hlf.out hl).mono ?_
  rintro e w ⟨rfl, A2, c2, K2, hr2, hO⟩
  go_wp2_with (first | ((with_reducible refine is_load ?_); refine a_load hO ?_; go_frame) | ((with_reducible refine is_load ?_); refine a_loadA hO ?_; go_frame) | ((with_reducible refine is_store ?_); refine a_store hO ?_; clear hO; intro w hO; go_frame) | ((with_reducible refine is_store ?_); refine a_storeA hO ?_; clear hO; intro w hO; go_frame) | ((with_reducible refine is_alloc ?_); refine a_alloc hO ?_; clear hO; intro w b_ hO; go_frame) | ((with_reducible refine is_box ?_); refine a_box hO ?_; clear hO; intro w b_ hO; go_frame) | ((with_reducible refine is_lit ?_); refine a_lit0 hO ?_; clear hO; intro w b_ hl_ hO; go_frame) | ((with_reducible refine is_lit ?_); refine a_lit1 hO ?_; clear hO; intro w b_ hl_ hO; go_frame) | ((with_reducible refine is_lit ?_); refine a_lit2 hO ?_; clear hO; intro w b_ hl_ hO; go_frame) | ((with_reducible refine is_lit ?_); refine a_lit3 hO ?_; clear hO; intro w b_ hl_ hO; go_frame))
  have f1 := hO.cells .here
  have f2 := hO.cells (.there (.there .here))
  have f3 := hO.cells (.there (.there (.there hc)))
  have g3 := hO.free (.there (.there (.there hc)))
  go_region
  all_goals
    obtain ⟨D, r1, r2⟩ := hc.repl [(c, .cells #[v0, v1, v2, v3, v4, .int .u64 (life : Int), v6, v7, v8, v9] 29 (0, 0))]
    have hO := (hO.setCell (off := 5) (v := .int .u64 (life : Int)) (.there (.there (.there r1)))).drew
    have hO := hO.perm (C' := [(x, .cells #[.pointer (some ⟨c, 0, none⟩), .pointer none, .slice A2 (l ++ putF 10 life).length c2, .bool bad] 96 (0, 0))] :: K2 :: [(b_, .cells #[.int .u64 (life : Int)] 23 (0, 0))] :: C) (by
      simp only [List.flatten_cons]
      exact (((r2.perm.trans hc.perm.symm).append_left _).append_left _).append_left _)
    obtain ⟨w2, hw2⟩ : ∃ w2, w2 = (w.setCell ⟨c, 5, none⟩ (.int .u64 (life : Int))).drew := ⟨_, rfl⟩
    rw [← hw2] at hO ⊢
    clear hw2 f1 f2 f3 g3
    cases bad
    · go_wp2_with (first | ((with_reducible refine is_load ?_); refine a_load hO ?_; go_frame) | ((with_reducible refine is_load ?_); refine a_loadA hO ?_; go_frame) | ((with_reducible refine is_store ?_); refine a_store hO ?_; clear hO; intro w hO; go_frame) | ((with_reducible refine is_store ?_); refine a_storeA hO ?_; clear hO; intro w hO; go_frame) | ((with_reducible refine is_alloc ?_); refine a_alloc hO ?_; clear hO; intro w b_ hO; go_frame) | ((with_reducible refine is_box ?_); refine a_box hO ?_; clear hO; intro w b_ hO; go_frame) | ((with_reducible refine is_lit ?_); refine a_lit0 hO ?_; clear hO; intro w b_ hl_ hO; go_frame) | ((with_reducible refine is_lit ?_); refine a_lit1 hO ?_; clear hO; intro w b_ hl_ hO; go_frame) | ((with_reducible refine is_lit ?_); refine a_lit2 hO ?_; clear hO; intro w b_ hl_ hO; go_frame) | ((with_reducible refine is_lit ?_); refine a_lit3 hO ?_; clear hO; intro w b_ hl_ hO; go_frame))
      go_end0
      exact ⟨rfl, A2, c2, K2, hr2, by simpa [E0.out] using hO.dropAt (.there (.there .here))⟩
    · go_wp2_with (first | ((with_reducible refine is_load ?_); refine a_load hO ?_; go_frame) | ((with_reducible refine is_load ?_); refine a_loadA hO ?_; go_frame) | ((with_reducible refine is_store ?_); refine a_store hO ?_; clear hO; intro w hO; go_frame) | ((with_reducible refine is_store ?_); refine a_storeA hO ?_; clear hO; intro w hO; go_frame) | ((with_reducible refine is_alloc ?_); refine a_alloc hO ?_; clear hO; intro w b_ hO; go_frame) | ((with_reducible refine is_box ?_); refine a_box hO ?_; clear hO; intro w b_ hO; go_frame) | ((with_reducible refine is_lit ?_); refine a_lit0 hO ?_; clear hO; intro w b_ hl_ hO; go_frame) | ((with_reducible refine is_lit ?_); refine a_lit1 hO ?_; clear hO; intro w b_ hl_ hO; go_frame) | ((with_reducible refine is_lit ?_); refine a_lit2 hO ?_; clear hO; intro w b_ hl_ hO; go_frame) | ((with_reducible refine is_lit ?_); refine a_lit3 hO ?_; clear hO; intro w b_ hl_ hO; go_frame))
      go_end0
      exact ⟨rfl, A2, c2, K2, hr2, by simpa using hO.dropAt (.there (.there .here))⟩

theorem RdS.at_ {X : Chunk} {A : Option Addr} {n c : Nat} {ss : List ByteArray} {k : Nat} (h : RdS X (.slice A n c) ss) (hk : k < ss.length) :
    ∃ b off, A = some ⟨b, off, none⟩ ∧ FCell X ⟨b, off + k, none⟩ (.string (ss.getD k ByteArray.empty)) := by
  obtain ⟨A', c', hv, _, _, hf⟩ := h
  injection hv with h1 h2 h3
  subst h1
  obtain ⟨b, off, hA, hc⟩ := hf (by omega)
  exact ⟨b, off, hA, hc k _ (by simp [strs, List.getD, List.getElem?_eq_getElem hk])⟩

def listF (A : ByteArray → Bool) : List ByteArray → List UInt8 × Bool → List UInt8 × Bool
  | [], r => r
  | s :: ss, r => listF A ss (r.1 ++ putF 10 s.size ++ s.data.toList, r.2 || !A s)
theorem listF_snoc (A : ByteArray → Bool) : ∀ (ss : List ByteArray) (s : ByteArray) (r : List UInt8 × Bool), listF A (ss ++ [s]) r = ((listF A ss r).1 ++ putF 10 s.size ++ s.data.toList, (listF A ss r).2 || !A s)
  | [], s, r => rfl
  | t :: ss, s, r => by simp only [List.cons_append, listF]; exact listF_snoc A ss s _
def listWF (A : ByteArray → Bool) (least most : Nat) (ss : List ByteArray) (r : List UInt8 × Bool) : List UInt8 × Bool :=
  if ss.length < least ∨ most < ss.length then (r.1 ++ putF 10 ss.length, true) else listF A ss (r.1 ++ putF 10 ss.length, r.2)

set_option maxHeartbeats 1000000 in
theorem listW {w0 w : World} {C CY CF : List Chunk} {Y F : Chunk} {x g : Nat} {A : ByteArray → Bool} {cv vk : Value} {l : List UInt8} {bad : Bool} {p : Addr} {ss : List ByteArray} {least most : Nat} (hg : Asks g A) (hs : WSt w0 x cv C l bad w) (hY : Pick C Y CY) (hp : FCell Y p vk)
    (hF : Pick C F CF) (hk : RdS F vk ss) (hlm : least ≤ 16) (hmm : most ≤ 16) (hn : ss.length ≤ 20) (hsz : ∀ s ∈ ss, s.size ≤ 300) (hl : l.length ≤ 900000) :
    Calls Try.prog 59 #[.pointer (some ⟨x, 0, none⟩), .pointer (some p), .int .i64 (least : Int), .int .i64 (most : Int), .func (.func g) #[] #[]] w
      (Did (WSt w0 x cv C (listWF A least most ss (l, bad)).1 (listWF A least most ss (l, bad)).2)) := by
  obtain ⟨Aa, cc, K, hr, hO⟩ := hs
  obtain ⟨Ak, ck, rfl, hck, HK⟩ := hk.split
  have Hg := Lib.hid hg
  have Hsz := Lib.hid hsz
  clear hg hsz hk
  have hpf := putF_len 10 ss.length
  go_enter Try.func59, Try.ntmps59
  go_wp2_with (first | ((with_reducible refine is_load ?_); refine a_load hO ?_; go_frame) | ((with_reducible refine is_load ?_); refine a_loadA hO ?_; go_frame) | ((with_reducible refine is_store ?_); refine a_store hO ?_; clear hO; intro w hO; go_frame) | ((with_reducible refine is_store ?_); refine a_storeA hO ?_; clear hO; intro w hO; go_frame) | ((with_reducible refine is_alloc ?_); refine a_alloc hO ?_; clear hO; intro w b_ hO; go_frame) | ((with_reducible refine is_box ?_); refine a_box hO ?_; clear hO; intro w b_ hO; go_frame) | ((with_reducible refine is_lit ?_); refine a_lit0 hO ?_; clear hO; intro w b_ hl_ hO; go_frame) | ((with_reducible refine is_lit ?_); refine a_lit1 hO ?_; clear hO; intro w b_ hl_ hO; go_frame) | ((with_reducible refine is_lit ?_); refine a_lit2 hO ?_; clear hO; intro w b_ hl_ hO; go_frame) | ((with_reducible refine is_lit ?_); refine a_lit3 hO ?_; clear hO; intro w b_ hl_ hO; go_frame) | ((with_reducible apply st_loadF hO); rfl; rfl; rfl; infer_instance; assumption; (focus (repeat (first | exact Pick.here | assumption | apply Pick.there))); go_frame))
  go_at_call 62
  refine (numberW (w0 := w0) (C := [(b_, .cells #[.int .u64 (ss.length : Int)] 23 (0, 0))] :: C) (l := l) (bad := bad) ss.length ⟨Aa, cc, K, hr, hO.pick2 (.there .here) (.there .here)⟩ .here (fcell_one rfl) (by omega) (by omega)).mono ?_
  rintro e w ⟨rfl, A2, c2, K2, hr2, hO⟩
  by_cases h1 : ss.length < least ∨ most < ss.length
  · have HW : Hid (listWF A least most ss (l, bad) = (l ++ putF 10 ss.length, true)) := by
      show listWF A least most ss (l, bad) = _
      unfold listWF
      rw [if_pos h1]
    rcases (by omega : ss.length < least ∨ (¬ ss.length < least ∧ most < ss.length)) with h2 | ⟨h2, h3⟩
    · go_wp2_with (first | ((with_reducible refine is_load ?_); refine a_load hO ?_; go_frame) | ((with_reducible refine is_load ?_); refine a_loadA hO ?_; go_frame) | ((with_reducible refine is_store ?_); refine a_store hO ?_; clear hO; intro w hO; go_frame) | ((with_reducible refine is_store ?_); refine a_storeA hO ?_; clear hO; intro w hO; go_frame) | ((with_reducible refine is_alloc ?_); refine a_alloc hO ?_; clear hO; intro w b_ hO; go_frame) | ((with_reducible refine is_box ?_); refine a_box hO ?_; clear hO; intro w b_ hO; go_frame) | ((with_reducible refine is_lit ?_); refine a_lit0 hO ?_; clear hO; intro w b_ hl_ hO; go_frame) | ((with_reducible refine is_lit ?_); refine a_lit1 hO ?_; clear hO; intro w b_ hl_ hO; go_frame) | ((with_reducible refine is_lit ?_); refine a_lit2 hO ?_; clear hO; intro w b_ hl_ hO; go_frame) | ((with_reducible refine is_lit ?_); refine a_lit3 hO ?_; clear hO; intro w b_ hl_ hO; go_frame) | ((with_reducible apply st_loadF hO); rfl; rfl; rfl; infer_instance; assumption; (focus (repeat (first | exact Pick.here | assumption | apply Pick.there))); go_frame))
      refine bodyPost_ret (results_none rfl _ _ _) rfl ?_
      refine ⟨rfl, ?_⟩
      rw [HW.out]
      exact ⟨A2, c2, K2, hr2, hO.dropAt (.there (.there .here))⟩
    · go_wp2_with (first | ((with_reducible refine is_load ?_); refine a_load hO ?_; go_frame) | ((with_reducible refine is_load ?_); refine a_loadA hO ?_; go_frame) | ((with_reducible refine is_store ?_); refine a_store hO ?_; clear hO; intro w hO; go_frame) | ((with_reducible refine is_store ?_); refine a_storeA hO ?_; clear hO; intro w hO; go_frame) | ((with_reducible refine is_alloc ?_); refine a_alloc hO ?_; clear hO; intro w b_ hO; go_frame) | ((with_reducible refine is_box ?_); refine a_box hO ?_; clear hO; intro w b_ hO; go_frame) | ((with_reducible refine is_lit ?_); refine a_lit0 hO ?_; clear hO; intro w b_ hl_ hO; go_frame) | ((with_reducible refine is_lit ?_); refine a_lit1 hO ?_; clear hO; intro w b_ hl_ hO; go_frame) | ((with_reducible refine is_lit ?_); refine a_lit2 hO ?_; clear hO; intro w b_ hl_ hO; go_frame) | ((with_reducible refine is_lit ?_); refine a_lit3 hO ?_; clear hO; intro w b_ hl_ hO; go_frame) | ((with_reducible apply st_loadF hO); rfl; rfl; rfl; infer_instance; assumption; (focus (repeat (first | exact Pick.here | assumption | apply Pick.there))); go_frame))
      refine bodyPost_ret (results_none rfl _ _ _) rfl ?_
      refine ⟨rfl, ?_⟩
      rw [HW.out]
      exact ⟨A2, c2, K2, hr2, hO.dropAt (.there (.there .here))⟩
  · have HW : Hid (listWF A least most ss (l, bad) = listF A ss (l ++ putF 10 ss.length, bad)) := by
      show listWF A least most ss (l, bad) = _
      unfold listWF
      rw [if_neg h1]
    have h2 : ¬ ss.length < least := by omega
    have h3 : ¬ most < ss.length := by omega
    clear h1
    have hlen2 : (l ++ putF 10 ss.length).length ≤ 900010 := by simp; omega
    go_wp2_with (first | ((with_reducible refine is_load ?_); refine a_load hO ?_; go_frame) | ((with_reducible refine is_load ?_); refine a_loadA hO ?_; go_frame) | ((with_reducible refine is_store ?_); refine a_store hO ?_; clear hO; intro w hO; go_frame) | ((with_reducible refine is_store ?_); refine a_storeA hO ?_; clear hO; intro w hO; go_frame) | ((with_reducible refine is_alloc ?_); refine a_alloc hO ?_; clear hO; intro w b_ hO; go_frame) | ((with_reducible refine is_box ?_); refine a_box hO ?_; clear hO; intro w b_ hO; go_frame) | ((with_reducible refine is_lit ?_); refine a_lit0 hO ?_; clear hO; intro w b_ hl_ hO; go_frame) | ((with_reducible refine is_lit ?_); refine a_lit1 hO ?_; clear hO; intro w b_ hl_ hO; go_frame) | ((with_reducible refine is_lit ?_); refine a_lit2 hO ?_; clear hO; intro w b_ hl_ hO; go_frame) | ((with_reducible refine is_lit ?_); refine a_lit3 hO ?_; clear hO; intro w b_ hl_ hO; go_frame) | ((with_reducible apply st_loadF hO); rfl; rfl; rfl; infer_instance; assumption; (focus (repeat (first | exact Pick.here | assumption | apply Pick.there))); go_frame))
    go_loopw [49] (fun i wr => ∃ k : Nat, i = .int .i64 (k : Int) ∧ k ≤ ss.length ∧ (listF A (ss.take k) (l ++ putF 10 ss.length, bad)).1.length ≤ 900010 + 310 * k ∧
        WSt w0 x cv ([(b_, .cells #[.int .u64 (ss.length : Int)] 23 (0, 0))] :: C) (listF A (ss.take k) (l ++ putF 10 ss.length, bad)).1 (listF A (ss.take k) (l ++ putF 10 ss.length, bad)).2 wr) (fun i _ => (ss.length - (intOf i).toNat))
    case atStart => exact ⟨0, rfl, by omega, by simpa [listF] using hlen2, ⟨A2, c2, K2, hr2, hO⟩⟩
    case round =>
      clear hO hr2
      obtain ⟨k, rfl, hk, hlk, hW⟩ := hrel
      have hT : k < ss.length → listF A (ss.take (k + 1)) (l ++ putF 10 ss.length, bad) = ((listF A (ss.take k) (l ++ putF 10 ss.length, bad)).1 ++ putF 10 (ss.getD k ByteArray.empty).size ++ (ss.getD k ByteArray.empty).data.toList, (listF A (ss.take k) (l ++ putF 10 ss.length, bad)).2 || !A (ss.getD k ByteArray.empty)) := by
        intro hlt
        rw [List.take_succ_eq_append_getElem hlt, listF_snoc]
        simp [List.getD, List.getElem?_eq_getElem hlt]
      have HT := Lib.hid hT
      clear hT
      have hEnd : listF A (ss.take ss.length) (l ++ putF 10 ss.length, bad) = listF A ss (l ++ putF 10 ss.length, bad) := by rw [List.take_length]
      have HEnd := Lib.hid hEnd
      clear hEnd
      by_cases hlt : k < ss.length
      · obtain ⟨b, off, hA, hf⟩ := RdS.at_ HK.out hlt
        subst hA
        generalize hq : listF A (ss.take k) (l ++ putF 10 ss.length, bad) = q at *
        obtain ⟨q1, q2⟩ := q
        have Hq := Lib.hid hq
        have hsk := Hsz.out (ss.getD k ByteArray.empty) (by simp [List.getD, List.getElem?_eq_getElem hlt])
        generalize hsv : ss.getD k ByteArray.empty = sv at *
        have Hsv := Lib.hid hsv
        clear hq hsv
        obtain ⟨A3, c3, K3, hr3, hO⟩ := hW
        go_wp2_with (first | ((with_reducible refine is_load ?_); refine a_load hO ?_; go_frame) | ((with_reducible refine is_load ?_); refine a_loadA hO ?_; go_frame) | ((with_reducible refine is_store ?_); refine a_store hO ?_; clear hO; intro w hO; go_frame) | ((with_reducible refine is_store ?_); refine a_storeA hO ?_; clear hO; intro w hO; go_frame) | ((with_reducible refine is_alloc ?_); refine a_alloc hO ?_; clear hO; intro w b_ hO; go_frame) | ((with_reducible refine is_box ?_); refine a_box hO ?_; clear hO; intro w b_ hO; go_frame) | ((with_reducible refine is_lit ?_); refine a_lit0 hO ?_; clear hO; intro w b_ hl_ hO; go_frame) | ((with_reducible refine is_lit ?_); refine a_lit1 hO ?_; clear hO; intro w b_ hl_ hO; go_frame) | ((with_reducible refine is_lit ?_); refine a_lit2 hO ?_; clear hO; intro w b_ hl_ hO; go_frame) | ((with_reducible refine is_lit ?_); refine a_lit3 hO ?_; clear hO; intro w b_ hl_ hO; go_frame) | ((with_reducible apply st_loadF hO); rfl; rfl; rfl; infer_instance; assumption; (focus (repeat (first | exact Pick.here | assumption | apply Pick.there))); go_frame))
        go_at_call 56
        refine (partW Hg.out (w0 := w0) (s := sv) (l := q1) (bad := q2) ⟨A3, c3, K3, hr3, hO⟩ (.there hF) hf (by omega) (by omega)).mono ?_
        rintro e w ⟨rfl, hW2⟩
        have HW2 := Lib.hid hW2
        clear hW2
        go_wp2_with (first | ((with_reducible refine is_load ?_); refine a_load hO ?_; go_frame) | ((with_reducible refine is_load ?_); refine a_loadA hO ?_; go_frame) | ((with_reducible refine is_store ?_); refine a_store hO ?_; clear hO; intro w hO; go_frame) | ((with_reducible refine is_store ?_); refine a_storeA hO ?_; clear hO; intro w hO; go_frame) | ((with_reducible refine is_alloc ?_); refine a_alloc hO ?_; clear hO; intro w b_ hO; go_frame) | ((with_reducible refine is_box ?_); refine a_box hO ?_; clear hO; intro w b_ hO; go_frame) | ((with_reducible refine is_lit ?_); refine a_lit0 hO ?_; clear hO; intro w b_ hl_ hO; go_frame) | ((with_reducible refine is_lit ?_); refine a_lit1 hO ?_; clear hO; intro w b_ hl_ hO; go_frame) | ((with_reducible refine is_lit ?_); refine a_lit2 hO ?_; clear hO; intro w b_ hl_ hO; go_frame) | ((with_reducible refine is_lit ?_); refine a_lit3 hO ?_; clear hO; intro w b_ hl_ hO; go_frame))
        have hps := putF_len 10 sv.size
        refine ⟨⟨k + 1, by simp, by omega, ?_, ?_⟩, by simp [intOf]; omega⟩
        · rw [HT.out hlt]
          simp
          omega
        · rw [HT.out hlt]
          exact HW2.out
      · obtain ⟨A3, c3, K3, hr3, hO⟩ := hW
        go_wp2_with (first | ((with_reducible refine is_load ?_); refine a_load hO ?_; go_frame) | ((with_reducible refine is_load ?_); refine a_loadA hO ?_; go_frame) | ((with_reducible refine is_store ?_); refine a_store hO ?_; clear hO; intro w hO; go_frame) | ((with_reducible refine is_store ?_); refine a_storeA hO ?_; clear hO; intro w hO; go_frame) | ((with_reducible refine is_alloc ?_); refine a_alloc hO ?_; clear hO; intro w b_ hO; go_frame) | ((with_reducible refine is_box ?_); refine a_box hO ?_; clear hO; intro w b_ hO; go_frame) | ((with_reducible refine is_lit ?_); refine a_lit0 hO ?_; clear hO; intro w b_ hl_ hO; go_frame) | ((with_reducible refine is_lit ?_); refine a_lit1 hO ?_; clear hO; intro w b_ hl_ hO; go_frame) | ((with_reducible refine is_lit ?_); refine a_lit2 hO ?_; clear hO; intro w b_ hl_ hO; go_frame) | ((with_reducible refine is_lit ?_); refine a_lit3 hO ?_; clear hO; intro w b_ hl_ hO; go_frame) | ((with_reducible apply st_loadF hO); rfl; rfl; rfl; infer_instance; assumption; (focus (repeat (first | exact Pick.here | assumption | apply Pick.there))); go_frame))
        go_end0
        have hkn : k = ss.length := by omega
        subst hkn
        refine ⟨rfl, ?_⟩
        rw [HW.out, ← HEnd.out]
        exact ⟨A3, c3, K3, hr3, hO.dropAt (.there (.there .here))⟩
end Go.Proofs.Yteghmoijhcdpeaa
