import Derived.Test.YteghmoijhcdpeaaCdk
set_option linter.unusedSimpArgs false
set_option linter.unusedVariables false
set_option maxRecDepth 100000
namespace Go.Proofs.Yteghmoijhcdpeaa
open Go.RowKit

/-- A return of a struct's variable and a number. -/
theorem bodyPost_cell2 {P : Program} {fn : Func} {R : Ending → World → Prop} {a : Act} {w0 w : World} {C C' : List Chunk} {p u : Tmp} {ty : TypeId} {b n : Nat} {c : Array Value} {T : TypeId} {fr : Nat × Nat} (hO : Own w0 w C)
    (h : fn.results = #[.cell p ty, .tmp u]) (ht : a.tmps.getD p undef = .pointer (some ⟨b, 0, none⟩)) (hd : a.defers = []) (hp : Pick C [(b, .cells c T fr)] C') (hs : Agg P ty n) (hc : c.size = n)
    (hR : R (.returned (.tuple #[.agg c, a.tmps.getD u undef])) w) : bodyPost P fn R .ret a w := by
  refine bodyPost_ret (v := .tuple #[.agg c, a.tmps.getD u undef]) ?_ hd hR
  have hb := hO.block1 hp
  have hl := run_loadVar_agg (P := P) (t := ty) (w := w) (b := b) (off := 0) (l := c.toList) (by simpa using hc) (fun j v hv => by rw [cell_at hb]; simpa using hv)
  simp only [Array.toArray_toList] at hl
  rw [Array.getD_eq_getD_getElem?] at ht
  simp [results, h, ht, asAddr, hl]

theorem known46 (op : Int) (w : World) : Calls Try.prog 46 #[.int .i64 op] w fun e w' => e = .returned (.bool (decide (0 < op) && decide (op < 16))) ∧ w = w' := by
  by_cases h : 0 < op
  · go_enter Try.func46, Try.ntmps46
    go_wp2
    go_ret
    exact ⟨by simp [h], rfl⟩
  · go_enter Try.func46, Try.ntmps46
    go_wp2
    go_ret
    exact ⟨by simp [h]; omega, rfl⟩

theorem CmdV.cells {F : Chunk} {cs : Array Value} {q : Cmd} (h : CmdV F cs q) : ∃ A1 n1 c1 A2 n2 c2 A3 n3 c3,
    cs = #[.int .i64 q.op, .string q.key, .slice A1 n1 c1, .slice A2 n2 c2, .slice A3 n3 c3, .int .u64 q.life, .int .u64 q.version, .string q.tag, .string q.pfx, .string q.child] := by
  obtain ⟨vk, vv, vt, rfl, ⟨A1, c1, rfl, _⟩, ⟨A2, c2, rfl, _⟩, ⟨A3, c3, rfl, _⟩⟩ := h
  exact ⟨_, _, _, _, _, _, _, _, _, rfl⟩
def zeroC : Cmd := baseC 0
theorem zeroV (F : Chunk) : CmdV F #[.int .i64 0, .string ByteArray.empty, .slice none 0 0, .slice none 0 0, .slice none 0 0, .int .u64 0, .int .u64 0, .string ByteArray.empty, .string ByteArray.empty, .string ByteArray.empty] zeroC :=
  ⟨_, _, _, rfl, rdS_nil _, rdB_nil _, rdS_nil _⟩
/-- What reading a frame answers: the command, whether there is none. -/
def readF (op : Int) (l : List UInt8) : Cmd × Bool := let p := partsRF op l; if p.2.2 || decide (0 < p.2.1.length) then (zeroC, true) else (p.1, false)
def ReadR (w0 : World) (C : List Chunk) (q : Cmd × Bool) (e : Ending) (w' : World) : Prop :=
  ∃ cs F, e = .returned (.tuple #[.agg cs, .int .i64 (if q.2 then 6 else 0)]) ∧ CmdV F cs q.1 ∧ Own w0 w' (F :: C)

set_option maxHeartbeats 2000000 in
theorem readC {w0 w : World} {C CX : List Chunk} {X : Chunk} {vp : Value} {l : List UInt8} {op : Int} (hO : Own w0 w C) (hX : Pick C X CX) (hp : RdB X vp l) (hl : l.length ≤ 10000) (h1 : 1 ≤ op) (h15 : op ≤ 15) :
    Calls Try.prog 48 #[.agg #[.int .u8 op, vp]] w (ReadR w0 C (readF op l)) := by
  have HF : Hid (readF op l = if (partsRF op l).2.2 || decide (0 < (partsRF op l).2.1.length) then (zeroC, true) else ((partsRF op l).1, false)) := (rfl : _ = _)
  go_enter Try.func48, Try.ntmps48
  go_wp2_with (first | ((with_reducible refine is_load ?_); refine a_load hO ?_; go_frame) | ((with_reducible refine is_load ?_); refine a_loadA hO ?_; go_frame) | ((with_reducible refine is_store ?_); refine a_store hO ?_; clear hO; intro w hO; go_frame) | ((with_reducible refine is_store ?_); refine a_storeA hO ?_; clear hO; intro w hO; go_frame) | ((with_reducible refine is_alloc ?_); refine a_alloc hO ?_; clear hO; intro w b_ hO; go_frame) | ((with_reducible refine is_box ?_); refine a_box hO ?_; clear hO; intro w b_ hO; go_frame) | ((with_reducible refine is_lit ?_); refine a_lit0 hO ?_; clear hO; intro w b_ hl_ hO; go_frame) | ((with_reducible refine is_lit ?_); refine a_lit1 hO ?_; clear hO; intro w b_ hl_ hO; go_frame) | ((with_reducible refine is_lit ?_); refine a_lit2 hO ?_; clear hO; intro w b_ hl_ hO; go_frame) | ((with_reducible refine is_lit ?_); refine a_lit3 hO ?_; clear hO; intro w b_ hl_ hO; go_frame))
  go_at_call 63
  refine (new_spec hO (.there (.there (.there hX))) hp (by omega)).mono ?_
  rintro e w ⟨r, rest, X1, rfl, hr, hO⟩
  go_wp2_with (first | ((with_reducible refine is_load ?_); refine a_load hO ?_; go_frame) | ((with_reducible refine is_load ?_); refine a_loadA hO ?_; go_frame) | ((with_reducible refine is_store ?_); refine a_store hO ?_; clear hO; intro w hO; go_frame) | ((with_reducible refine is_store ?_); refine a_storeA hO ?_; clear hO; intro w hO; go_frame) | ((with_reducible refine is_alloc ?_); refine a_alloc hO ?_; clear hO; intro w b_ hO; go_frame) | ((with_reducible refine is_box ?_); refine a_box hO ?_; clear hO; intro w b_ hO; go_frame) | ((with_reducible refine is_lit ?_); refine a_lit0 hO ?_; clear hO; intro w b_ hl_ hO; go_frame) | ((with_reducible refine is_lit ?_); refine a_lit1 hO ?_; clear hO; intro w b_ hl_ hO; go_frame) | ((with_reducible refine is_lit ?_); refine a_lit2 hO ?_; clear hO; intro w b_ hl_ hO; go_frame) | ((with_reducible refine is_lit ?_); refine a_lit3 hO ?_; clear hO; intro w b_ hl_ hO; go_frame))
  go_at_call 47
  refine (partsR (l := l) (op := op) ⟨X1, rest, hr, hO⟩ hl h1 h15).mono ?_
  generalize hq : partsRF op l = q at *
  clear hq
  obtain ⟨q1, l2, bad⟩ := q
  clear hO hr
  rintro e w ⟨rfl, F, cs, hcs, X2, rest2, hr, hO⟩
  simp only [] at hr hcs hO
  obtain ⟨A1, n1, c1, A2, n2, c2, A3, n3, c3, rfl⟩ := hcs.cells
  have Hcs := Lib.hid hcs
  clear hcs
  cases bad
  · unfold Rdr at hO
    have hO2 := hO
    go_wp2_with (first | ((with_reducible refine is_load ?_); refine a_load hO ?_; go_frame) | ((with_reducible refine is_load ?_); refine a_loadA hO ?_; go_frame) | ((with_reducible refine is_store ?_); refine a_store hO ?_; clear hO; intro w hO; go_frame) | ((with_reducible refine is_store ?_); refine a_storeA hO ?_; clear hO; intro w hO; go_frame) | ((with_reducible refine is_alloc ?_); refine a_alloc hO ?_; clear hO; intro w b_ hO; go_frame) | ((with_reducible refine is_box ?_); refine a_box hO ?_; clear hO; intro w b_ hO; go_frame) | ((with_reducible refine is_lit ?_); refine a_lit0 hO ?_; clear hO; intro w b_ hl_ hO; go_frame) | ((with_reducible refine is_lit ?_); refine a_lit1 hO ?_; clear hO; intro w b_ hl_ hO; go_frame) | ((with_reducible refine is_lit ?_); refine a_lit2 hO ?_; clear hO; intro w b_ hl_ hO; go_frame) | ((with_reducible refine is_lit ?_); refine a_lit3 hO ?_; clear hO; intro w b_ hl_ hO; go_frame))
    go_at_call 64
    refine (left_spec (C := _) (by unfold Rdr; exact hO.pick2 (.there .here) (.there .here)) hr).mono ?_
    rintro e w ⟨rfl, rfl⟩
    by_cases h0 : 0 < l2.length
    · go_wp2_with (first | ((with_reducible refine is_load ?_); refine a_load hO ?_; go_frame) | ((with_reducible refine is_load ?_); refine a_loadA hO ?_; go_frame) | ((with_reducible refine is_store ?_); refine a_store hO ?_; clear hO; intro w hO; go_frame) | ((with_reducible refine is_store ?_); refine a_storeA hO ?_; clear hO; intro w hO; go_frame) | ((with_reducible refine is_alloc ?_); refine a_alloc hO ?_; clear hO; intro w b_ hO; go_frame) | ((with_reducible refine is_box ?_); refine a_box hO ?_; clear hO; intro w b_ hO; go_frame) | ((with_reducible refine is_lit ?_); refine a_lit0 hO ?_; clear hO; intro w b_ hl_ hO; go_frame) | ((with_reducible refine is_lit ?_); refine a_lit1 hO ?_; clear hO; intro w b_ hl_ hO; go_frame) | ((with_reducible refine is_lit ?_); refine a_lit2 hO ?_; clear hO; intro w b_ hl_ hO; go_frame) | ((with_reducible refine is_lit ?_); refine a_lit3 hO ?_; clear hO; intro w b_ hl_ hO; go_frame))
      refine bodyPost_cell2 hO rfl rfl rfl (by (focus (repeat (first | exact Pick.here | assumption | apply Pick.there)))) (by infer_instance) (by rfl) ?_
      have e : readF op l = (zeroC, true) := by rw [HF.out, if_pos (by simp [h0])]
      rw [e]
      exact ⟨_, [], rfl, zeroV _, hO.drop.drop.drop.drop.drop.drop.drop.none_⟩
    · go_wp2_with (first | ((with_reducible refine is_load ?_); refine a_load hO ?_; go_frame) | ((with_reducible refine is_load ?_); refine a_loadA hO ?_; go_frame) | ((with_reducible refine is_store ?_); refine a_store hO ?_; clear hO; intro w hO; go_frame) | ((with_reducible refine is_store ?_); refine a_storeA hO ?_; clear hO; intro w hO; go_frame) | ((with_reducible refine is_alloc ?_); refine a_alloc hO ?_; clear hO; intro w b_ hO; go_frame) | ((with_reducible refine is_box ?_); refine a_box hO ?_; clear hO; intro w b_ hO; go_frame) | ((with_reducible refine is_lit ?_); refine a_lit0 hO ?_; clear hO; intro w b_ hl_ hO; go_frame) | ((with_reducible refine is_lit ?_); refine a_lit1 hO ?_; clear hO; intro w b_ hl_ hO; go_frame) | ((with_reducible refine is_lit ?_); refine a_lit2 hO ?_; clear hO; intro w b_ hl_ hO; go_frame) | ((with_reducible refine is_lit ?_); refine a_lit3 hO ?_; clear hO; intro w b_ hl_ hO; go_frame))
      refine bodyPost_cell2 hO rfl rfl rfl (by (focus (repeat (first | exact Pick.here | assumption | apply Pick.there)))) (by infer_instance) (by rfl) ?_
      have e : readF op l = (q1, false) := by rw [HF.out, if_neg (by simp [h0])]
      rw [e]
      exact ⟨_, F, rfl, Hcs.out, (hO.drop.drop.drop.drop.dropAt (.there .here)).dropAt (.there .here)⟩
  · unfold Rdr at hO
    go_wp2_with (first | ((with_reducible refine is_load ?_); refine a_load hO ?_; go_frame) | ((with_reducible refine is_load ?_); refine a_loadA hO ?_; go_frame) | ((with_reducible refine is_store ?_); refine a_store hO ?_; clear hO; intro w hO; go_frame) | ((with_reducible refine is_store ?_); refine a_storeA hO ?_; clear hO; intro w hO; go_frame) | ((with_reducible refine is_alloc ?_); refine a_alloc hO ?_; clear hO; intro w b_ hO; go_frame) | ((with_reducible refine is_box ?_); refine a_box hO ?_; clear hO; intro w b_ hO; go_frame) | ((with_reducible refine is_lit ?_); refine a_lit0 hO ?_; clear hO; intro w b_ hl_ hO; go_frame) | ((with_reducible refine is_lit ?_); refine a_lit1 hO ?_; clear hO; intro w b_ hl_ hO; go_frame) | ((with_reducible refine is_lit ?_); refine a_lit2 hO ?_; clear hO; intro w b_ hl_ hO; go_frame) | ((with_reducible refine is_lit ?_); refine a_lit3 hO ?_; clear hO; intro w b_ hl_ hO; go_frame))
    refine bodyPost_cell2 hO rfl rfl rfl (by (focus (repeat (first | exact Pick.here | assumption | apply Pick.there)))) (by infer_instance) (by rfl) ?_
    have e : readF op l = (zeroC, true) := by rw [HF.out, if_pos (by simp)]
    rw [e]
    exact ⟨_, [], rfl, zeroV _, hO.drop.drop.drop.drop.drop.drop.drop.none_⟩

/-- Whether a command is right. -/
def validF (q : Cmd) : Bool :=
  if 1 ≤ q.op ∧ q.op ≤ 15 then
    let r := readF q.op (partsWF q).1
    !((partsWF q).2 || (r.2 || !cmdEq r.1 q))
  else false

theorem listRF_n (A : ByteArray → Bool) (a b : Nat) (r : List UInt8 × Bool) (hb : b ≤ 1000) : (listRF A a b r).1.length ≤ 1000 := by
  unfold listRF
  simp only []
  split
  · simp
  · rename_i h
    rw [(rlF_len A _ _).1]
    omega
theorem readF_n (op : Int) (l : List UInt8) : (readF op l).1.keys.length ≤ 1000 ∧ (readF op l).1.tags.length ≤ 1000 := by
  have h1 : (tT l).1.length ≤ 1000 := listRF_n _ _ _ _ (by decide)
  have h2 : (tKs l).1.length ≤ 1000 := listRF_n _ _ _ _ (by decide)
  unfold readF
  simp only []
  split
  · simp [zeroC, baseC]
  · unfold partsRF
    repeat' split
    all_goals simp [baseC, h1, h2]

def WriteR (w0 : World) (C : List Chunk) (q : Cmd) (e : Ending) (w' : World) : Prop := ∃ k A n c, e = .returned (.tuple #[.agg #[.int .u8 k, .slice A n c], .int .i64 (if validF q then 0 else 2)]) ∧ Own w0 w' C

set_option maxHeartbeats 2000000 in
theorem writeC {w0 w : World} {C CX : List Chunk} {X : Chunk} {cs : Array Value} {q : Cmd} (hO : Own w0 w C) (hX : Pick C X CX) (hq : CmdV X cs q) (hL : Lite q) :
    Calls Try.prog 32 #[.agg cs] w (WriteR w0 C q) := by
  have HF : Hid (validF q = if 1 ≤ q.op ∧ q.op ≤ 15 then !((partsWF q).2 || ((readF q.op (partsWF q).1).2 || !cmdEq (readF q.op (partsWF q).1).1 q)) else false) := (rfl : _ = _)
  have hv16 := hL.value
  have HL := Lib.hid hL
  have HQ := Lib.hid hq
  obtain ⟨vk, vv, vt, rfl, hk, hvv, ht⟩ := hq
  obtain ⟨A1, c1, rfl, _, hk⟩ := hk.split
  obtain ⟨A2, c2, rfl, _, hvv⟩ := hvv.split
  obtain ⟨A3, c3, rfl, _, ht⟩ := ht.split
  clear hL hk hvv ht
  go_enter Try.func32, Try.ntmps32
  go_wp2_with (first | ((with_reducible refine is_load ?_); refine a_load hO ?_; go_frame) | ((with_reducible refine is_load ?_); refine a_loadA hO ?_; go_frame) | ((with_reducible refine is_store ?_); refine a_store hO ?_; clear hO; intro w hO; go_frame) | ((with_reducible refine is_store ?_); refine a_storeA hO ?_; clear hO; intro w hO; go_frame) | ((with_reducible refine is_alloc ?_); refine a_alloc hO ?_; clear hO; intro w b_ hO; go_frame) | ((with_reducible refine is_box ?_); refine a_box hO ?_; clear hO; intro w b_ hO; go_frame) | ((with_reducible refine is_lit ?_); refine a_lit0 hO ?_; clear hO; intro w b_ hl_ hO; go_frame) | ((with_reducible refine is_lit ?_); refine a_lit1 hO ?_; clear hO; intro w b_ hl_ hO; go_frame) | ((with_reducible refine is_lit ?_); refine a_lit2 hO ?_; clear hO; intro w b_ hl_ hO; go_frame) | ((with_reducible refine is_lit ?_); refine a_lit3 hO ?_; clear hO; intro w b_ hl_ hO; go_frame))
  go_at_call 46
  refine (known46 _ _).mono ?_
  rintro e w ⟨rfl, rfl⟩
  by_cases h1 : 1 ≤ q.op ∧ q.op ≤ 15
  · have hb : (decide (0 < q.op) && decide (q.op < 16)) = true := by simp; omega
    rw [hb]
    clear hb
    obtain ⟨h1, h15⟩ := h1
    have e : Hid (validF q = !((partsWF q).2 || ((readF q.op (partsWF q).1).2 || !cmdEq (readF q.op (partsWF q).1).1 q))) := by
      show validF q = _
      rw [HF.out, if_pos ⟨h1, h15⟩]
    clear HF
    go_wp2_with (first | ((with_reducible refine is_load ?_); refine a_load hO ?_; go_frame) | ((with_reducible refine is_load ?_); refine a_loadA hO ?_; go_frame) | ((with_reducible refine is_store ?_); refine a_store hO ?_; clear hO; intro w hO; go_frame) | ((with_reducible refine is_store ?_); refine a_storeA hO ?_; clear hO; intro w hO; go_frame) | ((with_reducible refine is_alloc ?_); refine a_alloc hO ?_; clear hO; intro w b_ hO; go_frame) | ((with_reducible refine is_box ?_); refine a_box hO ?_; clear hO; intro w b_ hO; go_frame) | ((with_reducible refine is_lit ?_); refine a_lit0 hO ?_; clear hO; intro w b_ hl_ hO; go_frame) | ((with_reducible refine is_lit ?_); refine a_lit1 hO ?_; clear hO; intro w b_ hl_ hO; go_frame) | ((with_reducible refine is_lit ?_); refine a_lit2 hO ?_; clear hO; intro w b_ hl_ hO; go_frame) | ((with_reducible refine is_lit ?_); refine a_lit3 hO ?_; clear hO; intro w b_ hl_ hO; go_frame))
    go_at_call 47
    refine (partsW (w0 := w0) ⟨none, 0, [], Rd.none_ _ _, hO.none_.swap⟩ (by (focus (repeat (first | exact Pick.here | assumption | apply Pick.there)))) HQ.out (by (focus (repeat (first | exact Pick.here | assumption | apply Pick.there)))) HL.out h1 h15).mono ?_
    have hlen := partsWF_len HL.out
    generalize hq : partsWF q = pw at *
    have Hpw := Lib.hid hq
    clear hq hO
    obtain ⟨l, bad⟩ := pw
    rintro e w ⟨rfl, A, cc, K, hr, hO⟩
    simp only [] at hr hO hlen
    go_wp2_with (first | ((with_reducible refine is_load ?_); refine a_load hO ?_; go_frame) | ((with_reducible refine is_load ?_); refine a_loadA hO ?_; go_frame) | ((with_reducible refine is_store ?_); refine a_store hO ?_; clear hO; intro w hO; go_frame) | ((with_reducible refine is_store ?_); refine a_storeA hO ?_; clear hO; intro w hO; go_frame) | ((with_reducible refine is_alloc ?_); refine a_alloc hO ?_; clear hO; intro w b_ hO; go_frame) | ((with_reducible refine is_box ?_); refine a_box hO ?_; clear hO; intro w b_ hO; go_frame) | ((with_reducible refine is_lit ?_); refine a_lit0 hO ?_; clear hO; intro w b_ hl_ hO; go_frame) | ((with_reducible refine is_lit ?_); refine a_lit1 hO ?_; clear hO; intro w b_ hl_ hO; go_frame) | ((with_reducible refine is_lit ?_); refine a_lit2 hO ?_; clear hO; intro w b_ hl_ hO; go_frame) | ((with_reducible refine is_lit ?_); refine a_lit3 hO ?_; clear hO; intro w b_ hl_ hO; go_frame))
    go_at_call 48
    refine (readC hO (.there (.there .here)) hr (by omega) h1 h15).mono ?_
    have hrn := readF_n q.op l
    generalize hr_ : readF q.op l = r at *
    clear hr_ hO
    obtain ⟨q1, er⟩ := r
    rintro e w ⟨cs, F, rfl, hcs, hO⟩
    simp only [] at hcs hrn
    obtain ⟨A4, n4, c4, A5, n5, c5, A6, n6, c6, rfl⟩ := hcs.cells
    have Hcs := Lib.hid hcs
    clear hcs
    obtain ⟨k1, k2⟩ := hrn
    cases bad
    · cases er
      · simp only [Bool.false_eq_true, if_false]
        go_wp2_with (first | ((with_reducible refine is_load ?_); refine a_load hO ?_; go_frame) | ((with_reducible refine is_load ?_); refine a_loadA hO ?_; go_frame) | ((with_reducible refine is_store ?_); refine a_store hO ?_; clear hO; intro w hO; go_frame) | ((with_reducible refine is_store ?_); refine a_storeA hO ?_; clear hO; intro w hO; go_frame) | ((with_reducible refine is_alloc ?_); refine a_alloc hO ?_; clear hO; intro w b_ hO; go_frame) | ((with_reducible refine is_box ?_); refine a_box hO ?_; clear hO; intro w b_ hO; go_frame) | ((with_reducible refine is_lit ?_); refine a_lit0 hO ?_; clear hO; intro w b_ hl_ hO; go_frame) | ((with_reducible refine is_lit ?_); refine a_lit1 hO ?_; clear hO; intro w b_ hl_ hO; go_frame) | ((with_reducible refine is_lit ?_); refine a_lit2 hO ?_; clear hO; intro w b_ hl_ hO; go_frame) | ((with_reducible refine is_lit ?_); refine a_lit3 hO ?_; clear hO; intro w b_ hl_ hO; go_frame))
        go_at_call 49
        refine (equalC hO (by (focus (repeat (first | exact Pick.here | assumption | apply Pick.there)))) (by (focus (repeat (first | exact Pick.here | assumption | apply Pick.there)))) Hcs.out HQ.out k1 k2).mono ?_
        clear hO
        rintro e w ⟨rfl, hO⟩
        generalize hce : cmdEq q1 q = ce at *
        clear hce
        cases ce
        · go_wp2_with (first | ((with_reducible refine is_load ?_); refine a_load hO ?_; go_frame) | ((with_reducible refine is_load ?_); refine a_loadA hO ?_; go_frame) | ((with_reducible refine is_store ?_); refine a_store hO ?_; clear hO; intro w hO; go_frame) | ((with_reducible refine is_store ?_); refine a_storeA hO ?_; clear hO; intro w hO; go_frame) | ((with_reducible refine is_alloc ?_); refine a_alloc hO ?_; clear hO; intro w b_ hO; go_frame) | ((with_reducible refine is_box ?_); refine a_box hO ?_; clear hO; intro w b_ hO; go_frame) | ((with_reducible refine is_lit ?_); refine a_lit0 hO ?_; clear hO; intro w b_ hl_ hO; go_frame) | ((with_reducible refine is_lit ?_); refine a_lit1 hO ?_; clear hO; intro w b_ hl_ hO; go_frame) | ((with_reducible refine is_lit ?_); refine a_lit2 hO ?_; clear hO; intro w b_ hl_ hO; go_frame) | ((with_reducible refine is_lit ?_); refine a_lit3 hO ?_; clear hO; intro w b_ hl_ hO; go_frame))
          refine bodyPost_cell2 hO rfl rfl rfl (by (focus (repeat (first | exact Pick.here | assumption | apply Pick.there)))) (by infer_instance) (by rfl) ?_
          refine ⟨_, _, _, _, by rw [show validF q = false from e.out]; rfl, hO.drop.drop.drop.drop.drop.drop.drop⟩
        · go_wp2_with (first | ((with_reducible refine is_load ?_); refine a_load hO ?_; go_frame) | ((with_reducible refine is_load ?_); refine a_loadA hO ?_; go_frame) | ((with_reducible refine is_store ?_); refine a_store hO ?_; clear hO; intro w hO; go_frame) | ((with_reducible refine is_store ?_); refine a_storeA hO ?_; clear hO; intro w hO; go_frame) | ((with_reducible refine is_alloc ?_); refine a_alloc hO ?_; clear hO; intro w b_ hO; go_frame) | ((with_reducible refine is_box ?_); refine a_box hO ?_; clear hO; intro w b_ hO; go_frame) | ((with_reducible refine is_lit ?_); refine a_lit0 hO ?_; clear hO; intro w b_ hl_ hO; go_frame) | ((with_reducible refine is_lit ?_); refine a_lit1 hO ?_; clear hO; intro w b_ hl_ hO; go_frame) | ((with_reducible refine is_lit ?_); refine a_lit2 hO ?_; clear hO; intro w b_ hl_ hO; go_frame) | ((with_reducible refine is_lit ?_); refine a_lit3 hO ?_; clear hO; intro w b_ hl_ hO; go_frame))
          refine bodyPost_cell2 hO rfl rfl rfl (by (focus (repeat (first | exact Pick.here | assumption | apply Pick.there)))) (by infer_instance) (by rfl) ?_
          refine ⟨_, _, _, _, by rw [show validF q = true from e.out]; rfl, hO.drop.drop.drop.drop.drop.drop.drop⟩
      · simp only [if_true]
        go_wp2_with (first | ((with_reducible refine is_load ?_); refine a_load hO ?_; go_frame) | ((with_reducible refine is_load ?_); refine a_loadA hO ?_; go_frame) | ((with_reducible refine is_store ?_); refine a_store hO ?_; clear hO; intro w hO; go_frame) | ((with_reducible refine is_store ?_); refine a_storeA hO ?_; clear hO; intro w hO; go_frame) | ((with_reducible refine is_alloc ?_); refine a_alloc hO ?_; clear hO; intro w b_ hO; go_frame) | ((with_reducible refine is_box ?_); refine a_box hO ?_; clear hO; intro w b_ hO; go_frame) | ((with_reducible refine is_lit ?_); refine a_lit0 hO ?_; clear hO; intro w b_ hl_ hO; go_frame) | ((with_reducible refine is_lit ?_); refine a_lit1 hO ?_; clear hO; intro w b_ hl_ hO; go_frame) | ((with_reducible refine is_lit ?_); refine a_lit2 hO ?_; clear hO; intro w b_ hl_ hO; go_frame) | ((with_reducible refine is_lit ?_); refine a_lit3 hO ?_; clear hO; intro w b_ hl_ hO; go_frame))
        refine bodyPost_cell2 hO rfl rfl rfl (by (focus (repeat (first | exact Pick.here | assumption | apply Pick.there)))) (by infer_instance) (by rfl) ?_
        refine ⟨_, _, _, _, by rw [show validF q = false from e.out]; rfl, hO.drop.drop.drop.drop.drop.drop.drop⟩
    · cases er
      · simp only [Bool.false_eq_true, if_false]
        go_wp2_with (first | ((with_reducible refine is_load ?_); refine a_load hO ?_; go_frame) | ((with_reducible refine is_load ?_); refine a_loadA hO ?_; go_frame) | ((with_reducible refine is_store ?_); refine a_store hO ?_; clear hO; intro w hO; go_frame) | ((with_reducible refine is_store ?_); refine a_storeA hO ?_; clear hO; intro w hO; go_frame) | ((with_reducible refine is_alloc ?_); refine a_alloc hO ?_; clear hO; intro w b_ hO; go_frame) | ((with_reducible refine is_box ?_); refine a_box hO ?_; clear hO; intro w b_ hO; go_frame) | ((with_reducible refine is_lit ?_); refine a_lit0 hO ?_; clear hO; intro w b_ hl_ hO; go_frame) | ((with_reducible refine is_lit ?_); refine a_lit1 hO ?_; clear hO; intro w b_ hl_ hO; go_frame) | ((with_reducible refine is_lit ?_); refine a_lit2 hO ?_; clear hO; intro w b_ hl_ hO; go_frame) | ((with_reducible refine is_lit ?_); refine a_lit3 hO ?_; clear hO; intro w b_ hl_ hO; go_frame))
        refine bodyPost_cell2 hO rfl rfl rfl (by (focus (repeat (first | exact Pick.here | assumption | apply Pick.there)))) (by infer_instance) (by rfl) ?_
        refine ⟨_, _, _, _, by rw [show validF q = false from e.out]; rfl, hO.drop.drop.drop.drop.drop.drop.drop⟩
      · simp only [if_true]
        go_wp2_with (first | ((with_reducible refine is_load ?_); refine a_load hO ?_; go_frame) | ((with_reducible refine is_load ?_); refine a_loadA hO ?_; go_frame) | ((with_reducible refine is_store ?_); refine a_store hO ?_; clear hO; intro w hO; go_frame) | ((with_reducible refine is_store ?_); refine a_storeA hO ?_; clear hO; intro w hO; go_frame) | ((with_reducible refine is_alloc ?_); refine a_alloc hO ?_; clear hO; intro w b_ hO; go_frame) | ((with_reducible refine is_box ?_); refine a_box hO ?_; clear hO; intro w b_ hO; go_frame) | ((with_reducible refine is_lit ?_); refine a_lit0 hO ?_; clear hO; intro w b_ hl_ hO; go_frame) | ((with_reducible refine is_lit ?_); refine a_lit1 hO ?_; clear hO; intro w b_ hl_ hO; go_frame) | ((with_reducible refine is_lit ?_); refine a_lit2 hO ?_; clear hO; intro w b_ hl_ hO; go_frame) | ((with_reducible refine is_lit ?_); refine a_lit3 hO ?_; clear hO; intro w b_ hl_ hO; go_frame))
        refine bodyPost_cell2 hO rfl rfl rfl (by (focus (repeat (first | exact Pick.here | assumption | apply Pick.there)))) (by infer_instance) (by rfl) ?_
        refine ⟨_, _, _, _, by rw [show validF q = false from e.out]; rfl, hO.drop.drop.drop.drop.drop.drop.drop⟩
  · have hb : (decide (0 < q.op) && decide (q.op < 16)) = false := by simp; omega
    rw [hb]
    clear hb
    have e : Hid (validF q = false) := by show validF q = false; rw [HF.out, if_neg h1]
    go_wp2_with (first | ((with_reducible refine is_load ?_); refine a_load hO ?_; go_frame) | ((with_reducible refine is_load ?_); refine a_loadA hO ?_; go_frame) | ((with_reducible refine is_store ?_); refine a_store hO ?_; clear hO; intro w hO; go_frame) | ((with_reducible refine is_store ?_); refine a_storeA hO ?_; clear hO; intro w hO; go_frame) | ((with_reducible refine is_alloc ?_); refine a_alloc hO ?_; clear hO; intro w b_ hO; go_frame) | ((with_reducible refine is_box ?_); refine a_box hO ?_; clear hO; intro w b_ hO; go_frame) | ((with_reducible refine is_lit ?_); refine a_lit0 hO ?_; clear hO; intro w b_ hl_ hO; go_frame) | ((with_reducible refine is_lit ?_); refine a_lit1 hO ?_; clear hO; intro w b_ hl_ hO; go_frame) | ((with_reducible refine is_lit ?_); refine a_lit2 hO ?_; clear hO; intro w b_ hl_ hO; go_frame) | ((with_reducible refine is_lit ?_); refine a_lit3 hO ?_; clear hO; intro w b_ hl_ hO; go_frame))
    refine bodyPost_cell2 hO rfl rfl rfl (by (focus (repeat (first | exact Pick.here | assumption | apply Pick.there)))) (by infer_instance) (by rfl) ?_
    refine ⟨_, _, _, _, by rw [e.out]; rfl, hO.drop.drop⟩

set_option maxHeartbeats 1000000 in
theorem validC {w0 w : World} {C CX : List Chunk} {X : Chunk} {cs : Array Value} {q : Cmd} (hO : Own w0 w C) (hX : Pick C X CX) (hq : CmdV X cs q) (hL : Lite q) :
    Calls Try.prog 18 #[.agg cs] w fun e w' => e = .returned (.bool (validF q)) ∧ Own w0 w' C := by
  obtain ⟨A1, n1, c1, A2, n2, c2, A3, n3, c3, rfl⟩ := hq.cells
  have HL := Lib.hid hL
  have HQ := Lib.hid hq
  clear hL hq
  go_enter Try.func18, Try.ntmps18
  go_wp2_with (first | ((with_reducible refine is_load ?_); refine a_load hO ?_; go_frame) | ((with_reducible refine is_load ?_); refine a_loadA hO ?_; go_frame) | ((with_reducible refine is_store ?_); refine a_store hO ?_; clear hO; intro w hO; go_frame) | ((with_reducible refine is_store ?_); refine a_storeA hO ?_; clear hO; intro w hO; go_frame) | ((with_reducible refine is_alloc ?_); refine a_alloc hO ?_; clear hO; intro w b_ hO; go_frame) | ((with_reducible refine is_box ?_); refine a_box hO ?_; clear hO; intro w b_ hO; go_frame) | ((with_reducible refine is_lit ?_); refine a_lit0 hO ?_; clear hO; intro w b_ hl_ hO; go_frame) | ((with_reducible refine is_lit ?_); refine a_lit1 hO ?_; clear hO; intro w b_ hl_ hO; go_frame) | ((with_reducible refine is_lit ?_); refine a_lit2 hO ?_; clear hO; intro w b_ hl_ hO; go_frame) | ((with_reducible refine is_lit ?_); refine a_lit3 hO ?_; clear hO; intro w b_ hl_ hO; go_frame))
  go_at_call 32
  refine (writeC hO (.there hX) HQ.out HL.out).mono ?_
  clear hO
  rintro e w ⟨fk, fA, fn, fc, rfl, hO⟩
  generalize hv : validF q = v at *
  cases v
  · simp only [Bool.false_eq_true, if_false]
    go_wp2_with (first | ((with_reducible refine is_load ?_); refine a_load hO ?_; go_frame) | ((with_reducible refine is_load ?_); refine a_loadA hO ?_; go_frame) | ((with_reducible refine is_store ?_); refine a_store hO ?_; clear hO; intro w hO; go_frame) | ((with_reducible refine is_store ?_); refine a_storeA hO ?_; clear hO; intro w hO; go_frame) | ((with_reducible refine is_alloc ?_); refine a_alloc hO ?_; clear hO; intro w b_ hO; go_frame) | ((with_reducible refine is_box ?_); refine a_box hO ?_; clear hO; intro w b_ hO; go_frame) | ((with_reducible refine is_lit ?_); refine a_lit0 hO ?_; clear hO; intro w b_ hl_ hO; go_frame) | ((with_reducible refine is_lit ?_); refine a_lit1 hO ?_; clear hO; intro w b_ hl_ hO; go_frame) | ((with_reducible refine is_lit ?_); refine a_lit2 hO ?_; clear hO; intro w b_ hl_ hO; go_frame) | ((with_reducible refine is_lit ?_); refine a_lit3 hO ?_; clear hO; intro w b_ hl_ hO; go_frame))
    go_ret
    exact ⟨by rw [hv]; rfl, hO.drop.drop⟩
  · simp only [if_true]
    go_wp2_with (first | ((with_reducible refine is_load ?_); refine a_load hO ?_; go_frame) | ((with_reducible refine is_load ?_); refine a_loadA hO ?_; go_frame) | ((with_reducible refine is_store ?_); refine a_store hO ?_; clear hO; intro w hO; go_frame) | ((with_reducible refine is_store ?_); refine a_storeA hO ?_; clear hO; intro w hO; go_frame) | ((with_reducible refine is_alloc ?_); refine a_alloc hO ?_; clear hO; intro w b_ hO; go_frame) | ((with_reducible refine is_box ?_); refine a_box hO ?_; clear hO; intro w b_ hO; go_frame) | ((with_reducible refine is_lit ?_); refine a_lit0 hO ?_; clear hO; intro w b_ hl_ hO; go_frame) | ((with_reducible refine is_lit ?_); refine a_lit1 hO ?_; clear hO; intro w b_ hl_ hO; go_frame) | ((with_reducible refine is_lit ?_); refine a_lit2 hO ?_; clear hO; intro w b_ hl_ hO; go_frame) | ((with_reducible refine is_lit ?_); refine a_lit3 hO ?_; clear hO; intro w b_ hl_ hO; go_frame))
    go_ret
    exact ⟨by rw [hv]; rfl, hO.drop.drop⟩
end Go.Proofs.Yteghmoijhcdpeaa
