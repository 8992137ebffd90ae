/- The walks of package varint's readers. -/
import Derived.Test.YteghmoijhcdpeaaVar
import Derived.Maps.RangeWalk
set_option linter.unusedSimpArgs false
set_option linter.unusedVariables false
set_option maxRecDepth 100000
namespace Go.Proofs.Yteghmoijhcdpeaa
open Go.RowKit

/-- A reader at r over the bytes l. -/
def Rdr (r : Nat) (rest : Value) : Chunk := [(r, .cells #[.bool true, rest] 123 (0, 0))]
theorem left_spec {w0 w : World} {C : List Chunk} {X : Chunk} {r : Nat} {rest : Value} {l : List UInt8} (hO : Own w0 w (Rdr r rest :: X :: C)) (hr : RdB X rest l) :
    Calls Try.prog 64 #[.pointer (some ⟨r, 0, none⟩)] w fun e w' => e = .returned (.int .i64 l.length) ∧ w = w' := by
  obtain ⟨A, c, rfl, hc, HR⟩ := hr.split
  unfold Rdr at hO
  go_enter Try.func64, Try.ntmps64
  go_wp2_with (first | ((with_reducible refine is_load ?_); refine a_load hO ?_; go_frame) | ((with_reducible refine is_load ?_); refine a_loadA hO ?_; go_frame) | ((with_reducible refine is_store ?_); refine a_store hO ?_; clear hO; intro w hO; go_frame) | ((with_reducible refine is_store ?_); refine a_storeA hO ?_; clear hO; intro w hO; go_frame) | ((with_reducible refine is_alloc ?_); refine a_alloc hO ?_; clear hO; intro w b_ hO; go_frame) | ((with_reducible refine is_box ?_); refine a_box hO ?_; clear hO; intro w b_ hO; go_frame) | ((with_reducible refine is_lit ?_); refine a_lit0 hO ?_; clear hO; intro w b_ hl_ hO; go_frame) | ((with_reducible refine is_lit ?_); refine a_lit1 hO ?_; clear hO; intro w b_ hl_ hO; go_frame) | ((with_reducible refine is_lit ?_); refine a_lit2 hO ?_; clear hO; intro w b_ hl_ hO; go_frame) | ((with_reducible refine is_lit ?_); refine a_lit3 hO ?_; clear hO; intro w b_ hl_ hO; go_frame))
  go_ret
  exact ⟨rfl, rfl⟩
def NewR (w0 : World) (C : List Chunk) (l : List UInt8) (e : Ending) (w' : World) : Prop :=
  ∃ r rest X, e = .returned (.pointer (some ⟨r, 0, none⟩)) ∧ RdB X rest l ∧ Own w0 w' (Rdr r rest :: X :: C)
theorem new_spec {w0 w : World} {C CX : List Chunk} {X : Chunk} {v : Value} {l : List UInt8} (hO : Own w0 w C) (hX : Pick C X CX) (hr : RdB X v l) (hl : l.length ≤ 1073741824) :
    Calls Try.prog 63 #[v] w (NewR w0 C l) := by
  go_enter Try.func63, Try.ntmps63
  go_wp2_with (first | ((with_reducible refine is_load ?_); refine a_load hO ?_; go_frame) | ((with_reducible refine is_load ?_); refine a_loadA hO ?_; go_frame) | ((with_reducible refine is_store ?_); refine a_store hO ?_; clear hO; intro w hO; go_frame) | ((with_reducible refine is_store ?_); refine a_storeA hO ?_; clear hO; intro w hO; go_frame) | ((with_reducible refine is_alloc ?_); refine a_alloc hO ?_; clear hO; intro w b_ hO; go_frame) | ((with_reducible refine is_box ?_); refine a_box hO ?_; clear hO; intro w b_ hO; go_frame) | ((with_reducible refine is_lit ?_); refine a_lit0 hO ?_; clear hO; intro w b_ hl_ hO; go_frame) | ((with_reducible refine is_lit ?_); refine a_lit1 hO ?_; clear hO; intro w b_ hl_ hO; go_frame) | ((with_reducible refine is_lit ?_); refine a_lit2 hO ?_; clear hO; intro w b_ hl_ hO; go_frame) | ((with_reducible refine is_lit ?_); refine a_lit3 hO ?_; clear hO; intro w b_ hl_ hO; go_frame))
  go_at_call 76
  refine (clone76 hO hX hr (bys_one l) (by omega)).mono ?_
  rintro e w ⟨A1, cc, K1, rfl, hs1, hO⟩
  go_wp2_with (first | ((with_reducible refine is_load ?_); refine a_load hO ?_; go_frame) | ((with_reducible refine is_load ?_); refine a_loadA hO ?_; go_frame) | ((with_reducible refine is_store ?_); refine a_store hO ?_; clear hO; intro w hO; go_frame) | ((with_reducible refine is_store ?_); refine a_storeA hO ?_; clear hO; intro w hO; go_frame) | ((with_reducible refine is_alloc ?_); refine a_alloc hO ?_; clear hO; intro w b_ hO; go_frame) | ((with_reducible refine is_box ?_); refine a_box hO ?_; clear hO; intro w b_ hO; go_frame) | ((with_reducible refine is_lit ?_); refine a_lit0 hO ?_; clear hO; intro w b_ hl_ hO; go_frame) | ((with_reducible refine is_lit ?_); refine a_lit1 hO ?_; clear hO; intro w b_ hl_ hO; go_frame) | ((with_reducible refine is_lit ?_); refine a_lit2 hO ?_; clear hO; intro w b_ hl_ hO; go_frame) | ((with_reducible refine is_lit ?_); refine a_lit3 hO ?_; clear hO; intro w b_ hl_ hO; go_frame))
  go_ret
  exact ⟨_, _, K1, rfl, hs1.rd, hO⟩

/-- What a number's taking answers: the number, the error, what is left. -/
def numF (l : List UInt8) : Int × Int × List UInt8 := let g := getF l 0 0; if g.2.2 ≠ 0 then (0, g.2.2, l) else (g.1, 0, l.drop g.2.1.toNat)
def NumR (w0 : World) (C : List Chunk) (r : Nat) (X : Chunk) (q : Int × Int × List UInt8) (e : Ending) (w' : World) : Prop :=
  ∃ rest, e = .returned (.tuple #[.int .u64 q.1, .int .i64 q.2.1]) ∧ RdB X rest q.2.2 ∧ Own w0 w' (Rdr r rest :: X :: C)

theorem take91 {w0 w : World} {C : List Chunk} {X : Chunk} {r : Nat} {rest : Value} {l : List UInt8} (hO : Own w0 w (Rdr r rest :: X :: C)) (hr : RdB X rest l) (hl : l.length ≤ 1073741824) :
    Calls Try.prog 91 #[.pointer (some ⟨r, 0, none⟩), .func (.func 92) #[] #[]] w (NumR w0 C r X (numF l)) := by
  generalize hg : getF l 0 0 = g
  have hok := getF_ok l 0 0
  rw [hg] at hok
  obtain ⟨g1, g2, g3⟩ := g
  simp only [] at hok
  have HF : Hid (numF l = if g3 ≠ 0 then (0, g3, l) else (g1, 0, l.drop g2.toNat)) := by
    show numF l = _
    unfold numF
    rw [hg]
  have Hg := Lib.hid hg
  clear hg
  unfold Rdr at hO
  by_cases e3 : g3 = 0
  · subst e3
    obtain ⟨k1, k2, k3⟩ := hok rfl
    clear hok
    have HF : Hid (numF l = (g1, 0, l.drop g2.toNat)) := by
      show numF l = _
      rw [HF.out, if_neg (by simp)]
    go_enter Try.func91, Try.ntmps91
    go_wp2_with (first | ((with_reducible refine is_load ?_); refine a_load hO ?_; go_frame) | ((with_reducible refine is_load ?_); refine a_loadA hO ?_; go_frame) | ((with_reducible refine is_store ?_); refine a_store hO ?_; clear hO; intro w hO; go_frame) | ((with_reducible refine is_store ?_); refine a_storeA hO ?_; clear hO; intro w hO; go_frame) | ((with_reducible refine is_alloc ?_); refine a_alloc hO ?_; clear hO; intro w b_ hO; go_frame) | ((with_reducible refine is_box ?_); refine a_box hO ?_; clear hO; intro w b_ hO; go_frame) | ((with_reducible refine is_lit ?_); refine a_lit0 hO ?_; clear hO; intro w b_ hl_ hO; go_frame) | ((with_reducible refine is_lit ?_); refine a_lit1 hO ?_; clear hO; intro w b_ hl_ hO; go_frame) | ((with_reducible refine is_lit ?_); refine a_lit2 hO ?_; clear hO; intro w b_ hl_ hO; go_frame) | ((with_reducible refine is_lit ?_); refine a_lit3 hO ?_; clear hO; intro w b_ hl_ hO; go_frame))
    go_at_call 92
    refine (get_spec hO (.there .here) hr hl).mono ?_
    rw [Hg.out]
    rintro e w ⟨rfl, rfl⟩
    go_wp2_with (first | ((with_reducible refine is_load ?_); refine a_load hO ?_; go_frame) | ((with_reducible refine is_load ?_); refine a_loadA hO ?_; go_frame) | ((with_reducible refine is_store ?_); refine a_store hO ?_; clear hO; intro w hO; go_frame) | ((with_reducible refine is_store ?_); refine a_storeA hO ?_; clear hO; intro w hO; go_frame) | ((with_reducible refine is_alloc ?_); refine a_alloc hO ?_; clear hO; intro w b_ hO; go_frame) | ((with_reducible refine is_box ?_); refine a_box hO ?_; clear hO; intro w b_ hO; go_frame) | ((with_reducible refine is_lit ?_); refine a_lit0 hO ?_; clear hO; intro w b_ hl_ hO; go_frame) | ((with_reducible refine is_lit ?_); refine a_lit1 hO ?_; clear hO; intro w b_ hl_ hO; go_frame) | ((with_reducible refine is_lit ?_); refine a_lit2 hO ?_; clear hO; intro w b_ hl_ hO; go_frame) | ((with_reducible refine is_lit ?_); refine a_lit3 hO ?_; clear hO; intro w b_ hl_ hO; go_frame) | ((with_reducible apply st_subFrom); rfl; rfl; infer_instance; infer_instance; (simp only [Act.eval, Array.getD_eq_getD_getElem?, List.getElem?_toArray, List.getElem?_cons_succ, List.getElem?_cons_zero, Option.getD_some]; rfl); exact hr; (simp only [Act.eval, Array.getD_eq_getD_getElem?, List.getElem?_toArray, List.getElem?_cons_succ, List.getElem?_cons_zero, Option.getD_some]; rfl); omega; omega; intro A_ c_ hr_; go_frame))
    go_ret2
    refine ⟨_, by rw [HF.out]; rfl, ?_, hO⟩
    rw [HF.out]
    unfold RdB
    simpa [bys] using hr_
  · clear hok
    have HF : Hid (numF l = (0, g3, l)) := by
      show numF l = _
      rw [HF.out, if_pos e3]
    have e3' : (g3 == 0) = false := by simpa using e3
    go_enter Try.func91, Try.ntmps91
    go_wp2_with (first | ((with_reducible refine is_load ?_); refine a_load hO ?_; go_frame) | ((with_reducible refine is_load ?_); refine a_loadA hO ?_; go_frame) | ((with_reducible refine is_store ?_); refine a_store hO ?_; clear hO; intro w hO; go_frame) | ((with_reducible refine is_store ?_); refine a_storeA hO ?_; clear hO; intro w hO; go_frame) | ((with_reducible refine is_alloc ?_); refine a_alloc hO ?_; clear hO; intro w b_ hO; go_frame) | ((with_reducible refine is_box ?_); refine a_box hO ?_; clear hO; intro w b_ hO; go_frame) | ((with_reducible refine is_lit ?_); refine a_lit0 hO ?_; clear hO; intro w b_ hl_ hO; go_frame) | ((with_reducible refine is_lit ?_); refine a_lit1 hO ?_; clear hO; intro w b_ hl_ hO; go_frame) | ((with_reducible refine is_lit ?_); refine a_lit2 hO ?_; clear hO; intro w b_ hl_ hO; go_frame) | ((with_reducible refine is_lit ?_); refine a_lit3 hO ?_; clear hO; intro w b_ hl_ hO; go_frame))
    go_at_call 92
    refine (get_spec hO (.there .here) hr hl).mono ?_
    rw [Hg.out]
    rintro e w ⟨rfl, rfl⟩
    go_wp2_with (first | ((with_reducible refine is_load ?_); refine a_load hO ?_; go_frame) | ((with_reducible refine is_load ?_); refine a_loadA hO ?_; go_frame) | ((with_reducible refine is_store ?_); refine a_store hO ?_; clear hO; intro w hO; go_frame) | ((with_reducible refine is_store ?_); refine a_storeA hO ?_; clear hO; intro w hO; go_frame) | ((with_reducible refine is_alloc ?_); refine a_alloc hO ?_; clear hO; intro w b_ hO; go_frame) | ((with_reducible refine is_box ?_); refine a_box hO ?_; clear hO; intro w b_ hO; go_frame) | ((with_reducible refine is_lit ?_); refine a_lit0 hO ?_; clear hO; intro w b_ hl_ hO; go_frame) | ((with_reducible refine is_lit ?_); refine a_lit1 hO ?_; clear hO; intro w b_ hl_ hO; go_frame) | ((with_reducible refine is_lit ?_); refine a_lit2 hO ?_; clear hO; intro w b_ hl_ hO; go_frame) | ((with_reducible refine is_lit ?_); refine a_lit3 hO ?_; clear hO; intro w b_ hl_ hO; go_frame))
    go_ret2
    exact ⟨rest, by rw [HF.out]; rfl, by rw [HF.out]; exact hr, hO⟩
theorem number_spec {w0 w : World} {C : List Chunk} {X : Chunk} {r : Nat} {rest : Value} {l : List UInt8} (hO : Own w0 w (Rdr r rest :: X :: C)) (hr : RdB X rest l) (hl : l.length ≤ 1073741824) :
    Calls Try.prog 75 #[.pointer (some ⟨r, 0, none⟩)] w (NumR w0 C r X (numF l)) := by
  go_enter Try.func75, Try.ntmps75
  go_wp2_with (first | ((with_reducible refine is_load ?_); refine a_load hO ?_; go_frame) | ((with_reducible refine is_load ?_); refine a_loadA hO ?_; go_frame) | ((with_reducible refine is_store ?_); refine a_store hO ?_; clear hO; intro w hO; go_frame) | ((with_reducible refine is_store ?_); refine a_storeA hO ?_; clear hO; intro w hO; go_frame) | ((with_reducible refine is_alloc ?_); refine a_alloc hO ?_; clear hO; intro w b_ hO; go_frame) | ((with_reducible refine is_box ?_); refine a_box hO ?_; clear hO; intro w b_ hO; go_frame) | ((with_reducible refine is_lit ?_); refine a_lit0 hO ?_; clear hO; intro w b_ hl_ hO; go_frame) | ((with_reducible refine is_lit ?_); refine a_lit1 hO ?_; clear hO; intro w b_ hl_ hO; go_frame) | ((with_reducible refine is_lit ?_); refine a_lit2 hO ?_; clear hO; intro w b_ hl_ hO; go_frame) | ((with_reducible refine is_lit ?_); refine a_lit3 hO ?_; clear hO; intro w b_ hl_ hO; go_frame))
  go_at_call 91
  refine (take91 hO hr hl).mono ?_
  rintro e w ⟨rest', rfl, hr', hO⟩
  go_wp2_with (first | ((with_reducible refine is_load ?_); refine a_load hO ?_; go_frame) | ((with_reducible refine is_load ?_); refine a_loadA hO ?_; go_frame) | ((with_reducible refine is_store ?_); refine a_store hO ?_; clear hO; intro w hO; go_frame) | ((with_reducible refine is_store ?_); refine a_storeA hO ?_; clear hO; intro w hO; go_frame) | ((with_reducible refine is_alloc ?_); refine a_alloc hO ?_; clear hO; intro w b_ hO; go_frame) | ((with_reducible refine is_box ?_); refine a_box hO ?_; clear hO; intro w b_ hO; go_frame) | ((with_reducible refine is_lit ?_); refine a_lit0 hO ?_; clear hO; intro w b_ hl_ hO; go_frame) | ((with_reducible refine is_lit ?_); refine a_lit1 hO ?_; clear hO; intro w b_ hl_ hO; go_frame) | ((with_reducible refine is_lit ?_); refine a_lit2 hO ?_; clear hO; intro w b_ hl_ hO; go_frame) | ((with_reducible refine is_lit ?_); refine a_lit3 hO ?_; clear hO; intro w b_ hl_ hO; go_frame))
  go_ret2
  exact ⟨rest', rfl, hr', hO⟩

theorem bytes1_spec {w0 w : World} {C CX CB : List Chunk} {X : Chunk} {v : Value} {l : List UInt8} {b : Nat} (most : Int) (hO : Own w0 w C) (hX : Pick C X CX) (hr : RdB X v l) (hl : l.length ≤ 1073741824) (h0 : 0 ≤ most) (h1 : most ≤ 1073741824)
    (hB : Pick C [(b, .cells #[.int .i64 most] 3 (0, 0))] CB) :
    Calls Try.prog 89 #[v, .pointer (some ⟨b, 0, none⟩)] w (GbR w0 C (gbF l most)) := by
  go_enter Try.func89, Try.ntmps89
  go_wp2_with (first | ((with_reducible refine is_load ?_); refine a_load hO ?_; go_frame) | ((with_reducible refine is_load ?_); refine a_loadA hO ?_; go_frame) | ((with_reducible refine is_store ?_); refine a_store hO ?_; clear hO; intro w hO; go_frame) | ((with_reducible refine is_store ?_); refine a_storeA hO ?_; clear hO; intro w hO; go_frame) | ((with_reducible refine is_alloc ?_); refine a_alloc hO ?_; clear hO; intro w b_ hO; go_frame) | ((with_reducible refine is_box ?_); refine a_box hO ?_; clear hO; intro w b_ hO; go_frame) | ((with_reducible refine is_lit ?_); refine a_lit0 hO ?_; clear hO; intro w b_ hl_ hO; go_frame) | ((with_reducible refine is_lit ?_); refine a_lit1 hO ?_; clear hO; intro w b_ hl_ hO; go_frame) | ((with_reducible refine is_lit ?_); refine a_lit2 hO ?_; clear hO; intro w b_ hl_ hO; go_frame) | ((with_reducible refine is_lit ?_); refine a_lit3 hO ?_; clear hO; intro w b_ hl_ hO; go_frame))
  go_at_call 90
  refine (getBytes_spec most hO hX hr hl h0 h1).mono ?_
  rintro e w ⟨A1, cc, K1, rfl, hs1, hO⟩
  go_wp2_with (first | ((with_reducible refine is_load ?_); refine a_load hO ?_; go_frame) | ((with_reducible refine is_load ?_); refine a_loadA hO ?_; go_frame) | ((with_reducible refine is_store ?_); refine a_store hO ?_; clear hO; intro w hO; go_frame) | ((with_reducible refine is_store ?_); refine a_storeA hO ?_; clear hO; intro w hO; go_frame) | ((with_reducible refine is_alloc ?_); refine a_alloc hO ?_; clear hO; intro w b_ hO; go_frame) | ((with_reducible refine is_box ?_); refine a_box hO ?_; clear hO; intro w b_ hO; go_frame) | ((with_reducible refine is_lit ?_); refine a_lit0 hO ?_; clear hO; intro w b_ hl_ hO; go_frame) | ((with_reducible refine is_lit ?_); refine a_lit1 hO ?_; clear hO; intro w b_ hl_ hO; go_frame) | ((with_reducible refine is_lit ?_); refine a_lit2 hO ?_; clear hO; intro w b_ hl_ hO; go_frame) | ((with_reducible refine is_lit ?_); refine a_lit3 hO ?_; clear hO; intro w b_ hl_ hO; go_frame))
  go_ret3
  exact ⟨A1, cc, K1, rfl, hs1, hO⟩

theorem gbF_ok (l : List UInt8) (most : Int) : (gbF l most).2.2 = 0 → 0 ≤ (gbF l most).2.1 ∧ (gbF l most).2.1 ≤ l.length := by
  unfold gbF
  have hok := getF_ok l 0 0
  simp only []
  split
  · intro h; rename_i hc; exact absurd h hc
  · rename_i hc
    obtain ⟨k1, k2, k3⟩ := hok (by simpa using hc)
    split
    · simp
    · split
      · simp
      · intro _; simp at k2 k3 ⊢; omega
theorem gbF_err (l : List UInt8) (most : Int) : (gbF l most).2.2 ≠ 0 → (gbF l most).1 = [] := by
  unfold gbF
  simp only []
  split
  · simp
  · split
    · simp
    · split
      · simp
      · intro h; simp at h
/-- What taking bytes answers: the bytes, the error, what is left. -/
def bytF (l : List UInt8) (most : Int) : List UInt8 × Int × List UInt8 := let g := gbF l most; if g.2.2 ≠ 0 then ([], g.2.2, l) else (g.1, 0, l.drop g.2.1.toNat)
def BytR (w0 : World) (C : List Chunk) (r : Nat) (X : Chunk) (q : List UInt8 × Int × List UInt8) (e : Ending) (w' : World) : Prop :=
  ∃ A' c' K rest, e = .returned (.tuple #[.slice A' q.1.length c', .int .i64 q.2.1]) ∧ Sl 5 1 (.slice A' q.1.length c') q.1.length (bys q.1) K ∧ RdB X rest q.2.2 ∧ Own w0 w' (K :: Rdr r rest :: X :: C)
theorem take88 {w0 w : World} {C : List Chunk} {X : Chunk} {r b : Nat} {rest : Value} {l : List UInt8} (most : Int) (hO : Own w0 w (Rdr r rest :: X :: [(b, .cells #[.int .i64 most] 3 (0, 0))] :: C)) (hr : RdB X rest l) (hl : l.length ≤ 1073741824)
    (h0 : 0 ≤ most) (h1 : most ≤ 1073741824) :
    Calls Try.prog 88 #[.pointer (some ⟨r, 0, none⟩), .func (.func 89) #[] #[.pointer (some ⟨b, 0, none⟩)]] w (BytR w0 ([(b, .cells #[.int .i64 most] 3 (0, 0))] :: C) r X (bytF l most)) := by
  generalize hg : gbF l most = g
  have hok := gbF_ok l most
  have herr := gbF_err l most
  rw [hg] at hok herr
  obtain ⟨g1, g2, g3⟩ := g
  simp only [] at hok herr
  have HF : Hid (bytF l most = if g3 ≠ 0 then ([], g3, l) else (g1, 0, l.drop g2.toNat)) := by
    show bytF l most = _
    unfold bytF
    rw [hg]
  have Hg := Lib.hid hg
  clear hg
  unfold Rdr at hO
  by_cases e3 : g3 = 0
  · subst e3
    obtain ⟨k2, k3⟩ := hok rfl
    clear hok herr
    have HF : Hid (bytF l most = (g1, 0, l.drop g2.toNat)) := by
      show bytF l most = _
      rw [HF.out, if_neg (by simp)]
    go_enter Try.func88, Try.ntmps88
    go_wp2_with (first | ((with_reducible refine is_load ?_); refine a_load hO ?_; go_frame) | ((with_reducible refine is_load ?_); refine a_loadA hO ?_; go_frame) | ((with_reducible refine is_store ?_); refine a_store hO ?_; clear hO; intro w hO; go_frame) | ((with_reducible refine is_store ?_); refine a_storeA hO ?_; clear hO; intro w hO; go_frame) | ((with_reducible refine is_alloc ?_); refine a_alloc hO ?_; clear hO; intro w b_ hO; go_frame) | ((with_reducible refine is_box ?_); refine a_box hO ?_; clear hO; intro w b_ hO; go_frame) | ((with_reducible refine is_lit ?_); refine a_lit0 hO ?_; clear hO; intro w b_ hl_ hO; go_frame) | ((with_reducible refine is_lit ?_); refine a_lit1 hO ?_; clear hO; intro w b_ hl_ hO; go_frame) | ((with_reducible refine is_lit ?_); refine a_lit2 hO ?_; clear hO; intro w b_ hl_ hO; go_frame) | ((with_reducible refine is_lit ?_); refine a_lit3 hO ?_; clear hO; intro w b_ hl_ hO; go_frame))
    go_at_call 89
    refine (bytes1_spec most hO (.there .here) hr hl h0 h1 (.there (.there .here))).mono ?_
    rw [Hg.out]
    rintro e w ⟨A1, cc, K1, rfl, hs1, hO⟩
    go_wp2_with (first | ((with_reducible refine is_load ?_); refine a_load hO ?_; go_frame) | ((with_reducible refine is_load ?_); refine a_loadA hO ?_; go_frame) | ((with_reducible refine is_store ?_); refine a_store hO ?_; clear hO; intro w hO; go_frame) | ((with_reducible refine is_store ?_); refine a_storeA hO ?_; clear hO; intro w hO; go_frame) | ((with_reducible refine is_alloc ?_); refine a_alloc hO ?_; clear hO; intro w b_ hO; go_frame) | ((with_reducible refine is_box ?_); refine a_box hO ?_; clear hO; intro w b_ hO; go_frame) | ((with_reducible refine is_lit ?_); refine a_lit0 hO ?_; clear hO; intro w b_ hl_ hO; go_frame) | ((with_reducible refine is_lit ?_); refine a_lit1 hO ?_; clear hO; intro w b_ hl_ hO; go_frame) | ((with_reducible refine is_lit ?_); refine a_lit2 hO ?_; clear hO; intro w b_ hl_ hO; go_frame) | ((with_reducible refine is_lit ?_); refine a_lit3 hO ?_; clear hO; intro w b_ hl_ hO; go_frame) | ((with_reducible apply st_subFrom); rfl; rfl; infer_instance; infer_instance; (simp only [Act.eval, Array.getD_eq_getD_getElem?, List.getElem?_toArray, List.getElem?_cons_succ, List.getElem?_cons_zero, Option.getD_some]; rfl); exact hr; (simp only [Act.eval, Array.getD_eq_getD_getElem?, List.getElem?_toArray, List.getElem?_cons_succ, List.getElem?_cons_zero, Option.getD_some]; rfl); omega; omega; intro A_ c_ hr_; go_frame))
    go_ret2
    refine ⟨A1, cc, K1, _, by rw [HF.out]; rfl, by rw [HF.out]; exact hs1, ?_, hO⟩
    rw [HF.out]
    unfold RdB
    simpa [bys] using hr_
  · have hg1 := herr e3
    subst hg1
    clear hok herr
    have HF : Hid (bytF l most = ([], g3, l)) := by
      show bytF l most = _
      rw [HF.out, if_pos e3]
    have e3' : (g3 == 0) = false := by simpa using e3
    go_enter Try.func88, Try.ntmps88
    go_wp2_with (first | ((with_reducible refine is_load ?_); refine a_load hO ?_; go_frame) | ((with_reducible refine is_load ?_); refine a_loadA hO ?_; go_frame) | ((with_reducible refine is_store ?_); refine a_store hO ?_; clear hO; intro w hO; go_frame) | ((with_reducible refine is_store ?_); refine a_storeA hO ?_; clear hO; intro w hO; go_frame) | ((with_reducible refine is_alloc ?_); refine a_alloc hO ?_; clear hO; intro w b_ hO; go_frame) | ((with_reducible refine is_box ?_); refine a_box hO ?_; clear hO; intro w b_ hO; go_frame) | ((with_reducible refine is_lit ?_); refine a_lit0 hO ?_; clear hO; intro w b_ hl_ hO; go_frame) | ((with_reducible refine is_lit ?_); refine a_lit1 hO ?_; clear hO; intro w b_ hl_ hO; go_frame) | ((with_reducible refine is_lit ?_); refine a_lit2 hO ?_; clear hO; intro w b_ hl_ hO; go_frame) | ((with_reducible refine is_lit ?_); refine a_lit3 hO ?_; clear hO; intro w b_ hl_ hO; go_frame))
    go_at_call 89
    refine (bytes1_spec most hO (.there .here) hr hl h0 h1 (.there (.there .here))).mono ?_
    rw [Hg.out]
    rintro e w ⟨A1, cc, K1, rfl, hs1, hO⟩
    go_wp2_with (first | ((with_reducible refine is_load ?_); refine a_load hO ?_; go_frame) | ((with_reducible refine is_load ?_); refine a_loadA hO ?_; go_frame) | ((with_reducible refine is_store ?_); refine a_store hO ?_; clear hO; intro w hO; go_frame) | ((with_reducible refine is_store ?_); refine a_storeA hO ?_; clear hO; intro w hO; go_frame) | ((with_reducible refine is_alloc ?_); refine a_alloc hO ?_; clear hO; intro w b_ hO; go_frame) | ((with_reducible refine is_box ?_); refine a_box hO ?_; clear hO; intro w b_ hO; go_frame) | ((with_reducible refine is_lit ?_); refine a_lit0 hO ?_; clear hO; intro w b_ hl_ hO; go_frame) | ((with_reducible refine is_lit ?_); refine a_lit1 hO ?_; clear hO; intro w b_ hl_ hO; go_frame) | ((with_reducible refine is_lit ?_); refine a_lit2 hO ?_; clear hO; intro w b_ hl_ hO; go_frame) | ((with_reducible refine is_lit ?_); refine a_lit3 hO ?_; clear hO; intro w b_ hl_ hO; go_frame))
    go_ret2
    exact ⟨none, 0, [], rest, by rw [HF.out]; rfl, by rw [HF.out]; exact Sl.none_ _ _, by rw [HF.out]; exact hr, hO.drop.none_⟩
theorem bytes_spec {w0 w : World} {C : List Chunk} {X : Chunk} {r : Nat} {rest : Value} {l : List UInt8} (most : Int) (hO : Own w0 w (Rdr r rest :: X :: C)) (hr : RdB X rest l) (hl : l.length ≤ 1073741824) (h0 : 0 ≤ most) (h1 : most ≤ 1073741824) :
    Calls Try.prog 72 #[.pointer (some ⟨r, 0, none⟩), .int .i64 most] w (BytR w0 C r X (bytF l most)) := by
  go_enter Try.func72, Try.ntmps72
  go_wp2_with (first | ((with_reducible refine is_load ?_); refine a_load hO ?_; go_frame) | ((with_reducible refine is_load ?_); refine a_loadA hO ?_; go_frame) | ((with_reducible refine is_store ?_); refine a_store hO ?_; clear hO; intro w hO; go_frame) | ((with_reducible refine is_store ?_); refine a_storeA hO ?_; clear hO; intro w hO; go_frame) | ((with_reducible refine is_alloc ?_); refine a_alloc hO ?_; clear hO; intro w b_ hO; go_frame) | ((with_reducible refine is_box ?_); refine a_box hO ?_; clear hO; intro w b_ hO; go_frame) | ((with_reducible refine is_lit ?_); refine a_lit0 hO ?_; clear hO; intro w b_ hl_ hO; go_frame) | ((with_reducible refine is_lit ?_); refine a_lit1 hO ?_; clear hO; intro w b_ hl_ hO; go_frame) | ((with_reducible refine is_lit ?_); refine a_lit2 hO ?_; clear hO; intro w b_ hl_ hO; go_frame) | ((with_reducible refine is_lit ?_); refine a_lit3 hO ?_; clear hO; intro w b_ hl_ hO; go_frame))
  go_at_call 88
  refine (take88 most ((hO.pick (.there .here)).pick (.there (.there .here))).swap.swap.swap hr hl h0 h1).mono ?_
  rintro e w ⟨A1, cc, K1, rest', rfl, hs1, hr', hO⟩
  go_wp2_with (first | ((with_reducible refine is_load ?_); refine a_load hO ?_; go_frame) | ((with_reducible refine is_load ?_); refine a_loadA hO ?_; go_frame) | ((with_reducible refine is_store ?_); refine a_store hO ?_; clear hO; intro w hO; go_frame) | ((with_reducible refine is_store ?_); refine a_storeA hO ?_; clear hO; intro w hO; go_frame) | ((with_reducible refine is_alloc ?_); refine a_alloc hO ?_; clear hO; intro w b_ hO; go_frame) | ((with_reducible refine is_box ?_); refine a_box hO ?_; clear hO; intro w b_ hO; go_frame) | ((with_reducible refine is_lit ?_); refine a_lit0 hO ?_; clear hO; intro w b_ hl_ hO; go_frame) | ((with_reducible refine is_lit ?_); refine a_lit1 hO ?_; clear hO; intro w b_ hl_ hO; go_frame) | ((with_reducible refine is_lit ?_); refine a_lit2 hO ?_; clear hO; intro w b_ hl_ hO; go_frame) | ((with_reducible refine is_lit ?_); refine a_lit3 hO ?_; clear hO; intro w b_ hl_ hO; go_frame))
  go_ret2
  exact ⟨A1, cc, K1, rest', rfl, hs1, hr', hO.dropAt (.there (.there (.there .here)))⟩
end Go.Proofs.Yteghmoijhcdpeaa
