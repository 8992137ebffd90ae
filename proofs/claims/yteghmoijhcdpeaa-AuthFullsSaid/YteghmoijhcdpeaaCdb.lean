import Derived.Test.YteghmoijhcdpeaaCda
set_option linter.unusedSimpArgs false
set_option linter.unusedVariables false
set_option maxRecDepth 100000
namespace Go.Proofs.Yteghmoijhcdpeaa
open Go.RowKit

/-- The function g asks A of a string. -/
structure Asks (g : Nat) (A : ByteArray → Bool) : Prop where
  enter : ∀ (args : Array Value) (w : World), (callFunc g args).run Try.prog w = .ok (.enter g args) w
  does : ∀ (s : ByteArray) (w : World), Calls Try.prog g #[.string s] w fun e w' => e = .returned (.bool (A s)) ∧ w = w'

def keyOk (s : ByteArray) : Bool := decide (0 < s.size) && decide (s.size ≤ 250)
def tagOk (s : ByteArray) : Bool := decide (0 < s.size) && decide (s.size ≤ 64)
def pfxOk (s : ByteArray) : Bool := decide (s.size ≤ 250)
def valOk (s : ByteArray) : Bool := decide (s.size ≤ 65536)

theorem Own.lt1 {w0 w : World} {C C' : List Chunk} {b : Nat} {o : Obj} (h : Own w0 w C) (p : Pick C [(b, o)] C') : b < w.heap.size := (Array.getElem?_eq_some_iff.1 (h.block1 p)).1
theorem Own.ltF {w0 w : World} {C C' : List Chunk} {F : Chunk} {p : Addr} {v : Value} (h : Own w0 w C) (hp : Pick C F C') (hc : FCell F p v) : p.block < w.heap.size := by
  obtain ⟨c, T, fr, hm, hs, hv⟩ := hc
  exact (Array.getElem?_eq_some_iff.1 (h.block hp hm)).1
theorem asks57 : Asks 57 keyOk := ⟨fun _ _ => by kernel_rfl, fun s w => by
  by_cases h : 0 < s.size
  · go_enter Try.func57, Try.ntmps57
    go_wp2
    go_ret
    exact ⟨by simp [keyOk, h]; omega, rfl⟩
  · go_enter Try.func57, Try.ntmps57
    go_wp2
    go_ret
    exact ⟨by simp [keyOk, h], rfl⟩⟩
theorem asks60 : Asks 60 tagOk := ⟨fun _ _ => by kernel_rfl, fun s w => by
  by_cases h : 0 < s.size
  · go_enter Try.func60, Try.ntmps60
    go_wp2
    go_ret
    exact ⟨by simp [tagOk, h]; omega, rfl⟩
  · go_enter Try.func60, Try.ntmps60
    go_wp2
    go_ret
    exact ⟨by simp [tagOk, h], rfl⟩⟩
theorem asks41 : Asks 41 pfxOk := ⟨fun _ _ => by kernel_rfl, fun s w => by
  go_enter Try.func41, Try.ntmps41
  go_wp2
  go_ret
  exact ⟨by simp [pfxOk]; omega, rfl⟩⟩
theorem asks73 : Asks 73 valOk := ⟨fun _ _ => by kernel_rfl, fun s w => by
  go_enter Try.func73, Try.ntmps73
  go_wp2
  go_ret
  exact ⟨by simp [valOk]; omega, rfl⟩⟩

set_option maxHeartbeats 2000000 in
theorem partW {w0 w : World} {C CY : List Chunk} {Y : Chunk} {x g : Nat} {A : ByteArray → Bool} {cv : Value} {l : List UInt8} {bad : Bool} {p : Addr} {s : ByteArray} (hg : Asks g A) (hs : WSt w0 x cv C l bad w) (hY : Pick C Y CY) (hp : FCell Y p (.string s)) (hsz : s.size ≤ 100000) (hl : l.length ≤ 1000000) :
    Calls Try.prog 56 #[.pointer (some ⟨x, 0, none⟩), .pointer (some p), .func (.func g) #[] #[]] w (Did (WSt w0 x cv C (l ++ putF 10 s.size ++ s.data.toList) (bad || !A s))) := by
  obtain ⟨Aa, cc, K, hr, hO⟩ := hs
  have hcp : w.cell? p = some (.string s) := hO.fcell (.there (.there hY)) hp
  have hpf := putF_len 10 s.size
  have he := hg.enter
  have hd := Lib.hid hg.does
  have Hp := Lib.hid hp
  have hsz2 : s.data.toList.length ≤ 100000 := by simpa using hsz
  clear hp
  go_enter Try.func56, Try.ntmps56
  go_wp2_with (first | ((with_reducible refine is_load ?_); refine a_load hO ?_; go_frame) | ((with_reducible refine is_load ?_); refine a_loadA hO ?_; go_frame) | ((with_reducible refine is_store ?_); refine a_store hO ?_; clear hO; intro w hO; go_frame) | ((with_reducible refine is_store ?_); refine a_storeA hO ?_; clear hO; intro w hO; go_frame) | ((with_reducible refine is_alloc ?_); refine a_alloc hO ?_; clear hO; intro w b_ hO; go_frame) | ((with_reducible refine is_box ?_); refine a_box hO ?_; clear hO; intro w b_ hO; go_frame) | ((with_reducible refine is_lit ?_); refine a_lit0 hO ?_; clear hO; intro w b_ hl_ hO; go_frame) | ((with_reducible refine is_lit ?_); refine a_lit1 hO ?_; clear hO; intro w b_ hl_ hO; go_frame) | ((with_reducible refine is_lit ?_); refine a_lit2 hO ?_; clear hO; intro w b_ hl_ hO; go_frame) | ((with_reducible refine is_lit ?_); refine a_lit3 hO ?_; clear hO; intro w b_ hl_ hO; go_frame))
  have f1 := hO.cells .here
  have hx := hO.lt1 .here
  have hpb := hO.ltF (.there (.there hY)) Hp.out
  have hcv := fun (w : World) => run_bytes_of_string (P := Try.prog) w 9 27 5 s Try.underlying9 Try.underlying27 Try.underlying5
  go_region_with (go_at_call 71; refine (putBytes_spec (X := K) (l := l) (m := s.data.toList) (hO.alloc _).drew.drew (.there (.there .here)) hr .here (rdB_bytes _ _ _ _ _ (grownCap_ge _ _ _ _)) (by omega) (by omega)).mono ?_; rintro e w ⟨A1, n1, c1, K1, rfl, hn1, hs1, hO⟩; have f1 := hO.cells (.there (.there .here)); have g1 := hO.free (.there (.there .here)); have Hn1 := Lib.hid hn1; clear hn1)
  all_goals
    have hO := hO.setCell (off := 2) (v := .slice A1 n1 c1) (.there (.there .here))
    clear f1 g1 hcp
    obtain ⟨w2, hw2⟩ : ∃ w2, w2 = w.setCell ⟨x, 2, none⟩ (.slice A1 n1 c1) := ⟨_, rfl⟩
    rw [← hw2] at hO ⊢
    clear hw2
    (try simp only [List.setIfInBounds_toArray, List.set_cons_succ, List.set_cons_zero, Value.cells] at hO)
    have hO := ((hO.dropAt (.there .here)).dropAt (.there (.there .here))).swap
    have hp := Hp.out
    cases bad
    · go_wp2_with (first | ((with_reducible refine is_load ?_); refine a_load hO ?_; go_frame) | ((with_reducible refine is_load ?_); refine a_loadA hO ?_; go_frame) | ((with_reducible refine is_store ?_); refine a_store hO ?_; clear hO; intro w hO; go_frame) | ((with_reducible refine is_store ?_); refine a_storeA hO ?_; clear hO; intro w hO; go_frame) | ((with_reducible refine is_alloc ?_); refine a_alloc hO ?_; clear hO; intro w b_ hO; go_frame) | ((with_reducible refine is_box ?_); refine a_box hO ?_; clear hO; intro w b_ hO; go_frame) | ((with_reducible refine is_lit ?_); refine a_lit0 hO ?_; clear hO; intro w b_ hl_ hO; go_frame) | ((with_reducible refine is_lit ?_); refine a_lit1 hO ?_; clear hO; intro w b_ hl_ hO; go_frame) | ((with_reducible refine is_lit ?_); refine a_lit2 hO ?_; clear hO; intro w b_ hl_ hO; go_frame) | ((with_reducible refine is_lit ?_); refine a_lit3 hO ?_; clear hO; intro w b_ hl_ hO; go_frame) | ((with_reducible apply st_loadF hO); rfl; rfl; rfl; infer_instance; assumption; (focus (repeat (first | exact Pick.here | assumption | apply Pick.there))); go_frame))
      refine (hd.out s _).mono ?_
      rintro e w ⟨rfl, rfl⟩
      go_wp2_with (first | ((with_reducible refine is_load ?_); refine a_load hO ?_; go_frame) | ((with_reducible refine is_load ?_); refine a_loadA hO ?_; go_frame) | ((with_reducible refine is_store ?_); refine a_store hO ?_; clear hO; intro w hO; go_frame) | ((with_reducible refine is_store ?_); refine a_storeA hO ?_; clear hO; intro w hO; go_frame) | ((with_reducible refine is_alloc ?_); refine a_alloc hO ?_; clear hO; intro w b_ hO; go_frame) | ((with_reducible refine is_box ?_); refine a_box hO ?_; clear hO; intro w b_ hO; go_frame) | ((with_reducible refine is_lit ?_); refine a_lit0 hO ?_; clear hO; intro w b_ hl_ hO; go_frame) | ((with_reducible refine is_lit ?_); refine a_lit1 hO ?_; clear hO; intro w b_ hl_ hO; go_frame) | ((with_reducible refine is_lit ?_); refine a_lit2 hO ?_; clear hO; intro w b_ hl_ hO; go_frame) | ((with_reducible refine is_lit ?_); refine a_lit3 hO ?_; clear hO; intro w b_ hl_ hO; go_frame) | ((with_reducible apply st_loadF hO); rfl; rfl; rfl; infer_instance; assumption; (focus (repeat (first | exact Pick.here | assumption | apply Pick.there))); go_frame))
      go_end0
      have hn := Hn1.out
      subst hn
      refine ⟨rfl, A1, c1, K1, ?_, by simpa using hO⟩
      simpa using hs1.rd
    · go_wp2_with (first | ((with_reducible refine is_load ?_); refine a_load hO ?_; go_frame) | ((with_reducible refine is_load ?_); refine a_loadA hO ?_; go_frame) | ((with_reducible refine is_store ?_); refine a_store hO ?_; clear hO; intro w hO; go_frame) | ((with_reducible refine is_store ?_); refine a_storeA hO ?_; clear hO; intro w hO; go_frame) | ((with_reducible refine is_alloc ?_); refine a_alloc hO ?_; clear hO; intro w b_ hO; go_frame) | ((with_reducible refine is_box ?_); refine a_box hO ?_; clear hO; intro w b_ hO; go_frame) | ((with_reducible refine is_lit ?_); refine a_lit0 hO ?_; clear hO; intro w b_ hl_ hO; go_frame) | ((with_reducible refine is_lit ?_); refine a_lit1 hO ?_; clear hO; intro w b_ hl_ hO; go_frame) | ((with_reducible refine is_lit ?_); refine a_lit2 hO ?_; clear hO; intro w b_ hl_ hO; go_frame) | ((with_reducible refine is_lit ?_); refine a_lit3 hO ?_; clear hO; intro w b_ hl_ hO; go_frame) | ((with_reducible apply st_loadF hO); rfl; rfl; rfl; infer_instance; assumption; (focus (repeat (first | exact Pick.here | assumption | apply Pick.there))); go_frame))
      go_end0
      have hn := Hn1.out
      subst hn
      refine ⟨rfl, A1, c1, K1, ?_, by simpa using hO⟩
      simpa using hs1.rd
end Go.Proofs.Yteghmoijhcdpeaa
