/- What the examples of the chapter answer ('known'). -/
import Derived.Test.YteghmoijhcdpeaaAva
set_option linter.unusedSimpArgs false
set_option linter.unusedVariables false
set_option maxRecDepth 100000
namespace Go.Proofs.Yteghmoijhcdpeaa
open Go.RowKit

theorem sp16 {X M R : Chunk} {r now : Nat} {T : Tk} {tok : ByteArray} {cs : Array Value} {q : Cmd} (hR : RingC r T M R) (hT : TkOk T) (hq : CmdV X cs q) (hL : Lite q) :
    Spec Try.prog 16 [.pointer (some ⟨r, 0, none⟩), .int .u64 (now : Int), .string tok, .agg cs] [R, M, X] fun v B => v = .int .i64 (checkF T now tok q) ∧ B = [R, M, X] :=
  .of fun hO => (check16 (C := X :: _) hO hR hT .here hq hL).mono fun _ _ ⟨h1, h2⟩ => ⟨_, [R, M, X], h1, ⟨rfl, rfl⟩, h2⟩
theorem sp10 {X : Chunk} {cs : Array Value} {q : Cmd} (hq : CmdV X cs q) (hL : Lite q) :
    Spec Try.prog 10 [.agg cs] [X] fun v B => ∃ A n c K, v = .tuple #[.slice A n c, .int .i64 (if validF q then 0 else 2)] ∧ Sl 9 1 (.slice A n c) n (strs (if validF q then namesF q else [])) K ∧ n = (if validF q then namesF q else []).length ∧ B = [K, X] :=
  .of fun hO => (names10 (C := X :: _) hO .here hq hL).mono fun _ _ ⟨A, n, c, K, h1, h2, h3, h4⟩ => ⟨_, [K, X], h1, ⟨A, n, c, K, rfl, h3, h4, rfl⟩, h2⟩
theorem sp24 (s : ByteArray) : Spec Try.prog 24 [.string s] [] fun v B => v = .agg #[.int .i64 4, .string s, .slice none 0 0, .slice none 0 0, .slice none 0 0, .int .u64 0, .int .u64 0, .string ByteArray.empty, .string ByteArray.empty, .string ByteArray.empty] ∧ B = [] :=
  .of fun hO => (get24 hO).mono fun _ _ ⟨h1, h2⟩ => ⟨_, [], h1, ⟨rfl, rfl⟩, h2⟩
theorem sp14 {X Y : Chunk} {va vb : Value} {a b : List ByteArray} (ha : RdS X va a) (hb : RdS Y vb b) (hn : a.length ≤ 1000) : Spec Try.prog 14 [va, vb] [X, Y] fun v B => v = .bool (decide (a = b)) ∧ B = [X, Y] :=
  .of fun hO => (same14 (C := X :: Y :: _) hO .here (.there .here) ha hb hn).mono fun _ _ ⟨h1, h2⟩ => ⟨_, [X, Y], h1, ⟨rfl, rfl⟩, h2⟩

theorem sp14x {X : Chunk} {va vb : Value} {a b : List ByteArray} (ha : RdS X va a) (hb : RdS X vb b) (hn : a.length ≤ 1000) : Spec Try.prog 14 [va, vb] [X] fun v B => v = .bool (decide (a = b)) ∧ B = [X] :=
  .of fun hO => (same14 (C := X :: _) hO .here .here ha hb hn).mono fun _ _ ⟨h1, h2⟩ => ⟨_, [X], h1, ⟨rfl, rfl⟩, h2⟩
/-- The ring after a revocation, and what is returned. -/
def revokeF (T : Tk) (tok : ByteArray) : Tk × Int := if hasK T tok then (delK T tok, 0) else (T, 9)
theorem revoke17 {M R : Chunk} {r : Nat} {T : Tk} {tok : ByteArray} (hR : RingC r T M R) :
    Spec Try.prog 17 [.pointer (some ⟨r, 0, none⟩), .string tok] [R, M] fun v B => ∃ R', v = .int .i64 (revokeF T tok).2 ∧ RingC r (revokeF T tok).1 M R' ∧ B = [R', M] := by
  refine Spec.enter Try.func17 rfl Try.ntmps17 rfl fun w0 C => ?_
  obtain ⟨mv, R', A, c, rfl, hn0, hn1, hrd, hrun⟩ := hR.split tok
  repeat refine Wst (k := ?_)
  refine W.lookup rfl rfl (fun w hO => (hrun _ _ _ hO.one).1 true) (k' := ?_)
  repeat refine Wst (k := ?_)
  refine W.cond rfl (fun h => ?_) (fun h => ?_)
  · repeat refine Wst (k := ?_)
    have e : revokeF T tok = (T, 9) := by unfold revokeF; rw [h]; rfl
    exact W.ret (B := [_, M]) ⟨_, by rw [e], by rw [e]; exact hR, rfl⟩
  have e : revokeF T tok = (delK T tok, 0) := by unfold revokeF; rw [h]; rfl
  cases mv with
  | none => obtain ⟨_, rfl⟩ := hn0 rfl; cases h
  | some m =>
    obtain ⟨es, ck, rfl, he⟩ := hn1 m rfl
    obtain ⟨es', ck', he', hrunD⟩ := del_det (ck := ck) he tok
    repeat refine Wst (k := ?_)
    refine W.delete rfl rfl (fun w hO => ⟨_, hrunD w m _ hO.obj, hO.setMap⟩) ?_
    repeat refine Wst (k := ?_)
    exact W.ret (B := [[(r, .cells #[.map (some m)] 44 (0, 0)), (m, .map es' ck')], M]) ⟨_, by rw [e], by rw [e]; exact .inr ⟨m, es', ck', rfl, he'⟩, rfl⟩

def tk1 : ByteArray := ⟨#[115, 101, 99, 114, 101, 116, 45, 49]⟩
def tk2 : ByteArray := ⟨#[115, 101, 99, 114, 101, 116, 45, 50]⟩
def tk3 : ByteArray := ⟨#[115, 101, 99, 114, 101, 116, 45, 51]⟩
def rt1 : List Rt := [⟨[4, 1], ⟨#[97, 47]⟩, 18446744073709551615⟩]
def rt2 : List Rt := [⟨[4], ByteArray.empty, 10⟩, ⟨[8, 11], ByteArray.empty, 18446744073709551615⟩]
def ring1 : Tk := [(tk1, rt1)]
def ring2 : Tk := [(tk1, rt1), (tk2, rt2)]
theorem grant_1 : grantF [] tk1 rt1 = (ring1, 0) := by kernel_rfl
theorem grant_2 : grantF ring1 tk2 rt2 = (ring2, 0) := by kernel_rfl
theorem rd_new {T size n b : Nat} {l : List Value} (h : l.length = n * size) : Rd [(b, .cells ⟨l⟩ T (0, 0))] size (.slice (some ⟨b, 0, none⟩) n n) n l :=
  ⟨_, _, rfl, Nat.le_refl _, h, fun _ => ⟨b, 0, rfl, fun j u hu => ⟨⟨l⟩, T, (0, 0), by simp, rfl, by simpa using hu⟩⟩⟩

theorem short_1 : ∀ x ∈ rt1, Short x := by intro x hx; simp [rt1] at hx; subst hx; exact ⟨by simp, by decide⟩
theorem short_2 : ∀ x ∈ rt2, Short x := by intro x hx; simp [rt2] at hx; rcases hx with rfl | rfl <;> exact ⟨by simp, by decide⟩
theorem tk_1 : TkOk ring1 := by intro p hp; simp [ring1] at hp; subst hp; exact ⟨by decide, short_1⟩
theorem tk_2 : TkOk ring2 := by intro p hp; simp [ring2] at hp; rcases hp with rfl | rfl; exact ⟨by decide, short_1⟩; exact ⟨by decide, short_2⟩
theorem tk_0 : TkOk [] := by intro p hp; cases hp
theorem grants {L M R : Chunk} {r : Nat} {T T' : Tk} {tok : ByteArray} {v : Value} {l : List Rt} {z : Int} (h : grantF T tok l = (T', z)) (hR : RingC r T M R) (hT : TkOk T) (hv : RdR L L v l) (hl : ∀ x ∈ l, Short x) (hn : l.length ≤ 1000) (htk : tok.size ≤ 1000) :
    Spec Try.prog 15 [.pointer (some ⟨r, 0, none⟩), .string tok, v] [R, M, L] fun v B => ∃ R' M', v = .int .i64 z ∧ RingC r T' M' R' ∧ B = [R', M', L] := by
  have := grant15 hR hT hv hl hn htk
  rw [h] at this
  exact this
theorem revokes {M R : Chunk} {r : Nat} {T T' : Tk} {tok : ByteArray} {z : Int} (h : revokeF T tok = (T', z)) (hR : RingC r T M R) : Spec Try.prog 17 [.pointer (some ⟨r, 0, none⟩), .string tok] [R, M] fun v B => ∃ R', v = .int .i64 z ∧ RingC r T' M R' ∧ B = [R', M] := by
  have := revoke17 (tok := tok) hR
  rw [h] at this
  exact this
theorem checks {X M R : Chunk} {r : Nat} {T : Tk} {cs : Array Value} (now : Nat) (tok : ByteArray) (q : Cmd) (z : Int) (h : checkF T now tok q = z) (hR : RingC r T M R) (hT : TkOk T) (hq : CmdV X cs q) (hL : Lite q) :
    Spec Try.prog 16 [.pointer (some ⟨r, 0, none⟩), .int .u64 (now : Int), .string tok, .agg cs] [R, M, X] fun v B => v = .int .i64 z ∧ B = [R, M, X] := h ▸ sp16 hR hT hq hL
theorem cmd0 (q : Cmd) (h1 : q.keys = []) (h2 : q.value = []) (h3 : q.tags = []) : CmdV [] #[.int .i64 q.op, .string q.key, .slice none 0 0, .slice none 0 0, .slice none 0 0, .int .u64 q.life, .int .u64 q.version, .string q.tag, .string q.pfx, .string q.child] q :=
  ⟨_, _, _, rfl, by rw [h1]; exact Rd.none_ _ _, by rw [h2]; exact Rd.none_ _ _, by rw [h3]; exact Rd.none_ _ _⟩
def cmdK (op : Int) (key child tag : ByteArray) : Cmd := { baseC op with key := key, child := child, tag := tag }
def lite_ (q : Cmd) : Bool := q.keys.length ≤ 20 && q.keys.all (·.size ≤ 300) && q.value.length ≤ 300 && q.tags.length ≤ 20 && q.tags.all (·.size ≤ 300) && q.tag.size ≤ 300 && q.pfx.size ≤ 300 && q.child.size ≤ 300 && q.life ≤ 18446744073709551615 && q.version ≤ 18446744073709551615 && q.key.size ≤ 300
theorem Lite.of {q : Cmd} (h : lite_ q = true) : Lite q := by
  simp only [lite_, Bool.and_eq_true, decide_eq_true_eq, List.all_eq_true] at h
  obtain ⟨⟨⟨⟨⟨⟨⟨⟨⟨⟨h1, h2⟩, h3⟩, h4⟩, h5⟩, h6⟩, h7⟩, h8⟩, h9⟩, h10⟩, h11⟩ := h
  exact ⟨h11, h1, h2, h3, h4, h5, h6, h7, h8, by omega, by omega⟩
theorem named {X : Chunk} {cs : Array Value} (q : Cmd) (z : Int) (ns : List ByteArray) (h : (if validF q then (0 : Int) else 2) = z) (hn : (if validF q then namesF q else []) = ns) (hq : CmdV X cs q) (hL : Lite q) :
    Spec Try.prog 10 [.agg cs] [X] fun v B => ∃ A c K, v = .tuple #[.slice A ns.length c, .int .i64 z] ∧ RdS K (.slice A ns.length c) ns ∧ B = [K, X] := by
  have h1 := sp10 hq hL
  rw [h, hn] at h1
  intro w0 w C hO
  exact (h1 w0 w C hO).mono fun _ _ ⟨v, B, e1, ⟨A, n, c, K, e2, e3, e4, e5⟩, e6⟩ => ⟨v, B, e1, ⟨A, c, K, by rw [e2, e4], by subst e4; have := e3.rd; exact this, e5⟩, e6⟩
theorem rd_in {X : Chunk} {T size n b : Nat} (l : List Value) (hm : (b, Obj.cells ⟨l⟩ T (0, 0)) ∈ X) (h : l.length = n * size) : Rd X size (.slice (some ⟨b, 0, none⟩) n n) n l :=
  ⟨_, _, rfl, Nat.le_refl _, h, fun _ => ⟨b, 0, rfl, fun j u hu => ⟨⟨l⟩, T, (0, 0), hm, rfl, by simpa using hu⟩⟩⟩
def mem1 (b1 b2 : Nat) : Chunk := [(b1, .cells ⟨[.int .i64 4, .int .i64 1]⟩ 25 (0, 0)), (b2, .cells ⟨[.slice (some ⟨b1, 0, none⟩) 2 2, .string ⟨#[97, 47]⟩, .int .u64 18446744073709551615]⟩ 50 (0, 0))]
theorem mem1_rd (b1 b2 : Nat) : RdR (mem1 b1 b2) (mem1 b1 b2) (.slice (some ⟨b2, 0, none⟩) 1 1) rt1 :=
  ⟨_, rd_in _ (List.mem_cons_of_mem _ List.mem_cons_self) rfl, rd_in _ List.mem_cons_self rfl, rfl, rfl, trivial⟩
def mem2 (b1 b2 b3 : Nat) : Chunk := [(b1, .cells ⟨[.int .i64 4]⟩ 25 (0, 0)), (b2, .cells ⟨[.int .i64 8, .int .i64 11]⟩ 25 (0, 0)), (b3, .cells ⟨[.slice (some ⟨b1, 0, none⟩) 1 1, .string ByteArray.empty, .int .u64 10, .slice (some ⟨b2, 0, none⟩) 2 2, .string ByteArray.empty, .int .u64 18446744073709551615]⟩ 50 (0, 0))]
theorem mem2_rd (b1 b2 b3 : Nat) : RdR (mem2 b1 b2 b3) (mem2 b1 b2 b3) (.slice (some ⟨b3, 0, none⟩) 2 2) rt2 :=
  ⟨_, rd_in _ (List.mem_cons_of_mem _ (List.mem_cons_of_mem _ List.mem_cons_self)) rfl, rd_in _ List.mem_cons_self rfl, rfl, rfl, rd_in _ (List.mem_cons_of_mem _ List.mem_cons_self) rfl, rfl, rfl, trivial⟩
set_option maxHeartbeats 2000000 in
theorem known9 : Spec Try.prog 9 [] [] fun v B => v = .bool true ∧ B = [] := by
  refine Spec.enter Try.func9 rfl Try.ntmps9 rfl fun w0 C => ?_
  repeat refine Wst (k := ?_)
  intro r
  repeat refine Wst (k := ?_)
  intro b1
  repeat refine Wst (k := ?_)
  intro b2
  repeat refine Wst (k := ?_)
  refine W.call (grants (L := [(b1, _), (b2, _)]) (M := []) grant_1 (.inl ⟨rfl, rfl⟩) tk_0 (mem1_rd b1 b2) short_1 (by decide) (by decide)) ?_
  rintro _ _ ⟨R1, M1, rfl, hR1, rfl⟩
  repeat refine Wst (k := ?_)
  intro b3
  repeat refine Wst (k := ?_)
  intro b4
  repeat refine Wst (k := ?_)
  intro b5
  repeat refine Wst (k := ?_)
  refine W.call (grants (L := [(b3, _), (b4, _), (b5, _)]) grant_2 hR1 tk_1 (mem2_rd b3 b4 b5) short_2 (by decide) (by decide)) ?_
  rintro _ _ ⟨R2, M2, rfl, hR, rfl⟩
  clear R1 M1 hR1
  repeat' (first | refine Wst (k := ?_) | (refine W.call (sp24 _) ?_; rintro _ _ ⟨rfl, rfl⟩))
  refine W.call (checks (X := []) 5 tk1 (cmdK 4 ⟨#[97, 47, 120]⟩ ByteArray.empty ByteArray.empty) 0 (by kernel_rfl) hR tk_2 (cmd0 _ rfl rfl rfl) (.of (by kernel_rfl))) ?_
  rintro _ _ ⟨rfl, rfl⟩
  repeat' (first | refine Wst (k := ?_) | (refine W.call (sp24 _) ?_; rintro _ _ ⟨rfl, rfl⟩))
  refine W.call (checks (X := []) 5 tk1 (cmdK 4 ⟨#[98]⟩ ByteArray.empty ByteArray.empty) 15 (by kernel_rfl) hR tk_2 (cmd0 _ rfl rfl rfl) (.of (by kernel_rfl))) ?_
  rintro _ _ ⟨rfl, rfl⟩
  repeat' (first | refine Wst (k := ?_) | (refine W.call (sp24 _) ?_; rintro _ _ ⟨rfl, rfl⟩))
  refine W.call (checks (X := []) 5 tk1 (cmdK 7 ⟨#[97, 47, 120]⟩ ByteArray.empty ByteArray.empty) 15 (by kernel_rfl) hR tk_2 (cmd0 _ rfl rfl rfl) (.of (by kernel_rfl))) ?_
  rintro _ _ ⟨rfl, rfl⟩
  repeat' (first | refine Wst (k := ?_) | (refine W.call (sp24 _) ?_; rintro _ _ ⟨rfl, rfl⟩))
  intro b6
  repeat' (first | refine Wst (k := ?_) | (refine W.call (sp24 _) ?_; rintro _ _ ⟨rfl, rfl⟩))
  refine W.call (checks (X := [(b6, .cells ⟨[.string ⟨#[97, 47, 120]⟩, .string ⟨#[98]⟩]⟩ 9 (0, 0))]) 5 tk1 { baseC 5 with keys := [⟨#[97, 47, 120]⟩, ⟨#[98]⟩] } 15 (by kernel_rfl) hR tk_2 ⟨_, _, _, rfl, rd_in [.string ⟨#[97, 47, 120]⟩, .string ⟨#[98]⟩] List.mem_cons_self rfl, Rd.none_ _ _, Rd.none_ _ _⟩ (.of (by kernel_rfl))) ?_
  rintro _ _ ⟨rfl, rfl⟩
  repeat' (first | refine Wst (k := ?_) | (refine W.call (sp24 _) ?_; rintro _ _ ⟨rfl, rfl⟩))
  refine W.call (checks (X := []) 9 tk2 (cmdK 4 ⟨#[98]⟩ ByteArray.empty ByteArray.empty) 0 (by kernel_rfl) hR tk_2 (cmd0 _ rfl rfl rfl) (.of (by kernel_rfl))) ?_
  rintro _ _ ⟨rfl, rfl⟩
  repeat' (first | refine Wst (k := ?_) | (refine W.call (sp24 _) ?_; rintro _ _ ⟨rfl, rfl⟩))
  refine W.call (checks (X := []) 10 tk2 (cmdK 4 ⟨#[98]⟩ ByteArray.empty ByteArray.empty) 15 (by kernel_rfl) hR tk_2 (cmd0 _ rfl rfl rfl) (.of (by kernel_rfl))) ?_
  rintro _ _ ⟨rfl, rfl⟩
  repeat' (first | refine Wst (k := ?_) | (refine W.call (sp24 _) ?_; rintro _ _ ⟨rfl, rfl⟩))
  refine W.call (checks (X := []) 99 tk2 (cmdK 8 ByteArray.empty ByteArray.empty ⟨#[116]⟩) 0 (by kernel_rfl) hR tk_2 (cmd0 _ rfl rfl rfl) (.of (by kernel_rfl))) ?_
  rintro _ _ ⟨rfl, rfl⟩
  repeat' (first | refine Wst (k := ?_) | (refine W.call (sp24 _) ?_; rintro _ _ ⟨rfl, rfl⟩))
  refine W.call (checks (X := []) 99 tk2 (cmdK 11 ⟨#[97]⟩ ⟨#[98]⟩ ByteArray.empty) 0 (by kernel_rfl) hR tk_2 (cmd0 _ rfl rfl rfl) (.of (by kernel_rfl))) ?_
  rintro _ _ ⟨rfl, rfl⟩
  repeat' (first | refine Wst (k := ?_) | (refine W.call (sp24 _) ?_; rintro _ _ ⟨rfl, rfl⟩))
  refine W.call (checks (X := []) 99 tk2 (cmdK 14 ByteArray.empty ByteArray.empty ByteArray.empty) 15 (by kernel_rfl) hR tk_2 (cmd0 _ rfl rfl rfl) (.of (by kernel_rfl))) ?_
  rintro _ _ ⟨rfl, rfl⟩
  repeat' (first | refine Wst (k := ?_) | (refine W.call (sp24 _) ?_; rintro _ _ ⟨rfl, rfl⟩))
  refine W.call (checks (X := []) 99 tk3 (cmdK 4 ⟨#[97, 47, 120]⟩ ByteArray.empty ByteArray.empty) 15 (by kernel_rfl) hR tk_2 (cmd0 _ rfl rfl rfl) (.of (by kernel_rfl))) ?_
  rintro _ _ ⟨rfl, rfl⟩
  repeat' (first | refine Wst (k := ?_) | (refine W.call (sp24 _) ?_; rintro _ _ ⟨rfl, rfl⟩))
  intro b7
  repeat' (first | refine Wst (k := ?_) | (refine W.call (sp24 _) ?_; rintro _ _ ⟨rfl, rfl⟩))
  refine W.call (named (X := [(b7, .cells ⟨[.string ⟨#[97]⟩, .string ⟨#[98]⟩]⟩ 9 (0, 0))]) { baseC 5 with keys := [⟨#[97]⟩, ⟨#[98]⟩] } 0 [⟨#[97]⟩, ⟨#[98]⟩] (by kernel_rfl) (by kernel_rfl) ⟨_, _, _, rfl, rd_in [.string ⟨#[97]⟩, .string ⟨#[98]⟩] List.mem_cons_self rfl, Rd.none_ _ _, Rd.none_ _ _⟩ (.of (by kernel_rfl))) ?_
  rintro _ _ ⟨A1, c1, K1, rfl, hr1, rfl⟩
  repeat' (first | refine Wst (k := ?_) | (refine W.call (sp24 _) ?_; rintro _ _ ⟨rfl, rfl⟩))
  refine W.call (named (X := []) (baseC 14) 0 [ByteArray.empty] (by kernel_rfl) (by kernel_rfl) (cmd0 _ rfl rfl rfl) (.of (by kernel_rfl))) ?_
  rintro _ _ ⟨A2, c2, K2, rfl, hr2, rfl⟩
  repeat' (first | refine Wst (k := ?_) | (refine W.call (sp24 _) ?_; rintro _ _ ⟨rfl, rfl⟩))
  refine W.call (named (X := []) (baseC 0) 2 [] (by kernel_rfl) (by kernel_rfl) (cmd0 _ rfl rfl rfl) (.of (by kernel_rfl))) ?_
  rintro _ _ ⟨A3, c3, K3, rfl, hr3, rfl⟩
  repeat' (first | refine Wst (k := ?_) | (refine W.call (sp24 _) ?_; rintro _ _ ⟨rfl, rfl⟩))
  intro b8
  repeat' (first | refine Wst (k := ?_) | (refine W.call (sp24 _) ?_; rintro _ _ ⟨rfl, rfl⟩))
  refine W.call (sp14 hr1 (Y := [(b8, .cells ⟨[.string ⟨#[97]⟩, .string ⟨#[98]⟩]⟩ 9 (0, 0))]) (b := [⟨#[97]⟩, ⟨#[98]⟩]) (rd_in [.string ⟨#[97]⟩, .string ⟨#[98]⟩] List.mem_cons_self rfl) (by decide)) ?_
  rintro _ _ ⟨rfl, rfl⟩
  repeat' (first | refine Wst (k := ?_) | (refine W.call (sp24 _) ?_; rintro _ _ ⟨rfl, rfl⟩))
  intro b9
  repeat' (first | refine Wst (k := ?_) | (refine W.call (sp24 _) ?_; rintro _ _ ⟨rfl, rfl⟩))
  refine W.call (sp14 hr2 (Y := [(b9, .cells ⟨[.string ⟨#[]⟩]⟩ 9 (0, 0))]) (b := [ByteArray.empty]) (rd_in [.string ⟨#[]⟩] List.mem_cons_self rfl) (by decide)) ?_
  rintro _ _ ⟨rfl, rfl⟩
  repeat' (first | refine Wst (k := ?_) | (refine W.call (sp24 _) ?_; rintro _ _ ⟨rfl, rfl⟩))
  intro b10
  repeat' (first | refine Wst (k := ?_) | (refine W.call (sp24 _) ?_; rintro _ _ ⟨rfl, rfl⟩))
  intro b11
  repeat' (first | refine Wst (k := ?_) | (refine W.call (sp24 _) ?_; rintro _ _ ⟨rfl, rfl⟩))
  refine W.call (grants (T' := ring2) (z := 2) (tok := ⟨#[115, 104, 111, 114, 116]⟩) (l := [⟨[4], ByteArray.empty, 0⟩]) (L := [(b10, .cells ⟨[.int .i64 4]⟩ 25 (0, 0)), (b11, .cells ⟨[.slice (some ⟨b10, 0, none⟩) 1 1, .string ByteArray.empty, .int .u64 0]⟩ 50 (0, 0))]) (by kernel_rfl) hR tk_2 ⟨_, rd_in [.slice (some ⟨b10, 0, none⟩) 1 1, .string ByteArray.empty, .int .u64 0] (List.mem_cons_of_mem _ List.mem_cons_self) rfl, rd_in [.int .i64 4] List.mem_cons_self rfl, rfl, rfl, trivial⟩ (by intro x hx; simp at hx; subst hx; exact ⟨by simp, by decide⟩) (by decide) (by decide)) ?_
  rintro _ _ ⟨R3, M3, rfl, hR3, rfl⟩
  repeat' (first | refine Wst (k := ?_) | (refine W.call (sp24 _) ?_; rintro _ _ ⟨rfl, rfl⟩))
  refine W.call (revokes (T' := ring2) (tok := tk3) (z := 9) (by kernel_rfl) hR3) ?_
  rintro _ _ ⟨R4, rfl, _, rfl⟩
  repeat' (first | refine Wst (k := ?_) | (refine W.call (sp24 _) ?_; rintro _ _ ⟨rfl, rfl⟩))
  exact W.ret (B := []) ⟨rfl, rfl⟩
end Go.Proofs.Yteghmoijhcdpeaa
