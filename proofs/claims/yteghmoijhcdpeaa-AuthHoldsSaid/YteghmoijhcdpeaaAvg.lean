/- The law AuthHolds: its walk. -/
import Derived.Test.YteghmoijhcdpeaaAvc
import Derived.Test.YteghmoijhcdpeaaAvf
set_option linter.unusedSimpArgs false
set_option linter.unusedVariables false
set_option maxRecDepth 100000
namespace Go.Proofs.Yteghmoijhcdpeaa
open Go.RowKit

theorem ActR.cells {F : Chunk} {cs : List Value} {a : Call} (h : ActR F cs a) : ∃ (Ar : Option Addr) (cr : Nat) (A1 : Option Addr) (n1 c1 : Nat) (A2 : Option Addr) (n2 c2 : Nat) (A3 : Option Addr) (n3 c3 : Nat),
    cs.toArray = #[.int .i64 a.what, .string a.token, .slice Ar a.rights.length cr, .int .u64 (a.now : Int), .int .i64 a.cmd.op, .string a.cmd.key, .slice A1 n1 c1, .slice A2 n2 c2, .slice A3 n3 c3, .int .u64 (a.cmd.life : Int), .int .u64 (a.cmd.version : Int), .string a.cmd.tag, .string a.cmd.pfx, .string a.cmd.child] ∧
    RdR F F (.slice Ar a.rights.length cr) a.rights ∧ CmdV F #[.int .i64 a.cmd.op, .string a.cmd.key, .slice A1 n1 c1, .slice A2 n2 c2, .slice A3 n3 c3, .int .u64 (a.cmd.life : Int), .int .u64 (a.cmd.version : Int), .string a.cmd.tag, .string a.cmd.pfx, .string a.cmd.child] a.cmd := by
  obtain ⟨⟨vr, ds, hr, hc, e⟩, _⟩ := h
  have hc' := hc
  obtain ⟨A1, n1, c1, A2, n2, c2, A3, n3, c3, rfl⟩ := hc'.cells
  obtain ⟨Ar, cr, rfl, _, _⟩ := hr.split
  exact ⟨Ar, cr, A1, n1, c1, A2, n2, c2, A3, n3, c3, by rw [e]; simp, hr, hc⟩
theorem ActR.lite {F : Chunk} {cs : List Value} {a : Call} (h : ActR F cs a) (hl : LiteA a) : Lite a.cmd := ⟨hl.key, hl.keys, hl.keys1, hl.value, hl.tags, hl.tags1, hl.tag, hl.pfx, hl.child, h.2.2.1, h.2.2.2⟩
theorem LiteA.short {a : Call} (hl : LiteA a) : ∀ x ∈ a.rights, Short x := fun x hx => ⟨by have := (hl.rights1 x hx).1; omega, by have := (hl.rights1 x hx).2; omega⟩
theorem tkOk_upd {T : Tk} (h : TkOk T) {k : ByteArray} {rs : List Rt} (h1 : rs.length ≤ 1000) (h2 : ∀ r ∈ rs, Short r) : TkOk (updK T k rs) := by
  induction T with
  | nil => intro p hp; simp [updK, idxK] at hp; subst hp; exact ⟨h1, h2⟩
  | cons q T ih =>
    rw [updK_cons]
    split
    · intro p hp
      rcases List.mem_cons.1 hp with rfl | hp
      · exact ⟨h1, h2⟩
      · exact h p (by simp [hp])
    · intro p hp
      rcases List.mem_cons.1 hp with rfl | hp
      · exact h p (by simp)
      · exact ih (fun p hp => h p (by simp [hp])) p hp
theorem tkOk_grant {T T' : Tk} (h : TkOk T) {tok : ByteArray} {l : List Rt} {z : Int} (hg : grantF T tok l = (T', z)) (h2 : ∀ r ∈ l, Short r) : TkOk T' := by
  by_cases hz : z = 0
  · subst hz
    obtain ⟨rfl, h3⟩ := grantF_ok hg
    exact tkOk_upd h (by simp; omega) (fun r hr => by rcases List.mem_append.1 hr with hr | hr; exact (getK_ok h tok).2 r hr; exact h2 r hr)
  · rw [grantF_no hg hz]; exact h
theorem tk12 : ¬ tk1 = tk2 := by decide
theorem tk21 : ¬ tk2 = tk1 := by decide
theorem sp18 {X : Chunk} {cs : Array Value} {q : Cmd} (hq : CmdV X cs q) (hL : Lite q) : Spec Try.prog 18 [.agg cs] [X] fun v B => v = .bool (validF q) ∧ B = [X] :=
  .of fun hO => (validC (C := X :: _) hO .here hq hL).mono fun _ _ ⟨h1, h2⟩ => ⟨_, [X], h1, ⟨rfl, rfl⟩, h2⟩
section
variable {P : Program} {E : Env} {n : Nat} {k : List K} {fr fr' : Fr} {S S' : List Chunk} {all : List Oper} {d : Option Nat} {ty : TypeId} {pos : String} {after : Array Edge} {g : Option (Nat × Bool)} {t : TypeId} {x y : Operand}
/-- Truth values that are the same. -/
theorem W.boolEq {a b : Bool} {t' : TypeId} [h : BoolT P t] (k' : W P E n k (fput d (.bool (a == b)) fr) S) (hx : ev fr x = some (.bool a) := by rfl) (hy : ev fr y = some (.bool b) := by rfl)
    (hg : wants all fr ⟨d, .binOp .eql t x y t', ty, pos, after, g⟩ = some true := by rfl) (hd : okD d n = true := by rfl) : W P E n (.op all ⟨d, .binOp .eql t x y t', ty, pos, after, g⟩ :: k) fr S :=
  W.val (v := .bool (a == b)) k' hg hd fun a' w ha hO => ⟨w, by
    have h0 : (eqGuard .eql t x y (.bool a) (.bool b)).run P w = .ok () w := by simp [eqGuard]
    simp [execOp, ha.evv hx, ha.evv hy, h0, (run_boolEq (P := P) w).1], hO⟩
end

set_option maxHeartbeats 4000000 in
theorem holds4 {F : Chunk} {csa csb : List Value} {a b : Call} {bf : Nat} (hA : ActR F csa a) (hB : ActR F csb b) : Spec Try.prog 4 [.agg csa.toArray, .agg csb.toArray, .int .u64 (bf : Int)] [F] fun v B => v = .bool true ∧ B = [F] := by
  have hA0 := hA.1
  have hB0 := hB.1
  obtain ⟨Ar, cr, A1, n1, c1, A2, n2, c2, A3, n3, c3, ea, hra, hca⟩ := hA.cells
  obtain ⟨Br, dr, B1, m1, d1, B2, m2, d2, B3, m3, d3, eb, hrb, hcb⟩ := hB.cells
  rw [ea] at hA0
  rw [eb] at hB0
  have hta := hA.2.1
  have htb := hB.2.1
  rw [ea, eb]
  refine Spec.enter Try.func4 rfl Try.ntmps4 rfl fun w0 C => ?_
  repeat refine Wst (k := ?_)
  intro x1
  repeat refine Wst (k := ?_)
  intro x2
  repeat refine Wst (k := ?_)
  refine W.call (sp8 hA0 hta) ?_
  rintro _ _ ⟨la, rfl, hla, rfl⟩
  repeat refine Wst (k := ?_)
  refine W.gd rfl rfl (fun h1 => ?_) (fun h1 => ?_)
  · repeat refine Wst (k := ?_)
    refine W.call known9 ?_
    rintro _ _ ⟨rfl, rfl⟩
    repeat refine Wst (k := ?_)
    exact W.ret (B := [F]) ⟨rfl, rfl⟩
  have hla := hla h1
  repeat refine Wst (k := ?_)
  refine W.call (sp8 hB0 htb) ?_
  rintro _ _ ⟨lb, rfl, hlb, rfl⟩
  repeat refine Wst (k := ?_)
  refine W.gd rfl rfl (fun h2 => ?_) (fun h2 => ?_)
  · repeat refine Wst (k := ?_)
    refine W.call known9 ?_
    rintro _ _ ⟨rfl, rfl⟩
    repeat refine Wst (k := ?_)
    exact W.ret (B := [F]) ⟨rfl, rfl⟩
  have hlb := hlb h2
  repeat refine Wst (k := ?_)
  refine W.cond rfl (fun h3 => ?_) (fun h3 => ?_)
  · repeat refine Wst (k := ?_)
    refine W.call known9 ?_
    rintro _ _ ⟨rfl, rfl⟩
    repeat refine Wst (k := ?_)
    exact W.ret (B := [F]) ⟨rfl, rfl⟩
  have hbn : bf ≤ a.now := by omega
  have hLa := hA.lite hla
  have hops : ∀ k, 1 ≤ k → k ≤ 15 → opv (allOps.take (k - 1)) ++ [.int .i64 (k : Int)] = opv (allOps.take (k + 1 - 1)) := by
    intro k h1 h2
    match k, h1, h2 with
    | 1, _, _ | 2, _, _ | 3, _, _ | 4, _, _ | 5, _, _ | 6, _, _ | 7, _, _ | 8, _, _ | 9, _, _ | 10, _, _ | 11, _, _ | 12, _, _ | 13, _, _ | 14, _, _ | 15, _, _ => rfl
  have hna := hla.rights
  have hnb := hlb.rights
  repeat refine Wst (k := ?_)
  intro r
  repeat refine Wst (k := ?_)
  intro s
  repeat refine Wst (k := ?_)
  rcases hg1 : grantF [] tk1 a.rights with ⟨T1, z1⟩
  refine W.call (grants (tok := tk1) (M := []) (L := F) hg1 (.inl ⟨rfl, rfl⟩) tk_0 hra hla.short (by omega) (by decide)) ?_
  rintro _ _ ⟨R1, M1, rfl, hR1, rfl⟩
  repeat refine Wst (k := ?_)
  refine W.gd rfl rfl (fun h4 => ?_) (fun h4 => ?_)
  · repeat refine Wst (k := ?_)
    refine W.call known9 ?_
    rintro _ _ ⟨rfl, rfl⟩
    repeat refine Wst (k := ?_)
    exact W.ret (B := [F]) ⟨rfl, rfl⟩
  have hz1 : z1 = 0 := by simpa using h4
  subst hz1
  repeat refine Wst (k := ?_)
  rcases hg2 : grantF [] tk2 b.rights with ⟨U, z2⟩
  refine W.call (grants (tok := tk2) (M := []) (L := F) hg2 (.inl ⟨rfl, rfl⟩) tk_0 hrb hlb.short (by omega) (by decide)) ?_
  rintro _ _ ⟨R2, M2, rfl, hR2, rfl⟩
  repeat refine Wst (k := ?_)
  refine W.gd rfl rfl (fun h5 => ?_) (fun h5 => ?_)
  · repeat refine Wst (k := ?_)
    refine W.call known9 ?_
    rintro _ _ ⟨rfl, rfl⟩
    repeat refine Wst (k := ?_)
    exact W.ret (B := [F]) ⟨rfl, rfl⟩
  have hz2 : z2 = 0 := by simpa using h5
  subst hz2
  have ok1 := tkOk_grant tk_0 hg1 hla.short
  repeat refine Wst (k := ?_)
  rcases hg3 : grantF T1 tk2 b.rights with ⟨T2, z3⟩
  refine W.call (grants (tok := tk2) (L := F) hg3 hR1 ok1 hrb hlb.short (by omega) (by decide)) ?_
  rintro _ _ ⟨R3, M3, rfl, hR3, rfl⟩
  repeat refine Wst (k := ?_)
  refine W.cond rfl (fun h6 => ?_) (fun h6 => ?_)
  · repeat refine Wst (k := ?_)
    refine W.call known9 ?_
    rintro _ _ ⟨rfl, rfl⟩
    repeat refine Wst (k := ?_)
    exact W.ret (B := [F]) ⟨rfl, rfl⟩
  have hz3 : z3 = 0 := by simpa using h6
  subst hz3
  have ok2 := tkOk_grant ok1 hg3 hlb.short
  have okU := tkOk_grant tk_0 hg2 hlb.short
  obtain rfl : T1 = [(tk1, a.rights)] := (grantF_ok hg1).1
  obtain rfl : U = [(tk2, b.rights)] := (grantF_ok hg2).1
  obtain rfl : T2 = [(tk1, a.rights), (tk2, b.rights)] := by
    rw [(grantF_ok hg3).1, updK_cons, if_neg tk12, getK_cons, if_neg tk12]; rfl
  have hsame : checkF [(tk2, b.rights)] a.now tk2 a.cmd = checkF [(tk1, a.rights), (tk2, b.rights)] a.now tk2 a.cmd := checkF_congr (by rw [getK_cons, getK_cons, getK_cons, if_neg tk12])
  refine W.keep [(2, .int .u64 (bf : Int)), (3, .pointer (some ⟨x1, 0, none⟩)), (4, .pointer (some ⟨x2, 0, none⟩)), (7, .pointer (some ⟨r, 0, none⟩)), (8, .pointer (some ⟨s, 0, none⟩))] [R3, M3, R2, M2, [(x1, actO a Ar cr A1 n1 c1 A2 n2 c2 A3 n3 c3)], [(x2, actO b Br dr B1 m1 d1 B2 m2 d2 B3 m3 d3)], F] ?_
  repeat refine Wst (k := ?_)
  obtain ⟨z, hz⟩ : ∃ z, checkF [(tk1, a.rights), (tk2, b.rights)] a.now tk1 a.cmd = z := ⟨_, rfl⟩
  have hck := sp16 (now := a.now) (tok := tk1) hR3 ok2 hca hLa
  rw [hz] at hck
  refine W.call hck ?_
  rintro _ _ ⟨rfl, rfl⟩
  repeat refine Wst (k := ?_)
  obtain ⟨y, hy⟩ : ∃ y, checkF [(tk1, a.rights), (tk2, b.rights)] a.now tk2 a.cmd = y := ⟨_, rfl⟩
  have hc1 := checks a.now tk2 a.cmd y hy hR3 ok2 hca hLa
  have hc2 := checks a.now tk2 a.cmd y (hsame.trans hy) hR2 okU hca hLa
  refine W.cutN 1 (fun fr S => fr = [(3, .pointer (some ⟨x1, 0, none⟩)), (4, .pointer (some ⟨x2, 0, none⟩)), (7, .pointer (some ⟨r, 0, none⟩)), (9, .int .i64 z), (82, .bool (decide (y ≠ y)))] ∧ S = [R3, M3, [(x1, actO a Ar cr A1 n1 c1 A2 n2 c2 A3 n3 c3)], [(x2, actO b Br dr B1 m1 d1 B2 m2 d2 B3 m3 d3)], F]) ?_ ?_
  case refine_2 =>
    refine W.draw [[(x1, actO a Ar cr A1 n1 c1 A2 n2 c2 A3 n3 c3)]] ?_
    by_cases h0 : z = 0
    · subst h0
      have hc0 := checks bf tk1 a.cmd 0 (checkF_before hbn hz) hR3 ok2 hca hLa
      repeat' (first
        | refine Wst (k := ?_)
        | (refine W.call hc0 ?_; rintro _ _ ⟨rfl, rfl⟩)
        | (refine W.call hc1 ?_; rintro _ _ ⟨rfl, rfl⟩)
        | (refine W.call hc2 ?_; rintro _ _ ⟨rfl, rfl⟩))
      exact W.post ⟨rfl, rfl⟩
    · repeat refine Wst (k := ?_)
      refine W.gdA 3 rfl rfl rfl (fun h => absurd h h0) (fun _ => ?_)
      repeat' (first
        | refine Wst (k := ?_)
        | (refine W.call hc1 ?_; rintro _ _ ⟨rfl, rfl⟩)
        | (refine W.call hc2 ?_; rintro _ _ ⟨rfl, rfl⟩))
      exact W.post ⟨rfl, rfl⟩
  rintro _ _ ⟨rfl, rfl⟩
  refine W.cond rfl (fun h => absurd rfl h) (fun _ => ?_)
  repeat refine Wst (k := ?_)
  rcases hg4 : grantF [(tk1, a.rights), (tk2, b.rights)] tk1 b.rights with ⟨T3, z4⟩
  refine W.call (grants (tok := tk1) (L := F) hg4 hR3 ok2 hrb hlb.short (by omega) (by decide)) ?_
  rintro _ _ ⟨R4, M4, rfl, hR4, rfl⟩
  have ok3 := tkOk_grant ok2 hg4 hlb.short
  have hT3 : ∃ ra, T3 = [(tk1, ra), (tk2, b.rights)] ∧ (z4 = 0 → ra = a.rights ++ b.rights) := by
    by_cases h0 : z4 = 0
    · subst h0
      exact ⟨a.rights ++ b.rights, by rw [(grantF_ok hg4).1, updK_cons, if_pos rfl, getK_cons, if_pos rfl], fun _ => rfl⟩
    · exact ⟨a.rights, grantF_no hg4 h0, fun h => absurd h h0⟩
  obtain ⟨ra, rfl, hra4⟩ := hT3
  repeat refine Wst (k := ?_)
  refine W.cutN 2 (fun fr S => fr = [(3, .pointer (some ⟨x1, 0, none⟩)), (7, .pointer (some ⟨r, 0, none⟩)), (101, .bool false)] ∧ S = [R4, M4, [(x1, actO a Ar cr A1 n1 c1 A2 n2 c2 A3 n3 c3)], F]) ?_ ?_
  case refine_2 =>
    refine W.gd rfl rfl (fun h4 => ?_) (fun h4 => ?_)
    · repeat refine Wst (k := ?_)
      refine W.gd rfl rfl (fun h0 => ?_) (fun h0 => ?_)
      · subst h0
        repeat refine Wst (k := ?_)
        refine W.call (checks a.now tk1 a.cmd 0 (checkF_more (l := b.rights) (by rw [hra4 h4, getK_cons, if_pos rfl, getK_cons, if_pos rfl]) hz) hR4 ok3 hca hLa) ?_
        rintro _ _ ⟨rfl, rfl⟩
        repeat refine Wst (k := ?_)
        exact W.post ⟨rfl, rfl⟩
      · repeat refine Wst (k := ?_)
        exact W.post ⟨rfl, rfl⟩
    · repeat refine Wst (k := ?_)
      exact W.post ⟨rfl, rfl⟩
  rintro _ _ ⟨rfl, rfl⟩
  repeat refine Wst (k := ?_)
  refine W.call (revokes (T' := [(tk2, b.rights)]) (tok := tk1) (z := 0) (by unfold revokeF; rw [hasK_cons, if_pos rfl, delK_cons, if_pos rfl]; rfl) hR4) ?_
  rintro _ _ ⟨R5, rfl, hR5, rfl⟩
  have ok4 : TkOk [(tk2, b.rights)] := okU
  repeat refine Wst (k := ?_)
  have hnone := checkF_none (T := [(tk2, b.rights)]) (now := a.now) (tok := tk1) (q := a.cmd) (by rw [getK_cons, if_neg tk21]; rfl)
  refine W.call (sp16 (now := a.now) (tok := tk1) hR5 ok4 hca hLa) ?_
  rintro _ _ ⟨rfl, rfl⟩
  repeat refine Wst (k := ?_)
  refine W.cond rfl (fun h => absurd h hnone) (fun _ => ?_)
  repeat refine Wst (k := ?_)
  refine W.loop (fun m fr S => ∃ (k : Nat) (A : Option Addr) (cp : Nat) (K : Chunk), 1 ≤ k ∧ k ≤ 16 ∧ m = 16 - k ∧ Sl 25 1 (.slice A (k - 1) cp) (k - 1) (opv (allOps.take (k - 1))) K ∧
    fr = [(3, .pointer (some ⟨x1, 0, none⟩)), (7, .pointer (some ⟨r, 0, none⟩)), (11, .slice A (k - 1) cp), (12, .int .i64 (k : Int))] ∧ S = [K, R5, M4, [(x1, actO a Ar cr A1 n1 c1 A2 n2 c2 A3 n3 c3)], F]) ⟨1, none, 0, [], by omega, by omega, rfl, Sl.none_ _ _, rfl, rfl⟩ ?_
  rintro m _ _ ⟨k, A, cp, K, hk1, hk2, rfl, hsl, rfl, rfl⟩
  repeat refine Wst (k := ?_)
  refine W.cond rfl (fun h => ?_) (fun h => ?_)
  · repeat refine Wst (k := ?_)
    intro b1
    repeat refine Wst (k := ?_)
    refine W.append (X := [(b1, .cells ⟨[.int .i64 (k : Int)]⟩ 25 (0, 0))]) hsl (rd_in (n := 1) (T := 25) [.int .i64 (k : Int)] List.mem_cons_self rfl) (fun A' c' K' hsl' => ?_) (by simp [Value.oneCell']) (by omega)
    repeat refine Wst (k := ?_)
    refine W.post ⟨_, ⟨k + 1, A', c', K', by omega, by omega, rfl, ?_, rfl, rfl⟩, by omega⟩ ⟨rfl, rfl, by simp [Fr.get, fput]; omega, rfl, trivial⟩
    have e : opv (allOps.take (k - 1)) ++ [.int .i64 (k : Int)] = opv (allOps.take (k + 1 - 1)) := hops k hk1 (by omega)
    have e1 : k - 1 + 1 = k + 1 - 1 := by omega
    rw [e, e1] at hsl'
    exact hsl'
  have hk : k = 16 := by omega
  subst hk
  repeat refine Wst (k := ?_)
  intro b2
  repeat refine Wst (k := ?_)
  have hg5 : grantF [(tk2, b.rights)] tk1 [rtAll] = ([(tk2, b.rights), (tk1, [rtAll])], 0) := by
    unfold grantF
    have e1 : (!tokF tk1) = false := by kernel_rfl
    have e2 : ([rtAll].any fun r => !validR r) = false := by kernel_rfl
    rw [if_neg (by rw [e1, e2]; simp)]
    have e3 : getK [(tk2, b.rights)] tk1 = [] := by rw [getK_cons, if_neg tk21]; rfl
    rw [e3, updK_cons, if_neg tk21]
    simp [updK, idxK]
  have hRd : RdR (K ++ [(b2, .cells ⟨[.slice A (16 - 1) cp, .string ByteArray.empty, .int .u64 18446744073709551615]⟩ 50 (0, 0))]) (K ++ [(b2, .cells ⟨[.slice A (16 - 1) cp, .string ByteArray.empty, .int .u64 18446744073709551615]⟩ 50 (0, 0))]) (.slice (some ⟨b2, 0, none⟩) 1 1) [rtAll] :=
    ⟨_, rd_in _ (List.mem_append_right _ List.mem_cons_self) rfl, hsl.rd.mono (fun p hp => by simp [hp]), rfl, rfl, trivial⟩
  refine W.call (grants (tok := tk1) hg5 hR5 ok4 hRd (by intro x hx; simp at hx; subst hx; exact ⟨by decide, by decide⟩) (by decide) (by decide)) ?_
  rintro _ _ ⟨R6, M6, rfl, hR6, rfl⟩
  have ok5 : TkOk [(tk2, b.rights), (tk1, [rtAll])] := tkOk_grant ok4 hg5 (by intro x hx; simp at hx; subst hx; exact ⟨by decide, by decide⟩)
  repeat refine Wst (k := ?_)
  have hall := checkF_all (T := [(tk2, b.rights), (tk1, [rtAll])]) (now := a.now) (tok := tk1) (q := a.cmd) (by rw [getK_cons, if_neg tk21, getK_cons, if_pos rfl])
  obtain ⟨y6, hy6⟩ : ∃ y, checkF [(tk2, b.rights), (tk1, [rtAll])] a.now tk1 a.cmd = y := ⟨_, rfl⟩
  have hfin : (decide (y6 = 0) == validF a.cmd) = true := by
    rw [hy6] at hall
    cases hv : validF a.cmd <;> rw [hv] at hall <;> simp [hall]
  refine W.draw [[(x1, actO a Ar cr A1 n1 c1 A2 n2 c2 A3 n3 c3)]] ?_
  repeat' (first
    | refine Wst (k := ?_)
    | (refine W.call (checks a.now tk1 a.cmd y6 hy6 hR6 ok5 hca hLa) ?_; rintro _ _ ⟨rfl, rfl⟩)
    | (refine W.call (sp18 hca hLa) ?_; rintro _ _ ⟨rfl, rfl⟩)
    | refine W.boolEq ?_)
  rw [hfin]
  repeat' (first
    | refine Wst (k := ?_)
    | (refine W.call known9 ?_; rintro _ _ ⟨rfl, rfl⟩))
  exact W.ret (B := [F]) ⟨rfl, rfl⟩
end Go.Proofs.Yteghmoijhcdpeaa
