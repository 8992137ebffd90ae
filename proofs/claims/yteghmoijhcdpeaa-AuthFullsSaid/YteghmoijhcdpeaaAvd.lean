/- How the arguments of the laws read. -/
import Derived.Test.YteghmoijhcdpeaaAuk
import Derived.Test.YteghmoijhcdpeaaWr
import Derived.Test.YteghmoijhcdpeaaRows
set_option linter.unusedSimpArgs false
set_option linter.unusedVariables false
set_option maxRecDepth 100000
namespace Go.Proofs.Yteghmoijhcdpeaa
open Go.ChangeShapes Go.WideShapes Go.ChangeAt Go.RowKit

theorem all2_flat {α : Type} {f : α → Value} {Q : α → Prop} : ∀ {xs : List (List Value)} {l : List α}, All2 (fun cs a => cs = [f a] ∧ Q a) xs l → xs.flatten = l.map f ∧ ∀ a ∈ l, Q a
  | [], [], _ => ⟨rfl, by simp⟩
  | x :: xs, a :: l, h => by
    obtain ⟨⟨rfl, hq⟩, h2⟩ := h
    obtain ⟨h3, h4⟩ := all2_flat h2
    exact ⟨by simp [h3], by intro b hb; rcases List.mem_cons.1 hb with rfl | hb; exact hq; exact h4 b hb⟩
  | [], _ :: _, h => h.elim
  | _ :: _, [], h => h.elim
theorem u64_nat {n : Int} (h : (Lit.int .u64 n).wf = true) : ∃ k : Nat, n = (k : Int) ∧ k < 18446744073709551616 := by
  have h1 : IntKind.u64.min = 0 := rfl
  have h2 : IntKind.u64.max = 18446744073709551615 := rfl
  simp only [Lit.wf, Bool.and_eq_true, decide_eq_true_eq] at h
  exact ⟨n.toNat, by omega, by omega⟩
theorem u8_byte {n : Int} (h : (Lit.int .u8 n).wf = true) : ∃ b : UInt8, n = (b.toNat : Int) := by
  have h1 : IntKind.u8.min = 0 := rfl
  have h2 : IntKind.u8.max = 255 := rfl
  simp only [Lit.wf, Bool.and_eq_true, decide_eq_true_eq] at h
  refine ⟨UInt8.ofNat n.toNat, ?_⟩
  simp
  omega
section
variable {H : Type} {enc : TypeId × Value → H} {W : World}
theorem opens_strs : Opens enc Try.prog W 26 fun cs (l : List ByteArray) => ∃ v, cs = [v] ∧ RdS (heapC W) v l := by
  intro sp hd fuel cs x h
  obtain ⟨l, ⟨v, xs, rfl, h1, h2, h3, h4⟩⟩ := opens_slice (size := 1) Try.underlying26 (by kernel_rfl) (by decide) (opens_string Try.underlying9) sp hd fuel cs x h
  refine ⟨l, v, rfl, ?_⟩
  have := (all2_flat h1).1
  rw [this] at h3
  exact h3
theorem opens_ops : Opens enc Try.prog W 48 fun cs (l : List Int) => ∃ v, cs = [v] ∧ RdO (heapC W) v l := by
  intro sp hd fuel cs x h
  obtain ⟨l, ⟨v, xs, rfl, h1, h2, h3, h4⟩⟩ := opens_slice (size := 1) Try.underlying48 (by kernel_rfl) (by decide) (opens_int Try.underlying25) sp hd fuel cs x h
  refine ⟨l, v, rfl, ?_⟩
  have := (all2_flat h1).1
  rw [this] at h3
  exact h3
theorem all2_map {α β : Type} {R : List Value → α → Prop} {Q : List Value → β → Prop} (hr : ∀ c a, R c a → ∃ b, Q c b) : ∀ {xs : List (List Value)} {l : List α}, All2 R xs l → ∃ m : List β, All2 Q xs m
  | [], [], _ => ⟨[], trivial⟩
  | x :: xs, a :: l, h => by
    obtain ⟨b, hb⟩ := hr x a h.1
    obtain ⟨m, hm⟩ := all2_map hr h.2
    exact ⟨b :: m, hb, hm⟩
  | [], _ :: _, h => h.elim
  | _ :: _, [], h => h.elim
theorem Opens.map {t : TypeId} {α β : Type} {R : List Value → α → Prop} {Q : List Value → β → Prop} (h : Opens enc Try.prog W t R) (hr : ∀ c a, R c a → ∃ b, Q c b) : Opens enc Try.prog W t Q := fun sp hd fuel cs x hx => by
  obtain ⟨a, ha⟩ := h sp hd fuel cs x hx
  exact hr _ _ ha
theorem opens_bytes : Opens enc Try.prog W 27 fun cs (l : List UInt8) => ∃ v, cs = [v] ∧ RdB (heapC W) v l := by
  intro sp hd fuel cs x h
  have hb : Opens enc Try.prog W 5 fun cs (b : UInt8) => cs = [.int .u8 (b.toNat : Int)] ∧ True := (opens_int Try.underlying5).map fun c a ⟨h1, h2⟩ => by
    obtain ⟨b, rfl⟩ := u8_byte h2
    exact ⟨b, h1, trivial⟩
  obtain ⟨l, ⟨v, xs, rfl, h1, h2, h3, h4⟩⟩ := opens_slice (size := 1) Try.underlying27 (by kernel_rfl) (by decide) hb sp hd fuel cs x h
  refine ⟨l, v, rfl, ?_⟩
  have := (all2_flat h1).1
  rw [this] at h3
  exact h3
theorem opens_u64 {t : TypeId} (ht : Try.prog.underlying t = some (.int .u64)) : Opens enc Try.prog W t fun cs (k : Nat) => cs = [.int .u64 (k : Int)] ∧ k < 18446744073709551616 := (opens_int ht).map fun c a ⟨h1, h2⟩ => by
  obtain ⟨k, rfl, hk⟩ := u64_nat h2
  exact ⟨k, h1, hk⟩
theorem opens_right : Opens enc Try.prog W 50 fun cs (r : Rt) => ∃ vo, cs = [vo, .string r.pfx, .int .u64 (r.til : Int)] ∧ RdO (heapC W) vo r.ops := by
  intro sp hd fuel cs x h
  have hl : cs.length = 3 := (opens_len Try.underlying50 h).trans (by kernel_rfl)
  obtain ⟨ops, v0, e0, h0⟩ := opens_field Try.underlying50 h 0 (tf := 48) (off := 0) (size := 1) (by kernel_rfl) opens_ops
  obtain ⟨pfx, e1, h1⟩ := opens_field Try.underlying50 h 1 (tf := 9) (off := 1) (size := 1) (by kernel_rfl) (opens_string Try.underlying9)
  obtain ⟨til, e2, h2⟩ := opens_field Try.underlying50 h 2 (tf := 24) (off := 2) (size := 1) (by kernel_rfl) (opens_u64 Try.underlying24)
  match cs, hl with
  | [c0, c1, c2], _ =>
    simp at e0 e1 e2
    subst e0 e1 e2
    exact ⟨⟨ops, pfx, til⟩, _, rfl, h0⟩
theorem rtC_of : ∀ {xs : List (List Value)} {l : List Rt} {M : Chunk}, All2 (fun cs (r : Rt) => ∃ vo, cs = [vo, .string r.pfx, .int .u64 (r.til : Int)] ∧ RdO M vo r.ops) xs l → RtC M xs.flatten l
  | [], [], _, _ => trivial
  | x :: xs, a :: l, M, h => by
    obtain ⟨⟨vo, rfl, ho⟩, h2⟩ := h
    exact ⟨ho, rfl, rfl, rtC_of h2⟩
  | [], _ :: _, _, h => h.elim
  | _ :: _, [], _, h => h.elim
theorem opens_rights : Opens enc Try.prog W 22 fun cs (l : List Rt) => ∃ v, cs = [v] ∧ RdR (heapC W) (heapC W) v l := by
  intro sp hd fuel cs x h
  obtain ⟨l, ⟨v, xs, rfl, h1, h2, h3, h4⟩⟩ := opens_slice (size := 3) Try.underlying22 (by kernel_rfl) (by decide) opens_right sp hd fuel cs x h
  exact ⟨l, v, rfl, xs.flatten, h3, rtC_of h1⟩
theorem opens_cmd : Opens enc Try.prog W 29 fun cs (q : Cmd) => CmdV (heapC W) cs.toArray q ∧ q.life < 18446744073709551616 ∧ q.version < 18446744073709551616 := by
  intro sp hd fuel cs x h
  have hl : cs.length = 10 := (opens_len Try.underlying29 h).trans (by kernel_rfl)
  obtain ⟨op, e0, _⟩ := opens_field Try.underlying29 h 0 (tf := 25) (off := 0) (size := 1) (by kernel_rfl) (opens_int Try.underlying25)
  obtain ⟨key, e1, _⟩ := opens_field Try.underlying29 h 1 (tf := 9) (off := 1) (size := 1) (by kernel_rfl) (opens_string Try.underlying9)
  obtain ⟨keys, v2, e2, h2⟩ := opens_field Try.underlying29 h 2 (tf := 26) (off := 2) (size := 1) (by kernel_rfl) opens_strs
  obtain ⟨val, v3, e3, h3⟩ := opens_field Try.underlying29 h 3 (tf := 27) (off := 3) (size := 1) (by kernel_rfl) opens_bytes
  obtain ⟨tags, v4, e4, h4⟩ := opens_field Try.underlying29 h 4 (tf := 26) (off := 4) (size := 1) (by kernel_rfl) opens_strs
  obtain ⟨life, e5, h5⟩ := opens_field Try.underlying29 h 5 (tf := 24) (off := 5) (size := 1) (by kernel_rfl) (opens_u64 Try.underlying24)
  obtain ⟨ver, e6, h6⟩ := opens_field Try.underlying29 h 6 (tf := 23) (off := 6) (size := 1) (by kernel_rfl) (opens_u64 Try.underlying23)
  obtain ⟨tag, e7, _⟩ := opens_field Try.underlying29 h 7 (tf := 9) (off := 7) (size := 1) (by kernel_rfl) (opens_string Try.underlying9)
  obtain ⟨pfx, e8, _⟩ := opens_field Try.underlying29 h 8 (tf := 9) (off := 8) (size := 1) (by kernel_rfl) (opens_string Try.underlying9)
  obtain ⟨child, e9, _⟩ := opens_field Try.underlying29 h 9 (tf := 9) (off := 9) (size := 1) (by kernel_rfl) (opens_string Try.underlying9)
  match cs, hl with
  | [c0, c1, c2, c3, c4, c5, c6, c7, c8, c9], _ =>
    simp at e0 e1 e2 e3 e4 e5 e6 e7 e8 e9
    subst e0 e1 e2 e3 e4 e5 e6 e7 e8 e9
    exact ⟨⟨op, key, keys, val, tags, life, ver, tag, pfx, child⟩, ⟨_, _, _, rfl, h2, h3, h4⟩, h5, h6⟩
/-- A call as the laws take it. -/
def ActR (F : Chunk) (cs : List Value) (a : Call) : Prop := ActV F cs.toArray a ∧ a.token.size ≤ 9223372036854775807 ∧ a.cmd.life < 18446744073709551616 ∧ a.cmd.version < 18446744073709551616
theorem opens_act : Opens enc Try.prog W 31 (ActR (heapC W)) := by
  intro sp hd fuel cs x h
  have hl : cs.length = 14 := (opens_len Try.underlying31 h).trans (by kernel_rfl)
  obtain ⟨what, e0, _⟩ := opens_field Try.underlying31 h 0 (tf := 3) (off := 0) (size := 1) (by kernel_rfl) (opens_int Try.underlying3)
  obtain ⟨tok, e1, h1⟩ := opens_field Try.underlying31 h 1 (tf := 9) (off := 1) (size := 1) (by kernel_rfl) (opens_string Try.underlying9)
  obtain ⟨rts, v2, e2, h2⟩ := opens_field Try.underlying31 h 2 (tf := 22) (off := 2) (size := 1) (by kernel_rfl) opens_rights
  obtain ⟨now, e3, h3⟩ := opens_field Try.underlying31 h 3 (tf := 24) (off := 3) (size := 1) (by kernel_rfl) (opens_u64 Try.underlying24)
  obtain ⟨cmd, h4, h5, h6⟩ := opens_field Try.underlying31 h 4 (tf := 29) (off := 4) (size := 10) (by kernel_rfl) opens_cmd
  match cs, hl with
  | [c0, c1, c2, c3, d0, d1, d2, d3, d4, d5, d6, d7, d8, d9], _ =>
    simp at e0 e1 e2 e3 h4
    subst e0 e1 e2 e3
    exact ⟨⟨what, tok, rts, now, cmd⟩, ⟨_, _, h2, h4, by simp⟩, h1, h5, h6⟩
end
end Go.Proofs.Yteghmoijhcdpeaa
