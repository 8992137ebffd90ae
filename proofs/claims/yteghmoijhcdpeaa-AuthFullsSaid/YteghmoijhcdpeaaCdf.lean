import Derived.Test.YteghmoijhcdpeaaCde
set_option linter.unusedSimpArgs false
set_option linter.unusedVariables false
set_option maxRecDepth 100000
namespace Go.Proofs.Yteghmoijhcdpeaa
open Go.RowKit

theorem get_set_self {cs : Array Value} {off : Nat} {v : Value} (h : off < cs.size) : (cs.setIfInBounds off v)[off]? = some v := by simp [h]
theorem st_make1 {P : Program} {ops : Array Oper} {rest : List Oper} {o : Oper} {a : Act} {w0 w : World} {Q : Exit → Act → World → Prop} {C : List Chunk} {T t : TypeId} {xl : Operand} {z : Value} {bytes : Nat} {k : IntKind} {i : Int}
    (hO : Own w0 w C) (hw : Region.wanted o (yielded ops a.tmps) = true) (ho : o.op = .makeSlice t xl xl) (h1 : SlOf P t T) (h2 : Zero P T z) (h3 : Siz P T 1 bytes) (hz1 : z.cells = #[z]) (hl : a.eval xl = .int k i) (h0 : 0 ≤ i) (hi : i ≤ 1048576) (hb : bytes ≤ 1024)
    (h : ∀ w' b, Own w0 w' ([(b, .cells (List.replicate i.toNat z).toArray T (0, 0))] :: C) → wpList P ops Q rest (a.put o.dst (.slice (some ⟨b, 0, none⟩) i.toNat i.toNat)) w') : wpList P ops Q (o :: rest) a w := by
  obtain ⟨n, rfl⟩ := Int.eq_ofNat_of_zero_le h0
  obtain ⟨inf, hi1, hz⟩ := h2.out
  obtain ⟨inf', hi2, hs1, hs2⟩ := h3.out
  obtain rfl : inf = inf' := by rw [hi1] at hi2; injection hi2
  have hn : n ≤ 1048576 := by omega
  have hbn : inf.bytes * n ≤ 1024 * 1048576 := Nat.mul_le_mul (by omega) hn
  have hb' : (inf.bytes : Int) * (n : Int) ≤ 281474976710656 := by
    have h : ((inf.bytes * n : Nat) : Int) ≤ 281474976710656 := by omega
    rwa [Int.natCast_mul] at h
  have hr := run_make (P := P) w t T inf z h1.out hi1 hz k k n n (by omega) (by omega) hb' (by omega)
  simp only [Int.toNat_natCast] at hr
  have hm : madeCells z.cells (n * inf.size) = (List.replicate n z).toArray := by
    rw [hs1, Nat.mul_one, hz1, ← toList_madeCells_one]
  rw [hm] at hr
  refine st_val hw ?_ (h _ _ (hO.alloc _))
  simp [execOp, ho, hl, hr]
end Go.Proofs.Yteghmoijhcdpeaa
