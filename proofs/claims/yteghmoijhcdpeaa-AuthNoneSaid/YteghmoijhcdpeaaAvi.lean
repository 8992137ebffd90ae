/- The law AuthNone returns true at every input, and leaves its argument as it was: no condition. -/
import Derived.Test.YteghmoijhcdpeaaAve
set_option linter.unusedSimpArgs false
set_option linter.unusedVariables false
set_option maxRecDepth 100000
namespace Go.Proofs.Yteghmoijhcdpeaa
open Go.ChangeShapes Go.WideShapes Go.ChangeAt Go.RowKit

theorem nil15 (s : ByteArray) (v : Value) : Spec Try.prog 15 [.pointer none, .string s, v] [] fun v B => v = .int .i64 1 ∧ B = [] := by
  refine Spec.enter Try.func15 rfl Try.ntmps15 rfl fun w0 C => ?_
  repeat refine Wst (k := ?_)
  exact W.ret (B := []) ⟨rfl, rfl⟩
theorem nil16 (n : Int) (s : ByteArray) (cs : Array Value) : Spec Try.prog 16 [.pointer none, .int .u64 n, .string s, .agg cs] [] fun v B => v = .int .i64 1 ∧ B = [] := by
  refine Spec.enter Try.func16 rfl Try.ntmps16 rfl fun w0 C => ?_
  repeat' (first | refine Wst (k := ?_) | intro b)
  exact W.ret (B := []) ⟨rfl, rfl⟩
theorem nil17 (s : ByteArray) : Spec Try.prog 17 [.pointer none, .string s] [] fun v B => v = .int .i64 1 ∧ B = [] := by
  refine Spec.enter Try.func17 rfl Try.ntmps17 rfl fun w0 C => ?_
  repeat refine Wst (k := ?_)
  exact W.ret (B := []) ⟨rfl, rfl⟩
theorem nil19 (s : ByteArray) : Spec Try.prog 19 [.pointer none, .string s] [] fun v B => v = .tuple #[.slice none 0 0, .int .i64 1] ∧ B = [] := by
  refine Spec.enter Try.func19 rfl Try.ntmps19 rfl fun w0 C => ?_
  repeat refine Wst (k := ?_)
  exact W.ret (B := []) ⟨rfl, rfl⟩
theorem nil22 : Spec Try.prog 22 [.pointer none] [] fun v B => v = .slice none 0 0 ∧ B = [] := by
  refine Spec.enter Try.func22 rfl Try.ntmps22 rfl fun w0 C => ?_
  repeat refine Wst (k := ?_)
  exact W.ret (B := []) ⟨rfl, rfl⟩
theorem nil23 : Spec Try.prog 23 [.pointer none] [] fun v B => v = .pointer none ∧ B = [] := by
  refine Spec.enter Try.func23 rfl Try.ntmps23 rfl fun w0 C => ?_
  repeat refine Wst (k := ?_)
  exact W.ret (B := []) ⟨rfl, rfl⟩

theorem none7 {F : Chunk} {cs : List Value} {a : Call} (hA : ActR F cs a) : Spec Try.prog 7 [.agg cs.toArray] [F] fun v B => v = .bool true ∧ B = [F] := by
  have hA0 := hA.1
  have hta := hA.2.1
  obtain ⟨vr, ds, hr, hc, e⟩ := hA.1
  have hc' := hc
  obtain ⟨A1, n1, c1, A2, n2, c2, A3, n3, c3, rfl⟩ := hc'.cells
  obtain ⟨Ar, cr, rfl, _, _⟩ := hr.split
  simp only [List.append_toArray, List.cons_append, List.nil_append] at e
  rw [e] at hA0 ⊢
  refine Spec.enter Try.func7 rfl Try.ntmps7 rfl fun w0 C => ?_
  repeat refine Wst (k := ?_)
  intro x1
  repeat refine Wst (k := ?_)
  refine W.call (sp8 hA0 hta) ?_
  rintro _ _ ⟨la, rfl, hla, rfl⟩
  repeat refine Wst (k := ?_)
  refine W.cond rfl (fun h1 => ?_) (fun h1 => ?_)
  · repeat refine Wst (k := ?_)
    refine W.call known9 ?_
    rintro _ _ ⟨rfl, rfl⟩
    repeat refine Wst (k := ?_)
    exact W.ret (B := [F]) ⟨rfl, rfl⟩
  repeat' (first
    | refine Wst (k := ?_)
    | (refine W.call (nil19 _) ?_; rintro _ _ ⟨rfl, rfl⟩)
    | (refine W.call (nil15 _ _) ?_; rintro _ _ ⟨rfl, rfl⟩)
    | (refine W.call (nil17 _) ?_; rintro _ _ ⟨rfl, rfl⟩)
    | (refine W.call (nil16 _ _ _) ?_; rintro _ _ ⟨rfl, rfl⟩)
    | (refine W.call nil22 ?_; rintro _ _ ⟨rfl, rfl⟩)
    | (refine W.call nil23 ?_; rintro _ _ ⟨rfl, rfl⟩)
    | (refine W.call known9 ?_; rintro _ _ ⟨rfl, rfl⟩))
  exact W.ret (B := [F]) ⟨rfl, rfl⟩

theorem lifted7 (os : Os) (started : os.Started) (H : Type) (enc : TypeId × Value → H) :
    ReturnsInHanded {} Try.checked os 7 .any (Rows.authNoneSpec.pre6 enc Try.prog Try.f7 Rows.authNoneRow.domain false) (Rows.authNoneSpec.post enc Try.prog Try.f7 false true false false) := by
  refine returnsInHanded_of_change (C := Try.checked) own_try started (by kernel_rfl) Try.func7
    (ChangeSpec.witness6 (enc := enc) (C := Try.checked) false ⟨#[], #[act0], []⟩ 8 (by kernel_rfl) (by kernel_rfl) (by kernel_rfl) (by kernel_rfl)) ?_
  intro W base args ds gs before hval0 hW hcnd _
  have hval : ∀ (j : Nat) t v, Try.f7.params[j]? = some t → args[j]? = some v → Value.okWide Try.prog W .any base t v := hval0
  have hW' := hW
  obtain ⟨p, q, hA0, hV, rfl, hfz, hnd⟩ := hW
  have hA : DataW.TrodAll enc Try.prog W 0 (fun _ => true) true Try.f7.params.toList args.toList ds p := hA0
  have hA1 := hA
  rw [Try.params7] at hA hval
  obtain ⟨v0, vs0, d0, ds0, p0, q0, hargs, rfl, rfl, h0, r0⟩ := trodAll_cons hA
  obtain ⟨rfl, rfl, rfl⟩ := trodAll_nil r0
  obtain rfl : args = #[v0] := by cases args; simp_all
  obtain ⟨rfl, rfl⟩ := trodVars_none hV
  obtain ⟨cs, rfl, _⟩ := okWide_struct Try.underlying31 (hval 0 31 v0 rfl rfl)
  obtain ⟨fuel, hf⟩ := h0
  obtain ⟨a, ha⟩ := opens_act (W := W) _ _ _ _ _ hf
  have hlt : ∀ x ∈ p0 ++ [], x.block < W.heap.size := fun x hx => hW'.lt x (by simpa using hx)
  refine (law_calls (none7 ha)).mono fun e W' ⟨he, hb⟩ => ?_
  subst he
  exact ⟨_, rfl, post_of_below (pa := p0 ++ []) (pv := []) hW' (fun _ _ _ => (trodAll_cons_mk (shut_bool Try.underlying4 _) trodAll_mk0)) (fun sp hsp => trodAll_stays laid_try hb (by kernel_rfl) hA1 hlt (fun x hx => hsp x (by simpa using hx))) (fun _ _ => rfl) rfl
    hb (ok_one (by kernel_rfl) rfl (okWide_bool_mk Try.underlying4 _))⟩

theorem AuthNone_holds : Rows.AuthNoneSaid :=
  OpenClaim.holds_of_wide 7 Try.f7 rfl rfl rfl rfl rfl rfl rfl ⟨rfl, rfl, rfl, rfl, rfl⟩ rfl rfl rfl rfl rfl (by kernel_rfl) Try.func7 (by kernel_rfl)
    (of_decide_eq_true (by kernel_rfl)) (by unfold Func.isWrapper; first | (rw [if_pos (by decide +kernel)]; kernel_rfl) | (rw [if_neg (by decide +kernel)]; exact ⟨rfl, rfl⟩))
    (fun os started H enc _ => lifted7 os started H enc)
#print axioms AuthNone_holds
end Go.Proofs.Yteghmoijhcdpeaa
