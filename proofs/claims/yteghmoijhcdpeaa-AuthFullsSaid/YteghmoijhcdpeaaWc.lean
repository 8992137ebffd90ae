/- The walk's rules for ends, loops and cuts, and its step: plain lemmas, used by all proofs of this seat. -/
import Derived.Test.YteghmoijhcdpeaaWb
set_option linter.unusedSimpArgs false
set_option linter.unusedVariables false
namespace Go.Proofs.Yteghmoijhcdpeaa
open Go.RowKit

section
variable {P : Program} {E : Env} {n : Nat} {k : List K} {fr fr' : Fr} {S S' : List Chunk}

theorem resV_run {a : Act} {w : World} (ha : Fits n fr a) : ∀ (l : List ResultVar) (vs : List Value), resV fr l = some vs →
    (l.mapM (fun | .tmp t => pure (a.tmps.getD t undef) | .cell p t => do loadVar t (← asAddr (a.tmps.getD p undef)) : ResultVar → Sem Value)).run P w = .ok vs w := by
  intro l
  induction l with
  | nil => intro vs h; simp [resV] at h; subst h; simp
  | cons x l ih =>
    intro vs h
    cases x with
    | cell p t => cases h
    | tmp t =>
      unfold resV at h
      split at h
      · rename_i v us h1 h2
        simp only [Option.some.injEq] at h
        subst h
        have h0 := ha.get t v h1
        have : a.tmps.getD t undef = v := by simp [h0]
        simp [-Array.getD_eq_getD_getElem?, List.mapM_cons, ih _ h2, this]
      · cases h
theorem retV_run {a : Act} {w : World} {fn : Func} {v : Value} (ha : Fits n fr a) (h : retV fr fn.results = some v) : (results fn a.tmps).run P w = .ok v w := by
  unfold retV at h
  unfold results
  have hm := fun vs => resV_run (P := P) (w := w) ha fn.results.toList vs
  rw [Array.mapM_eq_mapM_toList]
  split at h
  · rename_i u hu
    simp only [Option.some.injEq] at h
    subst h
    have := hm _ hu
    simp [-Array.getD_eq_getD_getElem?]
    exact (congrArg (fun r : Result (List Value) => r.andThen fun a w' => Result.ok (if h : a.length = 1 then a[0] else Value.tuple a.toArray) w') this).trans (by simp)
  · rename_i us hne hu
    simp only [Option.some.injEq] at h
    subst h
    have := hm _ hu
    have hl : us.length ≠ 1 := by
      intro e
      obtain ⟨x, rfl⟩ := List.length_eq_one_iff.1 e
      exact hne x rfl
    simp [-Array.getD_eq_getD_getElem?]
    exact (congrArg (fun r : Result (List Value) => r.andThen fun a w' => Result.ok (if h : a.length = 1 then a[0] else Value.tuple a.toArray) w') this).trans (by simp [hl])
  · cases h
theorem Own.keep {w0 w : World} {S B C D : List Chunk} (hO : Own w0 w (S ++ C)) (h : S.flatten.Perm (B.flatten ++ D.flatten)) : Own w0 w (B ++ C) := by
  have h1 : Own w0 w (D ++ (B ++ C)) := hO.perm (by
    have := List.Perm.append_right C.flatten (h.trans List.perm_append_comm)
    simpa using this)
  clear hO h
  induction D with
  | nil => exact h1
  | cons x D ih => exact ih h1.drop
theorem W.ret {v : Value} {B D : List Chunk} (hR : E.R v B) [hS : Sub S B D] (hv : retV fr E.fn.results = some v := by rfl) : W P E n (.code .ret :: k) fr S := ⟨fun hn a w ha hO =>
  wp_ret (ret_wk ⟨ha.defers, v, retV_run ha hv, v, B, rfl, hR, hO.keep hS.out⟩)⟩
theorem W.fin {v : Value} {B D : List Chunk} (hR : E.R v B) [hS : Sub S B D] (hv : retV fr E.fn.results = some v := by rfl) : W P E n [] fr S := ⟨fun hn a w ha hO =>
  ⟨ha.defers, v, retV_run ha hv, v, B, rfl, hR, hO.keep hS.out⟩⟩

def FrSub : Fr → Fr → Prop
  | [], _ => True
  | (t, v) :: l, fr => fr.get t = some v ∧ FrSub l fr
theorem FrSub.get {l fr : Fr} (h : FrSub l fr) : ∀ t v, l.get t = some v → fr.get t = some v := by
  induction l with
  | nil => intro t v h; cases h
  | cons x l ih =>
    intro t v ht
    unfold Fr.get at ht
    split at ht
    · rename_i e
      subst e
      rw [← ht]
      exact h.1
    · exact ih h.2 t v ht
theorem FrSub.refl_ (fr : Fr) (hnd : ∀ p ∈ fr, fr.get p.1 = some p.2) : FrSub fr fr := by
  have : ∀ l : Fr, (∀ p ∈ l, fr.get p.1 = some p.2) → FrSub l fr := by
    intro l
    induction l with
    | nil => intro _; trivial
    | cons x l ih => intro h; exact ⟨h x (by simp), ih (fun p hp => h p (by simp [hp]))⟩
  exact this fr hnd

/-- What is known here is enough for I, which is all that the rest (or the next round) knows. -/
theorem W.post {I : Fr → List Chunk → Prop} {fr' : Fr} {S' D : List Chunk} (hI : I fr' S') (hf : FrSub fr' fr := by (repeat' (first | exact trivial | refine ⟨rfl, ?_⟩))) [hS : Sub S S' D] : W P E n (.post I :: k) fr S := ⟨fun hn a w ha hO =>
  ⟨fr', S', hI, by rw [hn]; exact ha.sub hf.get, hO.keep hS.out⟩⟩
/-- A loop: what holds at each round's head, with a measure that each round lowers. -/
theorem W.loop {body : Code} (I : Nat → Fr → List Chunk → Prop) {m : Nat} {fr' : Fr} {S' D : List Chunk} (h0 : I m fr' S')
    (round : ∀ m fr S, I m fr S → W P E n (.code body :: .post (fun fr' S' => ∃ m', I m' fr' S' ∧ m' < m) :: k) fr S)
    (hf : FrSub fr' fr := by (repeat' (first | exact trivial | refine ⟨rfl, ?_⟩))) [hS : Sub S S' D] : W P E n (.code (.loop body) :: k) fr S := by
  refine ⟨fun hn a w ha hO => ?_⟩
  have hm : ∀ a w, (∃ m fr S, I m fr S ∧ Fits n fr a ∧ Own E.w0 w (S ++ E.C)) → ∃ m, ∃ fr S, I m fr S ∧ Fits n fr a ∧ Own E.w0 w (S ++ E.C) := fun _ _ h => h
  have key : ∀ (N : Nat) (a : Act) (w : World), (∃ m fr S, m ≤ N ∧ I m fr S ∧ Fits n fr a ∧ Own E.w0 w (S ++ E.C)) → (Code.loop body).wp P (wk P E k) a w := by
    intro N
    refine fun a w h => ?_
    let J : Act → World → Prop := fun a w => ∃ m fr S, I m fr S ∧ Fits n fr a ∧ Own E.w0 w (S ++ E.C)
    have hJ : J a w := by obtain ⟨m, fr, S, _, h⟩ := h; exact ⟨m, fr, S, h⟩
    let μ : Act → World → Nat := fun a w => Classical.epsilon fun m => (∃ fr S, I m fr S ∧ Fits n fr a ∧ Own E.w0 w (S ++ E.C)) ∧ ∀ m', (∃ fr S, I m' fr S ∧ Fits n fr a ∧ Own E.w0 w (S ++ E.C)) → m ≤ m'
    have hμ : ∀ a w, J a w → (∃ fr S, I (μ a w) fr S ∧ Fits n fr a ∧ Own E.w0 w (S ++ E.C)) ∧ ∀ m', (∃ fr S, I m' fr S ∧ Fits n fr a ∧ Own E.w0 w (S ++ E.C)) → μ a w ≤ m' := by
      intro a w hj
      refine Classical.epsilon_spec (p := fun m => (∃ fr S, I m fr S ∧ Fits n fr a ∧ Own E.w0 w (S ++ E.C)) ∧ ∀ m', (∃ fr S, I m' fr S ∧ Fits n fr a ∧ Own E.w0 w (S ++ E.C)) → m ≤ m') ?_
      obtain ⟨m, hm⟩ := hj
      have : ∀ B m, m ≤ B → (∃ fr S, I m fr S ∧ Fits n fr a ∧ Own E.w0 w (S ++ E.C)) → ∃ m, (∃ fr S, I m fr S ∧ Fits n fr a ∧ Own E.w0 w (S ++ E.C)) ∧ ∀ m', (∃ fr S, I m' fr S ∧ Fits n fr a ∧ Own E.w0 w (S ++ E.C)) → m ≤ m' := by
        intro B
        induction B with
        | zero => intro m hmB h; exact ⟨m, h, fun m' _ => by omega⟩
        | succ B ih =>
          intro m hmB h
          by_cases hx : ∃ m', m' < m ∧ ∃ fr S, I m' fr S ∧ Fits n fr a ∧ Own E.w0 w (S ++ E.C)
          · obtain ⟨m', hlt, h'⟩ := hx
            exact ih m' (by omega) h'
          · exact ⟨m, h, fun m' h' => Nat.le_of_not_lt fun hlt => hx ⟨m', hlt, h'⟩⟩
      exact this m m (Nat.le_refl _) hm
    refine wp_loop J μ hJ fun a w hj => ?_
    obtain ⟨⟨fr, S, hI, hfit, hO⟩, _⟩ := hμ a w hj
    have hr := (round (μ a w) fr S hI).out hn a w hfit hO
    refine wp_mono hr fun e a' w' hq => ?_
    cases e with
    | normal =>
      obtain ⟨fr', S', ⟨m', hI', hlt⟩, hfit', hO'⟩ := hq
      rw [hn] at hfit'
      have hj' : J a' w' := ⟨m', fr', S', hI', hfit', hO'⟩
      exact ⟨hj', Nat.lt_of_le_of_lt ((hμ a' w' hj').2 m' ⟨fr', S', hI', hfit', hO'⟩) hlt⟩
    | exit id => exact hq
    | goto l => exact hq
    | ret => exact hq
    | panic ch => exact hq
    | outgrown => exact hq
  exact key m a w ⟨m, fr', S', Nat.le_refl _, h0, ha.sub hf.get, hO.keep hS.out⟩
/-- A cut: the first part's ways meet, and the rest knows I alone. -/
theorem W.cut {c : Code} (I : Fr → List Chunk → Prop) (h1 : W P E n (.code c :: .post I :: k) fr S) (h2 : ∀ fr S, I fr S → W P E n k fr S) : W P E n (.code c :: k) fr S := by
  refine ⟨fun hn a w ha hO => ?_⟩
  refine wp_mono (h1.out hn a w ha hO) fun e a' w' hq => ?_
  cases e with
  | normal =>
    obtain ⟨fr', S', hI, hfit, hO'⟩ := hq
    rw [hn] at hfit
    exact (h2 fr' S' hI).out hn a' w' hfit hO'
  | exit id => exact hq
  | goto l => exact hq
  | ret => exact hq
  | panic ch => exact hq
  | outgrown => exact hq
/-- A part of what is known. -/
theorem W.keep (fr' : Fr) (S' : List Chunk) {D : List Chunk} (h : W P E n k fr' S') (hf : FrSub fr' fr := by (repeat' (first | exact trivial | refine ⟨rfl, ?_⟩))) [hS : Sub S S' D] : W P E n k fr S := h.mono hf.get fun _ hO => hO.keep hS.out

end
end Go.Proofs.Yteghmoijhcdpeaa
