/- AmL: the abstract machine is sound at regions whose order is open. -/
import Derived.Test.YtdfimlepfaheeaaGreatAmK
set_option linter.unusedVariables false
set_option linter.unusedSimpArgs false
namespace Go.AM
open Go.RowKit (Below)

/-! ## Quiet operations -/

theorem fallback_state {P : Program} {ρ : Operand → Value} {o : Oper} {S S' : St} {v : Value} (h : fallback P ρ o S = some (v, S')) : S' = S ∧ ∀ S2, fallback P ρ o S2 = some (v, S2) := by
  unfold fallback at h
  split at h
  · rename_i hall
    split at h
    · rename_i u hr
      split at h
      · rename_i haf
        injection h with h; injection h with h1 h2
        subst h1; subst h2
        exact ⟨rfl, fun S2 => by simp [fallback, hall, hr, haf]⟩
      · cases h
    · cases h
  · cases h

theorem map_state {x : Option Value} {S S' : St} {v : Value} (h : (x.map fun v => (v, S)) = some (v, S')) : S' = S := by
  cases x with
  | none => cases h
  | some y => injection h with h; injection h with h1 h2; exact h2.symm

theorem convert_state {P : Program} {a b : TypeId} {x v : Value} {S S' : St} (hb : ∀ e, P.underlying b ≠ some (.slice e)) (h : convertV P a b x S = some (v, S')) : S' = S := by
  unfold convertV at h
  split at h
  · rename_i e s h1 h2; exact absurd h2 (hb e)
  · rename_i e0 e n off len cap h1 h2; exact absurd h2 (hb e)
  · split at h <;> first | (injection h with h; injection h with h1 h2; exact h2.symm) | cases h
  · rename_i e n off len c h1 h2
    split at h
    · cases hx : (if len = 0 then some [] else (rowAt S n off len).bind toBytes) with
      | none => simp [hx] at h
      | some l => simp [hx] at h; exact h.2.symm
    · cases hx : (if len = 0 then some [] else (rowAt S n off len).bind toRunes) with
      | none => simp [hx] at h
      | some l => simp [hx] at h; exact h.2.symm
    · cases h
  · cases h

theorem some_state {x v : Value} {S S' : St} (h : some (x, S) = some (v, S')) : S' = S := by
  injection h with h; injection h with h1 h2; exact h2.symm

theorem quiet_state {P : Program} {ρ : Operand → Value} {o : Oper} {S S' : St} {v : Value} (hq : isEff P o = false) (h : opS P ρ o S = some (v, S')) : S' = S := by
  obtain ⟨dst, op, ty, pos, after, g⟩ := o
  unfold opS at h
  cases op with
  | move x => exact some_state h
  | assign x => exact some_state h
  | pick c a b =>
    simp only at h
    split at h
    · exact some_state h
    · cases h
  | build t ps => exact map_state h
  | load t a => exact map_state h
  | nilCheck x =>
    simp only at h
    split at h
    · exact some_state h
    · exact some_state h
    · cases h
  | makeFunc fn a b => exact some_state h
  | slice t x l hi mx =>
    simp only at h
    split at h
    · exact (fallback_state h).1
    · exact map_state h
  | fieldAddr t x i => exact map_state h
  | field t x i => exact map_state h
  | indexAddr t x i => exact map_state h
  | index t x i =>
    simp only at h
    split at h
    · exact (fallback_state h).1
    · exact map_state h
  | lookup t m k ok => exact map_state h
  | extract x i =>
    simp only at h
    split at h
    · exact map_state h
    · cases h
  | unOp op t x => exact (fallback_state h).1
  | binOp op t x y yt =>
    simp only at h
    split at h
    · exact (fallback_state h).1
    · split at h
      · cases hb : eqV P t (ρ x) (ρ y) S with
        | none => simp [hb] at h
        | some b => simp [hb] at h; exact h.2.symm
      · cases hb : eqV P t (ρ x) (ρ y) S with
        | none => simp [hb] at h
        | some b => simp [hb] at h; exact h.2.symm
      · cases h
  | convert a b x =>
    have hb : ∀ e, P.underlying b ≠ some (.slice e) := fun e he => by simp [isEff, he] at hq
    simp only at h
    cases hc : convertV P a b (ρ x) S with
    | none => simp only [hc] at h; exact (fallback_state h).1
    | some r => simp only [hc] at h; injection h with h; subst h; exact convert_state hb hc
  | call c =>
    obtain ⟨callee, args, ts⟩ := c
    cases callee with
    | value f => cases h
    | invoke r m => cases h
    | builtin b =>
      simp only at h
      unfold builtinS at h
      split at h
      · simp [isEff] at hq
      · simp [isEff] at hq
      · split at h
        · exact some_state h
        · split at h
          · exact some_state h
          · cases h
        · exact (fallback_state h).1
      · split at h
        · split at h
          · cases h
          · exact some_state h
        · cases h
      · simp [isEff] at hq
      · exact (fallback_state h).1
  | alloc t => simp [isEff] at hq
  | box t x => simp [isEff] at hq
  | buildSlice t n ps => simp [isEff] at hq
  | store t a x => simp [isEff] at hq
  | makeMap t r => simp [isEff] at hq
  | makeSlice t l c => simp [isEff] at hq
  | mapUpdate t m k x => simp [isEff] at hq
  | _ => cases h

theorem map_indep {x : Option Value} {S S' : St} {v : Value} (h : (x.map fun v => (v, S)) = some (v, S')) (S2 : St) : (x.map fun v => (v, S2)) = some (v, S2) := by
  cases x with
  | none => cases h
  | some y => injection h with h; injection h with h1 h2; rw [h1]; rfl

theorem some_indep {x v : Value} {S S' : St} (h : some (x, S) = some (v, S')) (S2 : St) : some (x, S2) = some (v, S2) := by
  injection h with h; injection h with h1 h2; rw [h1]

theorem quiet_indep {P : Program} {ρ : Operand → Value} {o : Oper} {S S' : St} {v : Value} (hq : isEff P o = false) (hm : isMem P o = false) (h : opS P ρ o S = some (v, S')) (S2 : St) : opS P ρ o S2 = some (v, S2) := by
  obtain ⟨dst, op, ty, pos, after, g⟩ := o
  unfold opS at h ⊢
  cases op with
  | move x => exact some_indep h S2
  | assign x => exact some_indep h S2
  | pick c a b =>
    simp only at h ⊢
    split at h
    · exact some_indep h S2
    · cases h
  | build t ps => exact map_indep h S2
  | load t a => simp [isMem] at hm
  | nilCheck x =>
    simp only at h ⊢
    split at h
    · exact some_indep h S2
    · exact some_indep h S2
    · cases h
  | makeFunc fn a b => exact some_indep h S2
  | slice t x l hi mx => simp [isMem] at hm
  | fieldAddr t x i => exact map_indep h S2
  | field t x i => exact map_indep h S2
  | indexAddr t x i => exact map_indep h S2
  | index t x i =>
    simp only at h ⊢
    split at h
    · exact (fallback_state h).2 S2
    · exact map_indep h S2
  | lookup t m k ok => simp [isMem] at hm
  | extract x i =>
    simp only at h ⊢
    split at h
    · exact map_indep h S2
    · cases h
  | unOp op t x => exact (fallback_state h).2 S2
  | binOp op t x y yt =>
    simp only at h ⊢
    split at h
    · rename_i ha; rw [if_pos ha]; exact (fallback_state h).2 S2
    · rename_i ha
      cases op <;> first | (simp [isMem] at hm; done) | cases h
  | convert a b x =>
    have hi : ∃ k, P.underlying a = some (.int k) := by
      simp only [isMem] at hm
      split at hm
      · rename_i k hk; exact ⟨k, hk⟩
      · cases hm
    obtain ⟨k, hk⟩ := hi
    have hn : ∀ S, convertV P a b (ρ x) S = none := fun S => by unfold convertV; rw [hk]
    simp only [hn] at h ⊢
    exact (fallback_state h).2 S2
  | call c =>
    obtain ⟨callee, args, ts⟩ := c
    cases callee with
    | value f => cases h
    | invoke r m => cases h
    | builtin b =>
      simp only at h ⊢
      unfold builtinS at h ⊢
      split at h
      · simp [isEff] at hq
      · simp [isEff] at hq
      · rename_i t x e1 e2
        have hts : (ts.toList.head?).bind P.underlying = P.underlying t := by rw [e1]; rfl
        split at h
        · exact some_indep h S2
        · rename_i k e r hu hv
          simp [isMem, hts, hu] at hm
        · exact (fallback_state h).2 S2
      · simp [isMem] at hm
      · simp [isEff] at hq
      · exact (fallback_state h).2 S2
  | alloc t => simp [isEff] at hq
  | box t x => simp [isEff] at hq
  | buildSlice t n ps => simp [isEff] at hq
  | store t a x => simp [isEff] at hq
  | makeMap t r => simp [isEff] at hq
  | makeSlice t l c => simp [isEff] at hq
  | mapUpdate t m k x => simp [isEff] at hq
  | _ => cases h

theorem vbeq_eq {a b : Value} (h : vbeq a b = true) : a = b := by
  unfold vbeq at h
  split at h <;> first
    | (rename_i a b; obtain ⟨⟨a⟩⟩ := a; obtain ⟨⟨b⟩⟩ := b; simp at h; rw [h]; done)
    | simp_all

theorem vbeqL_eq : ∀ {a b : List Value}, vbeqL a b = true → a = b
  | [], [], _ => rfl
  | [], _ :: _, h => by simp [vbeqL] at h
  | _ :: _, [], h => by simp [vbeqL] at h
  | x :: a, y :: b, h => by
    simp [vbeqL] at h
    rw [vbeq_eq h.1, vbeqL_eq h.2]

theorem vsame_eq {a b : Value} (h : vsame a b = true) : a = b := by
  unfold vsame at h
  split at h
  · congr 1; exact Array.ext' (vbeqL_eq h)
  · congr 1; exact Array.ext' (vbeqL_eq h)
  · exact vbeq_eq h

end Go.AM
