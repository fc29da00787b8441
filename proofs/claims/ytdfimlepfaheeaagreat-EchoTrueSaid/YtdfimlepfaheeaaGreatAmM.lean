/- AmM: the abstract machine is sound at regions whose order is open: whatever order is drawn, the planned one tells the same. -/
import Derived.Test.YtdfimlepfaheeaaGreatAmL
set_option linter.unusedVariables false
set_option linter.unusedSimpArgs false
namespace Go.AM
open Go.RowKit (Below)

/-! ## What the plan's check says -/

theorem all_range {n : Nat} {p : Nat → Bool} (h : (List.range n).all p = true) {i : Nat} (hi : i < n) : p i = true := List.all_eq_true.1 h i (by simpa using hi)

theorem map_getD {α : Type} {x : Option α} {p : α → Bool} (h : (x.map p).getD false = true) : ∃ y, x = some y ∧ p y = true := by
  cases x with
  | none => cases h
  | some y => exact ⟨y, rfl, h⟩

/-- Ahead in a list. -/
theorem before_spec {l : List Nat} {i j : Nat} (h : before l i j = true) : ∃ q : Nat, l[q]? = some i ∧ ∀ r : Nat, r ≤ q → l[r]? ≠ some j := by
  unfold before at h
  replace h := List.contains_iff_mem.1 h
  induction l with
  | nil => simp at h
  | cons x l ih =>
    simp only [List.takeWhile_cons] at h
    split at h
    · rename_i hx
      have hx : x ≠ j := by simpa using hx
      rcases List.mem_cons.1 h with rfl | h
      · exact ⟨0, rfl, fun r hr => by
          have : r = 0 := by omega
          subst this
          simpa using hx⟩
      · obtain ⟨q, h1, h2⟩ := ih h
        exact ⟨q + 1, by simpa using h1, fun r hr => by
          cases r with
          | zero => simpa using hx
          | succ r => simpa using h2 r (by omega)⟩
    · simp at h

/-- The plan's facts, of positions. -/
structure Facts (P : Program) (ops : Array Oper) (plan : List (Nat × List Nat)) : Prop where
  len : plan.length = ops.size
  nodup : ∀ (p q i : Nat) (rs rs' : List Nat), plan[p]? = some (i, rs) → plan[q]? = some (i, rs') → p = q
  lt : ∀ (p i : Nat) (rs : List Nat), plan[p]? = some (i, rs) → i < ops.size
  cover : ∀ i : Nat, i < ops.size → ∃ (p : Nat) (rs : List Nat), plan[p]? = some (i, rs)
  an : ∀ (i : Nat) (o : Oper), ops[i]? = some o → ∀ j : Nat, j ∈ (ancs ops).getD i [] → ∃ d, d ∈ edges o ∧ (j = d ∨ j ∈ (ancs ops).getD d [])
  edge : ∀ (i : Nat) (o : Oper), ops[i]? = some o → ∀ d : Nat, d ∈ edges o → d < i ∧ ∀ (p : Nat) (rs : List Nat), plan[p]? = some (i, rs) → ∃ (q : Nat) (rs' : List Nat), q < p ∧ plan[q]? = some (d, rs')
  names : ∀ (i : Nat) (o : Oper) (t : Nat), ops[i]? = some o → (t ∈ namesOf ops o ∨ o.dst = some t) → ∀ (j : Nat) (oj : Oper), ops[j]? = some oj → i ≠ j → oj.dst = some t → j ∈ (ancs ops).getD i [] ∨ i ∈ (ancs ops).getD j []
  eff : ∀ (i j : Nat) (oi oj : Oper), ops[i]? = some oi → ops[j]? = some oj → i ≠ j → isEff P oi = true → isEff P oj = true → j ∈ (ancs ops).getD i [] ∨ i ∈ (ancs ops).getD j []
  mem : ∀ (f r : Nat) (of or : Oper), ops[f]? = some of → ops[r]? = some or → isEff P of = true → isEff P or = false → isMem P or = true → f ∈ (ancs ops).getD r [] ∨ r ∈ (ancs ops).getD f [] ∨
    ∃ (p : Nat) (rs : List Nat), plan[p]? = some (f, rs) ∧ r ∈ rs
  again : ∀ (p f : Nat) (rs : List Nat) (r : Nat), plan[p]? = some (f, rs) → r ∈ rs → ∃ o, ops[r]? = some o ∧ o.dst.isSome = true ∧ isEff P o = false ∧ (∃ (q : Nat) (rs' : List Nat), q < p ∧ plan[q]? = some (r, rs')) ∧
    (∀ t : Nat, t ∈ namesOf ops o → ∀ (j : Nat) (oj : Oper), ops[j]? = some oj → oj.dst = some t → j ∈ (ancs ops).getD r []) ∧ (∀ (j : Nat) (oj : Oper), ops[j]? = some oj → j ≠ r → oj.dst ≠ o.dst)

theorem facts_of {P : Program} {ops : Array Oper} {plan : List (Nat × List Nat)} (h : planOk P ops plan = true) : Facts P ops plan := by
  unfold planOk at h
  simp only [Bool.and_eq_true] at h
  obtain ⟨⟨⟨⟨⟨⟨⟨⟨h1, h2⟩, h3⟩, h4⟩, h5⟩, h6⟩, h7⟩, h8⟩, h9⟩ := h
  have ordAt : ∀ (p i : Nat) (rs : List Nat), plan[p]? = some (i, rs) → (plan.map (·.1))[p]? = some i := fun p i rs hp => by simp [hp]
  have atOrd : ∀ (p i : Nat), (plan.map (·.1))[p]? = some i → ∃ rs, plan[p]? = some (i, rs) := fun p i hp => by
    simp only [List.getElem?_map, Option.map_eq_some_iff] at hp
    obtain ⟨⟨i', rs⟩, h, rfl⟩ := hp
    exact ⟨rs, h⟩
  have bef : ∀ (i j : Nat), before (plan.map (·.1)) i j = true → ∀ (p : Nat) (rs : List Nat), plan[p]? = some (j, rs) → ∃ (q : Nat) (rs' : List Nat), q < p ∧ plan[q]? = some (i, rs') := by
    intro i j hb p rs hp
    obtain ⟨q, hq1, hq2⟩ := before_spec hb
    obtain ⟨rs', hq⟩ := atOrd q i hq1
    refine ⟨q, rs', ?_, hq⟩
    rcases Nat.lt_or_ge q p with h | h
    · exact h
    · exact absurd (ordAt p j rs hp) (hq2 p h)
  have sz : ∀ {i : Nat} {o : Oper}, ops[i]? = some o → i < ops.size := fun {i o} hi => by
    rcases Nat.lt_or_ge i ops.size with h | h
    · exact h
    · rw [Array.getElem?_eq_none h] at hi; cases hi
  have con : ∀ {l : List Nat} {x : Nat}, l.contains x = true → x ∈ l := fun {l x} h => List.contains_iff_mem.1 h
  refine ⟨by simpa using h1, ?_, ?_, ?_, ?_, ?_, ?_, ?_, ?_, ?_⟩
  · intro p q i rs rs' hp hq
    have hn : (plan.map (·.1)).Nodup := by simpa using h3
    have e1 := ordAt p i rs hp
    have e2 := ordAt q i rs' hq
    have l1 : p < (plan.map (·.1)).length := by
      rcases Nat.lt_or_ge p (plan.map (·.1)).length with h | h
      · exact h
      · rw [List.getElem?_eq_none h] at e1; cases e1
    exact (List.getElem?_inj l1 hn).1 (e1.trans e2.symm)
  · intro p i rs hp
    have := List.all_eq_true.1 h2 i (List.mem_of_getElem? (ordAt p i rs hp))
    simpa [blt_eq] using this
  · intro i hi
    have := con (all_range h4 hi)
    obtain ⟨p, hp⟩ := List.mem_iff_getElem?.1 this
    obtain ⟨rs, hp'⟩ := atOrd p i hp
    exact ⟨p, rs, hp'⟩
  · intro i o hi j hj
    have := List.all_eq_true.1 (all_range h5 (sz hi)) j hj
    obtain ⟨o', ho', hany⟩ := map_getD this
    rw [hi] at ho'; injection ho' with ho'; subst ho'
    obtain ⟨d, hd, hor⟩ := List.any_eq_true.1 hany
    simp only [Bool.or_eq_true, beq_iff_eq] at hor
    exact ⟨d, hd, hor.imp (fun h => h.symm) con⟩
  · intro i o hi d hd
    obtain ⟨o', ho', hall⟩ := map_getD (all_range h6 (sz hi))
    rw [hi] at ho'; injection ho' with ho'; subst ho'
    have := List.all_eq_true.1 hall d hd
    simp only [Bool.and_eq_true, blt_eq, decide_eq_true_eq] at this
    exact ⟨this.1, fun p rs hp => bef d i this.2 p rs hp⟩
  · intro i o t hi ht j oj hj hne hdst
    obtain ⟨o', ho', hall⟩ := map_getD (all_range h7 (sz hi))
    rw [hi] at ho'; injection ho' with ho'; subst ho'
    have := List.all_eq_true.1 hall t (by rcases ht with ht | ht <;> simp [ht])
    have := all_range this (sz hj)
    simp [hj, hdst] at this
    rcases this with (h | h) | h
    · exact absurd h hne
    · exact .inl h
    · exact .inr h
  · intro i j oi oj hi hj hne ei ej
    have := all_range (all_range h8 (sz hi)) (sz hj)
    simp [hi, hj, ei, ej] at this
    rcases this with (h | h) | h
    · exact absurd h hne
    · exact .inl h
    · exact .inr h
  · intro f r of or hf hr ef er mr
    obtain ⟨p, hp⟩ : ∃ (p : Nat) (rs : List Nat), plan[p]? = some (f, rs) := by
      obtain ⟨p, hp⟩ := List.mem_iff_getElem?.1 (con (all_range h4 (sz hf)))
      obtain ⟨rs, hp'⟩ := atOrd p f hp
      exact ⟨p, rs, hp'⟩
    obtain ⟨rs, hp⟩ := hp
    have := List.all_eq_true.1 h9 (f, rs) (List.mem_of_getElem? hp)
    simp only [Bool.and_eq_true] at this
    have := all_range this.1 (sz hr)
    simp [hf, hr, ef, er, mr] at this
    rcases this with (h | h) | h
    · exact .inl h
    · exact .inr (.inl h)
    · exact .inr (.inr ⟨p, rs, hp, h.1⟩)
  · intro p f rs r hp hr
    have := List.all_eq_true.1 h9 (f, rs) (List.mem_of_getElem? hp)
    simp only [Bool.and_eq_true] at this
    obtain ⟨o, ho, hall⟩ := map_getD (List.all_eq_true.1 this.2 r hr)
    simp only [Bool.and_eq_true] at hall
    obtain ⟨⟨⟨⟨a1, a2⟩, a3⟩, a4⟩, a5⟩ := hall
    refine ⟨o, ho, a1, by simpa using a2, bef r f a3 p rs hp, ?_, ?_⟩
    · intro t ht j oj hj hdst
      have := all_range (List.all_eq_true.1 a4 t ht) (sz hj)
      simp [hj, hdst] at this
      exact this
    · intro j oj hj hne hd
      have := all_range a5 (sz hj)
      simp [hj, hd] at this
      exact hne this.symm

/-! ## The planned run, place by place -/

/-- What a step does: the value that it puts. -/
def StepAt (P : Program) (callF : CF) (ops : Array Oper) (o : Oper) (e : Env) (S : St) (v : Value) (e' : Env) (S' : St) : Prop :=
  e' = e.put o.dst v ∧ ((wantedE ops o e = true ∧ doOp P callF o e S = some (v, S')) ∨ (wantedE ops o e = false ∧ v = undef ∧ S' = S))

theorem stepOp_spec {P : Program} {callF : CF} {ops : Array Oper} {o : Oper} {e e' : Env} {S S' : St} (h : stepOp P callF ops o e S = some (e', S')) : ∃ v, StepAt P callF ops o e S v e' S' := by
  unfold stepOp at h
  split at h
  · rename_i hw
    cases hd : doOp P callF o e S with
    | none => simp [hd] at h
    | some r =>
      obtain ⟨v, S2⟩ := r
      simp only [hd] at h
      injection h with h; injection h with h1 h2
      subst h1; subst h2
      exact ⟨v, rfl, .inl ⟨hw, hd⟩⟩
  · rename_i hw
    injection h with h; injection h with h1 h2
    exact ⟨undef, h1.symm, .inr ⟨by simpa using hw, rfl, h2.symm⟩⟩

structure RunAt (P : Program) (callF : CF) (ops : Array Oper) (plan : List (Nat × List Nat)) (e0 : Env) (S0 : St) (r : Env × St) (E : Nat → Env) (M : Nat → St) (V : Nat → Value) : Prop where
  e0 : E 0 = e0
  s0 : M 0 = S0
  fin : (E plan.length, M plan.length) = r
  step : ∀ (p i : Nat) (rs : List Nat), plan[p]? = some (i, rs) → ∃ o, ops[i]? = some o ∧ StepAt P callF ops o (E p) (M p) (V p) (E (p + 1)) (M (p + 1)) ∧ rs.all (recheck P ops (E (p + 1)) (M (p + 1))) = true

theorem run_at {P : Program} {callF : CF} {ops : Array Oper} : ∀ (plan : List (Nat × List Nat)) (e : Env) (S : St) (r : Env × St), runPlan P callF ops plan e S = some r → ∃ E M V, RunAt P callF ops plan e S r E M V
  | [], e, S, r, h => by
    simp [runPlan] at h
    subst h
    exact ⟨fun _ => e, fun _ => S, fun _ => undef, rfl, rfl, rfl, fun p i rs hp => by simp at hp⟩
  | (i, rs) :: rest, e, S, r, h => by
    simp only [runPlan] at h
    cases ho : ops[i]? with
    | none => simp [ho] at h
    | some o =>
      simp only [ho] at h
      cases hs : stepOp P callF ops o e S with
      | none => simp [hs] at h
      | some x =>
        obtain ⟨e1, S1⟩ := x
        simp only [hs] at h
        split at h
        · rename_i hall
          obtain ⟨E, M, V, hr⟩ := run_at rest e1 S1 r h
          obtain ⟨v, hv⟩ := stepOp_spec hs
          refine ⟨fun p => match p with | 0 => e | p + 1 => E p, fun p => match p with | 0 => S | p + 1 => M p, fun p => match p with | 0 => v | p + 1 => V p, rfl, rfl, by simpa using hr.fin, ?_⟩
          intro p j rs' hp
          cases p with
          | zero =>
            simp at hp
            obtain ⟨rfl, rfl⟩ := hp
            exact ⟨o, ho, by simpa [hr.e0, hr.s0] using hv, by simpa [hr.e0, hr.s0] using hall⟩
          | succ p => exact hr.step p j rs' (by simpa using hp)
        · cases h

/-! ## Variables behind some of the operations -/

def envSel (D : Nat → Option Tmp) (V : Nat → Value) (e0 : Env) (sel : Nat → Bool) : Nat → Env
  | 0 => e0
  | p + 1 => if sel p then (envSel D V e0 sel p).put (D p) (V p) else envSel D V e0 sel p

section
variable {D : Nat → Option Tmp} {V : Nat → Value} {e0 : Env}

theorem envSel_sz (sel : Nat → Bool) : ∀ p, (envSel D V e0 sel p).sz = e0.sz
  | 0 => rfl
  | p + 1 => by
    unfold envSel
    split
    · rw [Env.sz_put]; exact envSel_sz sel p
    · exact envSel_sz sel p

theorem put_other {e : Env} {d : Option Tmp} {t : Nat} (v : Value) (h : d ≠ some t) : (e.put d v).get t = e.get t := by
  cases d with
  | none => rfl
  | some d => rw [Env.get_put, if_neg (fun hh => h (by rw [hh.1]))]

theorem put_out {e : Env} {d : Option Tmp} {t : Nat} (v : Value) (h : e.sz ≤ t) : (e.put d v).get t = e.get t := by
  cases d with
  | none => rfl
  | some d => rw [Env.get_put, if_neg (fun hh => by rw [hh.1] at h; omega)]

theorem envSel_out (sel : Nat → Bool) {t : Nat} (h : e0.sz ≤ t) : ∀ p, (envSel D V e0 sel p).get t = e0.get t
  | 0 => rfl
  | p + 1 => by
    unfold envSel
    split
    · rw [put_out _ (by rw [envSel_sz]; exact h)]; exact envSel_out sel h p
    · exact envSel_out sel h p

/-- A variable hangs on those that write it alone. -/
theorem envSel_get {s1 s2 : Nat → Bool} {t : Nat} : ∀ p, (∀ q, q < p → D q = some t → s1 q = s2 q) → (envSel D V e0 s1 p).get t = (envSel D V e0 s2 p).get t
  | 0, _ => rfl
  | p + 1, h => by
    have ih := envSel_get p (fun q hq => h q (by omega))
    unfold envSel
    by_cases hd : D p = some t
    · rw [h p (by omega) hd]
      split
      · by_cases ht : t < e0.sz
        · rw [hd, Env.get_put, Env.get_put, if_pos ⟨rfl, by rw [envSel_sz]; exact ht⟩, if_pos ⟨rfl, by rw [envSel_sz]; exact ht⟩]
        · rw [put_out _ (by rw [envSel_sz]; omega), put_out _ (by rw [envSel_sz]; omega)]; exact ih
      · exact ih
    · split <;> split <;> (try rw [put_other _ hd]) <;> (try rw [put_other _ hd]) <;> exact ih

theorem envSel_stop {s : Nat → Bool} {t : Nat} {p : Nat} : ∀ n, p ≤ n → (∀ q, p ≤ q → q < n → D q = some t → s q = false) → (envSel D V e0 s n).get t = (envSel D V e0 s p).get t
  | 0, h, _ => by have : p = 0 := by omega
                  subst this; rfl
  | n + 1, h, hs => by
    by_cases e : p = n + 1
    · subst e; rfl
    · have ih := envSel_stop n (by omega) (fun q h1 h2 => hs q h1 (by omega))
      rw [← ih]
      show (if s n then (envSel D V e0 s n).put (D n) (V n) else envSel D V e0 s n).get t = _
      split
      · rename_i hsn
        by_cases hd : D n = some t
        · rw [hs n (by omega) (by omega) hd] at hsn; cases hsn
        · rw [put_other _ hd]
      · rfl

end

end Go.AM
