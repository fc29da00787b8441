/- AmN: the abstract machine is sound at regions whose order is open. -/
import Derived.Test.YtdfimlepfaheeaaGreatAmM
set_option linter.unusedVariables false
set_option linter.unusedSimpArgs false
namespace Go.AM
open Go.RowKit (Below)

theorem wantedE_congr {ops : Array Oper} {o : Oper} {e1 e2 : Env} (h : ∀ t ∈ namesOf ops o, e1.get t = e2.get t) : wantedE ops o e1 = wantedE ops o e2 := by
  unfold wantedE
  cases hg : o.guard with
  | none => rfl
  | some g =>
    obtain ⟨j, want⟩ := g
    simp only
    cases hd : (ops[j]?).bind (·.dst) with
    | none => rfl
    | some t => simp only; rw [h t (by simp [namesOf, hg, hd])]

theorem quiet_doOp {P : Program} {callF : CF} {o : Oper} {e : Env} {S : St} (hq : isEff P o = false) : doOp P callF o e S = opS P e.ev o S := by
  unfold doOp
  split
  · rename_i f args ts ho
    obtain ⟨dst, op, ty, pos, after, g⟩ := o
    simp only at ho
    subst ho
    simp [isEff] at hq
  · rfl

section
variable {P : Program} {callF : CF} {ops : Array Oper} {plan : List (Nat × List Nat)}

theorem posAnc (F : Facts P ops plan) : ∀ (n i : Nat), i < n → ∀ (p : Nat) (rs : List Nat), plan[p]? = some (i, rs) → ∀ j, j ∈ (ancs ops).getD i [] → ∃ (q : Nat) (rs' : List Nat), q < p ∧ plan[q]? = some (j, rs')
  | 0, i, h => by omega
  | n + 1, i, hi => fun p rs hp j hj => by
    have hlt := F.lt p i rs hp
    obtain ⟨o, ho⟩ : ∃ o, ops[i]? = some o := ⟨ops[i], by simp [hlt]⟩
    obtain ⟨d, hd, hor⟩ := F.an i o ho j hj
    obtain ⟨hdi, hpos⟩ := F.edge i o ho d hd
    obtain ⟨q, rs', hq, hpl⟩ := hpos p rs hp
    rcases hor with rfl | hor
    · exact ⟨q, rs', hq, hpl⟩
    · obtain ⟨q', rs'', hq', hpl'⟩ := posAnc F n d (by omega) q rs' hpl j hor
      exact ⟨q', rs'', by omega, hpl'⟩

theorem closedAnc (F : Facts P ops plan) {L : Nat → Prop} (hcl : ∀ i o, ops[i]? = some o → L i → ∀ d ∈ edges o, L d) : ∀ (n i : Nat), i < n → i < ops.size → L i → ∀ j, j ∈ (ancs ops).getD i [] → L j
  | 0, i, h => by omega
  | n + 1, i, hi => fun hlt hL j hj => by
    obtain ⟨o, ho⟩ : ∃ o, ops[i]? = some o := ⟨ops[i], by simp [hlt]⟩
    obtain ⟨d, hd, hor⟩ := F.an i o ho j hj
    obtain ⟨hdi, _⟩ := F.edge i o ho d hd
    have hLd := hcl i o ho hL d hd
    rcases hor with rfl | hor
    · exact hLd
    · exact closedAnc F hcl n d (by omega) (by omega) hLd j hor

/-- Which places of the plan have been done. -/
def selOf (plan : List (Nat × List Nat)) (listed : Array Bool) (p : Nat) : Bool :=
  match plan[p]? with
  | some (i, _) => listed.getD i false
  | none => false

def dstAt (ops : Array Oper) (plan : List (Nat × List Nat)) (p : Nat) : Option Tmp := (plan[p]?).bind fun x => (ops[x.1]?).bind (·.dst)

theorem dstAt_eq {p i : Nat} {rs : List Nat} {o : Oper} (hp : plan[p]? = some (i, rs)) (ho : ops[i]? = some o) : dstAt ops plan p = o.dst := by simp [dstAt, hp, ho]

variable {e0 : Env} {S0 : St} {r : Env × St} {E : Nat → Env} {M : Nat → St} {V : Nat → Value}

theorem run_env (F : Facts P ops plan) (hr : RunAt P callF ops plan e0 S0 r E M V) : ∀ p, p ≤ plan.length → E p = envSel (dstAt ops plan) V e0 (fun _ => true) p
  | 0, _ => hr.e0
  | p + 1, h => by
    obtain ⟨⟨i, rs⟩, hp⟩ : ∃ x, plan[p]? = some x := ⟨plan[p], by simp [show p < plan.length by omega]⟩
    obtain ⟨o, ho, hs, _⟩ := hr.step p i rs hp
    rw [hs.1, run_env F hr p (by omega)]
    show _ = (if true = true then _ else _)
    rw [if_pos rfl, dstAt_eq hp ho]

theorem run_mem (F : Facts P ops plan) (hr : RunAt P callF ops plan e0 S0 r E M V) {p1 : Nat} : ∀ p2, p1 ≤ p2 → p2 ≤ plan.length → (∀ (q i : Nat) (rs : List Nat) (o : Oper), p1 ≤ q → q < p2 → plan[q]? = some (i, rs) → ops[i]? = some o → isEff P o = false) → M p2 = M p1
  | 0, h, _, _ => by have : p1 = 0 := by omega
                     subst this; rfl
  | p + 1, h, hl, hq => by
    by_cases e : p1 = p + 1
    · subst e; rfl
    · rw [← run_mem F hr p (by omega) (by omega) (fun q i rs o h1 h2 => hq q i rs o h1 (by omega))]
      obtain ⟨⟨i, rs⟩, hp⟩ : ∃ x, plan[p]? = some x := ⟨plan[p], by simp [show p < plan.length by omega]⟩
      obtain ⟨o, ho, hs, _⟩ := hr.step p i rs hp
      have hqo := hq p i rs o (by omega) (by omega) hp ho
      rcases hs.2 with ⟨_, hd⟩ | ⟨_, _, hS⟩
      · rw [quiet_doOp hqo] at hd
        exact quiet_state hqo hd
      · exact hS

end

/-- What holds while some of a region's operations are done. -/
structure Inv (P : Program) (ops : Array Oper) (plan : List (Nat × List Nat)) (e0 : Env) (M : Nat → St) (V : Nat → Value) (lo : Nat) (μ0 : Mu) (w0 : World) (listed : Array Bool) (a : Act) (w : World) (pm : Nat) (μ : Mu) : Prop where
  size : listed.size = ops.size
  closed : ∀ (i : Nat) (o : Oper), ops[i]? = some o → listed.getD i false = true → ∀ d ∈ edges o, listed.getD d false = true
  pmle : pm ≤ plan.length
  effs : ∀ (q j : Nat) (rs : List Nat) (oj : Oper), plan[q]? = some (j, rs) → ops[j]? = some oj → isEff P oj = true → (listed.getD j false = true ↔ q < pm)
  last : pm = 0 ∨ ∃ (j : Nat) (rs : List Nat) (oj : Oper), 0 < pm ∧ plan[pm - 1]? = some (j, rs) ∧ ops[j]? = some oj ∧ isEff P oj = true
  env : ERel μ (envSel (dstAt ops plan) V e0 (selOf plan listed) plan.length) a
  post : Post lo μ0 w0 (M pm) μ w

theorem getD_set (l : Array Bool) (i j : Nat) (hi : i < l.size) : (l.setIfInBounds i true).getD j false = (if i = j then true else l.getD j false) := by
  simp only [Array.getD_eq_getD_getElem?, Array.getElem?_setIfInBounds]
  by_cases h : i = j
  · subst h; simp [hi]
  · simp [h]

theorem count_pos {l : List Bool} (h : 0 < l.count false) : ∃ i : Nat, l[i]? = some false := by
  have := List.count_pos_iff.1 h
  exact List.mem_iff_getElem?.1 this

theorem draw_sound {P : Program} {callF : CF} (hc : CallSound P callF) (hm : P.follows .mixedOrders = true) : DrawSound P callF := by
  intro ops hok hplan id lo μ0 e0 S0 a0 w0 x e' S' hR hE h
  have F := facts_of hplan
  generalize planOf P ops = plan at h hplan F
  simp only at h
  cases hrun : runPlan P callF ops plan e0 S0 with
  | none => simp [hrun] at h
  | some r =>
    simp [hrun] at h
    obtain ⟨rfl, rfl, rfl⟩ := h
    obtain ⟨E, M, V, hr⟩ := run_at plan e0 S0 r hrun
    have hn := F.len
    refine wp_region_any hm ?_
    -- the statement, of whatever has been done
    have key : ∀ (fuel : Nat) (listed : Array Bool) (a : Act) (w : World) (pm : Nat) (μ : Mu), Inv P ops plan e0 M V lo μ0 w0 listed a w pm μ → listed.toList.count false = fuel →
        wpAny P .any ops (StOut lo μ0 w0 .normal r.1 r.2) fuel listed a w := by
      intro fuel
      induction fuel with
      | zero =>
        intro listed a w pm μ I hcnt
        have hall : ∀ i, i < ops.size → listed.getD i false = true := by
          intro i hi
          rw [← I.size] at hi
          cases hb : listed[i]? with
          | none => rw [Array.getElem?_eq_getElem hi] at hb; cases hb
          | some b =>
            cases b with
            | true => simp [Array.getD_eq_getD_getElem?, hb]
            | false =>
              exfalso
              have : false ∈ listed.toList := List.mem_iff_getElem?.2 ⟨i, by simpa using hb⟩
              have := List.count_pos_iff.2 this
              omega
        refine ⟨?_, rfl, μ, ?_, ?_⟩
        · simp only [Region.ready, List.filter_eq_nil_iff]
          intro i hi
          have hi' : i < ops.size := by simpa using hi
          have := hall i hi'
          have h2 : listed.getD i true = true := by
            rw [Array.getD_eq_getD_getElem?] at this ⊢
            cases hb : listed[i]? with
            | none => simp [hb] at this
            | some b => simp [hb] at this ⊢; exact this
          simp only [h2, Bool.not_true, Bool.false_and]
          simp
        · have e1 : r.1 = E plan.length := by rw [← hr.fin]
          rw [e1]
          refine ⟨I.env.sz.trans ?_, fun t => ?_, I.env.defers⟩
          · rw [envSel_sz, run_env F hr _ (Nat.le_refl _), envSel_sz]
          · rw [run_env F hr _ (Nat.le_refl _)]
            have := I.env.get t
            rwa [envSel_get (s2 := fun _ => true) plan.length (fun q hq _ => by
              obtain ⟨⟨i, rs⟩, hp⟩ : ∃ x, plan[q]? = some x := ⟨plan[q], by simp [hq]⟩
              simp only [selOf, hp]
              exact hall i (F.lt q i rs hp))] at this
        · have e2 : r.2 = M plan.length := by rw [← hr.fin]
          rw [e2, run_mem F hr plan.length I.pmle (Nat.le_refl _) (fun q i rs o h1 h2 hp ho => by
            cases hb : isEff P o with
            | false => rfl
            | true =>
              have := (I.effs q i rs o hp ho hb).1 (hall i (F.lt q i rs hp))
              omega)]
          exact I.post
      | succ fuel ih =>
        intro listed a w pm μ I hcnt
        have hL : ∀ i, i < ops.size → ∀ j, listed.getD i false = true → j ∈ (ancs ops).getD i [] → listed.getD j false = true := fun i hi j h1 h2 =>
          closedAnc F (L := fun i => listed.getD i false = true) I.closed (i + 1) i (by omega) hi h1 j h2
        have hPos : ∀ (i p : Nat) (rs : List Nat), plan[p]? = some (i, rs) → ∀ j, j ∈ (ancs ops).getD i [] → ∃ (q : Nat) (rs' : List Nat), q < p ∧ plan[q]? = some (j, rs') := fun i p rs hp j hj => posAnc F (i + 1) i (by omega) p rs hp j hj
        constructor
        · -- something is ready
          intro hnone
          exfalso
          have hsome : ∀ (n p : Nat), p < n → p < plan.length → selOf plan listed p = false → False := by
            intro n
            induction n with
            | zero => intro p h; omega
            | succ n ihn =>
              intro p hpn hpl hs
              obtain ⟨⟨i, rs⟩, hp⟩ : ∃ x, plan[p]? = some x := ⟨plan[p], by simp [hpl]⟩
              have hi := F.lt p i rs hp
              obtain ⟨o, ho⟩ : ∃ o, ops[i]? = some o := ⟨ops[i], by simp [hi]⟩
              simp only [selOf, hp] at hs
              by_cases hed : ∀ d ∈ edges o, listed.getD d false = true
              · have : i ∈ Region.ready .any ops listed := by
                  simp only [Region.ready, List.mem_filter, List.mem_range]
                  refine ⟨hi, ?_⟩
                  have h2 : listed.getD i true = false := by
                    have hi' : i < listed.size := by rw [I.size]; exact hi
                    rw [Array.getD_eq_getD_getElem?, Array.getElem?_eq_getElem hi'] at hs ⊢
                    exact hs
                  simp only [h2, Bool.not_false, Bool.true_and, ho, Option.map_some, Option.getD_some]
                  rw [Array.all_eq_true']
                  intro ed hed'
                  cases hb : Region.binds .any ed with
                  | false => rfl
                  | true =>
                    simp only [Bool.not_true, Bool.false_or]
                    refine hed ed.on ?_
                    simp only [edges, List.mem_filterMap]
                    exact ⟨ed, by simpa using hed', by simp [hb]⟩
                rw [hnone] at this
                simp at this
              · have : ∃ d, d ∈ edges o ∧ listed.getD d false ≠ true := by
                  by_cases hx : ∃ d, d ∈ edges o ∧ listed.getD d false ≠ true
                  · exact hx
                  · exact absurd (fun d hd => by
                      by_cases hy : listed.getD d false = true
                      · exact hy
                      · exact absurd ⟨d, hd, hy⟩ hx) hed
                obtain ⟨d, hd, hnd⟩ := this
                obtain ⟨hdi, hpos⟩ := F.edge i o ho d hd
                obtain ⟨q, rs', hq, hpq⟩ := hpos p rs hp
                refine ihn q (by omega) (by omega) ?_
                simp only [selOf, hpq]
                simpa using hnd
          obtain ⟨i, hi⟩ := count_pos (l := listed.toList) (by omega)
          have hi' : i < ops.size := by
            rw [← I.size]
            rcases Nat.lt_or_ge i listed.size with h | h
            · exact h
            · rw [List.getElem?_eq_none (by simpa using h)] at hi; cases hi
          obtain ⟨p, rs, hp⟩ := F.cover i hi'
          refine hsome (p + 1) p (by omega) ?_ ?_
          · rcases Nat.lt_or_ge p plan.length with h | h
            · exact h
            · rw [List.getElem?_eq_none h] at hp; cases hp
          · simp only [selOf, hp, Array.getD_eq_getD_getElem?]
            have : listed[i]? = some false := by simpa using hi
            simp [this]
        · -- each of those that are ready
          intro i hready
          simp only [Region.ready, List.mem_filter, List.mem_range, Bool.and_eq_true] at hready
          obtain ⟨hi, hnl, hed⟩ := hready
          obtain ⟨o, ho⟩ : ∃ o, ops[i]? = some o := ⟨ops[i], by simp [hi]⟩
          have hils : i < listed.size := by rw [I.size]; exact hi
          have hni : listed.getD i false = false := by
            rw [Array.getD_eq_getD_getElem?, Array.getElem?_eq_getElem hils] at hnl ⊢
            simpa using hnl
          have hedge : ∀ d ∈ edges o, listed.getD d false = true := by
            intro d hd
            simp only [edges, List.mem_filterMap] at hd
            obtain ⟨ed, hed1, hed2⟩ := hd
            simp only [ho, Option.map_some, Option.getD_some] at hed
            rw [Array.all_eq_true'] at hed
            have := hed ed (by simpa using hed1)
            cases hb : Region.binds .any ed with
            | false => simp [hb] at hed2
            | true =>
              simp [hb] at hed2 this
              rw [← hed2]
              simpa using this
          have hAnc : ∀ j, j ∈ (ancs ops).getD i [] → listed.getD j false = true := by
            intro j hj
            obtain ⟨d, hd, hor⟩ := F.an i o ho j hj
            have hLd := hedge d hd
            rcases hor with rfl | hor
            · exact hLd
            · exact hL d (by have := (F.edge i o ho d hd).1; omega) j hLd hor
          obtain ⟨p, rs, hp⟩ := F.cover i hi
          have hpl : p < plan.length := by
            rcases Nat.lt_or_ge p plan.length with h | h
            · exact h
            · rw [List.getElem?_eq_none h] at hp; cases hp
          obtain ⟨o', ho', hstep, hchk⟩ := hr.step p i rs hp
          rw [ho] at ho'; injection ho' with ho'; subst ho'
          have hokO : okOps o = true := List.all_eq_true.1 hok o (List.mem_of_getElem? (by simpa using ho))
          -- a place that writes what this one names, behind it: not done
          have later : ∀ (t q : Nat), (t ∈ namesOf ops o ∨ o.dst = some t) → p ≤ q → q < plan.length → dstAt ops plan q = some t → selOf plan listed q = false := by
            intro t q ht hpq hql hd
            obtain ⟨⟨j, rs'⟩, hq⟩ : ∃ x, plan[q]? = some x := ⟨plan[q], by simp [hql]⟩
            have hj := F.lt q j rs' hq
            obtain ⟨oj, hoj⟩ : ∃ o, ops[j]? = some o := ⟨ops[j], by simp [hj]⟩
            rw [dstAt_eq hq hoj] at hd
            simp only [selOf, hq]
            by_cases hij : i = j
            · subst hij; exact hni
            · rcases F.names i o t ho ht j oj hoj hij hd with h1 | h1
              · obtain ⟨q', rs'', hq', hpq'⟩ := hPos i p rs hp j h1
                have := F.nodup q q' j rs' rs'' hq hpq'
                omega
              · cases hb : listed.getD j false with
                | false => rfl
                | true => rw [hL j hj i hb h1] at hni; cases hni
          -- ahead of it: done
          have ahead : ∀ (t q : Nat), (t ∈ namesOf ops o ∨ o.dst = some t) → q < p → dstAt ops plan q = some t → selOf plan listed q = true := by
            intro t q ht hpq hd
            obtain ⟨⟨j, rs'⟩, hq⟩ : ∃ x, plan[q]? = some x := ⟨plan[q], by simp [show q < plan.length by omega]⟩
            have hj := F.lt q j rs' hq
            obtain ⟨oj, hoj⟩ : ∃ o, ops[j]? = some o := ⟨ops[j], by simp [hj]⟩
            rw [dstAt_eq hq hoj] at hd
            simp only [selOf, hq]
            have hij : i ≠ j := fun e => by
              subst e
              have := F.nodup p q i rs rs' hp hq
              omega
            rcases F.names i o t ho ht j oj hoj hij hd with h1 | h1
            · exact hAnc j h1
            · obtain ⟨q', rs'', hq', hpq'⟩ := hPos j q rs' hq i h1
              have := F.nodup p q' i rs rs'' hp hpq'
              omega
          have agree : ∀ t, t ∈ namesOf ops o → (envSel (dstAt ops plan) V e0 (selOf plan listed) plan.length).get t = (E p).get t := by
            intro t ht
            rw [envSel_stop plan.length (by omega : p ≤ plan.length) (fun q h1 h2 h3 => later t q (.inl ht) h1 h2 h3), run_env F hr p (by omega)]
            exact envSel_get p (fun q h1 h2 => ahead t q (.inl ht) h1 h2)
          -- what comes behind it
          have hsel2 : ∀ q, selOf plan (listed.setIfInBounds i true) q = if q = p then true else selOf plan listed q := by
            intro q
            unfold selOf
            cases hq : plan[q]? with
            | none =>
              have : q ≠ p := fun e => by subst e; rw [hp] at hq; cases hq
              simp [this]
            | some x =>
              obtain ⟨j, rs'⟩ := x
              simp only [getD_set _ _ _ hils]
              by_cases e : i = j
              · subst e
                have := F.nodup q p i rs' rs hq hp
                simp [this]
              · have : q ≠ p := fun e2 => by subst e2; rw [hp] at hq; injection hq with hq; injection hq with h1 h2; exact e h1
                simp [e, this]
          have next : ∀ (v' : Value) (μ' : Mu) (w' : World) (pm' : Nat), VR μ' (V p) v' → Post lo μ0 w0 (M pm') μ' w' → μ.le μ' → pm' ≤ plan.length →
              (∀ (q j : Nat) (rs : List Nat) (oj : Oper), plan[q]? = some (j, rs) → ops[j]? = some oj → isEff P oj = true → ((listed.setIfInBounds i true).getD j false = true ↔ q < pm')) →
              (pm' = 0 ∨ ∃ (j : Nat) (rs : List Nat) (oj : Oper), 0 < pm' ∧ plan[pm' - 1]? = some (j, rs) ∧ ops[j]? = some oj ∧ isEff P oj = true) →
              wpAny P .any ops (StOut lo μ0 w0 .normal r.1 r.2) fuel (listed.setIfInBounds i true) (a.put o.dst v') w' := by
            intro v' μ' w' pm' hv hpost hle hpml heffs hlast
            refine ih _ _ _ pm' μ' ⟨by simpa using I.size, ?_, hpml, heffs, hlast, ?_, hpost⟩ ?_
            · intro j oj hoj hl d hd
              rw [getD_set _ _ _ hils] at hl ⊢
              split
              · rfl
              · split at hl
                · rename_i e
                  subst e
                  rw [ho] at hoj; injection hoj with hoj; subst hoj
                  exact hedge d hd
                · exact I.closed j oj hoj hl d hd
            · have h0 := (I.env.mono hle).put o.dst hv
              refine ⟨h0.sz.trans (by rw [Env.sz_put, envSel_sz, envSel_sz]), fun t => ?_, h0.defers⟩
              have h1 := h0.get t
              have : (envSel (dstAt ops plan) V e0 (selOf plan (listed.setIfInBounds i true)) plan.length).get t = ((envSel (dstAt ops plan) V e0 (selOf plan listed) plan.length).put o.dst (V p)).get t := by
                by_cases hd : o.dst = some t
                · by_cases ht : t < e0.sz
                  · rw [envSel_stop plan.length (by omega : p + 1 ≤ plan.length) (fun q h1 h2 h3 => by
                      rw [hsel2, if_neg (by omega)]
                      exact later t q (.inr hd) (by omega) h2 h3)]
                    show (if selOf plan (listed.setIfInBounds i true) p then _ else _ : Env).get t = _
                    rw [hsel2, if_pos rfl, if_pos rfl, dstAt_eq hp ho, hd, Env.get_put, Env.get_put, if_pos ⟨rfl, by rw [envSel_sz]; exact ht⟩, if_pos ⟨rfl, by rw [envSel_sz]; exact ht⟩]
                  · rw [envSel_out _ (by omega), put_out _ (by rw [envSel_sz]; omega), envSel_out _ (by omega)]
                · rw [put_other _ hd]
                  refine envSel_get _ (fun q hq hdq => ?_)
                  rw [hsel2]
                  split
                  · rename_i e
                    subst e
                    rw [dstAt_eq hp ho] at hdq
                    exact absurd hdq hd
                  · rfl
              rw [this]
              exact h1
            · have hcs := List.count_set (l := listed.toList) (i := i) (a := true) (b := false) (by simpa using hils)
              rw [Array.toList_setIfInBounds, hcs]
              have : listed.toList[i]'(by simpa using hils) = false := by
                rw [Array.getD_eq_getD_getElem?, Array.getElem?_eq_getElem hils] at hni
                simpa using hni
              simp [this]
              simp at hcnt
              omega
          have hRc := I.post.rel
          unfold wpOp
          simp only [ho]
          rw [I.env.wanted, wantedE_congr agree]
          have hnotL : ¬ (listed.getD i false = true) := by rw [hni]; simp
          cases heff : isEff P o with
          | true =>
            have hpm : pm ≤ p := by
              rcases Nat.lt_or_ge p pm with h | h
              · exact absurd ((I.effs p i rs o hp ho heff).2 h) hnotL
              · exact h
            have hno : ∀ (q j : Nat) (rs' : List Nat) (oj : Oper), pm ≤ q → q < p → plan[q]? = some (j, rs') → ops[j]? = some oj → isEff P oj = false := by
              intro q j rs' oj h1 h2 hq hoj
              cases hb : isEff P oj with
              | false => rfl
              | true =>
                exfalso
                have hij : i ≠ j := fun e => by
                  subst e
                  have := F.nodup p q i rs rs' hp hq
                  omega
                rcases F.eff i j o oj ho hoj hij heff hb with h3 | h3
                · have := (I.effs q j rs' oj hq hoj hb).1 (hAnc j h3)
                  omega
                · obtain ⟨q', rs'', hq', hpq'⟩ := hPos j q rs' hq i h3
                  have := F.nodup p q' i rs rs'' hp hpq'
                  omega
            have hMp : M p = M pm := run_mem F hr p hpm (by omega) hno
            have heffs' : ∀ (q j : Nat) (rs' : List Nat) (oj : Oper), plan[q]? = some (j, rs') → ops[j]? = some oj → isEff P oj = true → ((listed.setIfInBounds i true).getD j false = true ↔ q < p + 1) := by
              intro q j rs' oj hq hoj hb
              rw [getD_set _ _ _ hils]
              by_cases hij : i = j
              · subst hij
                have := F.nodup p q i rs rs' hp hq
                simp; omega
              · have hqp : q ≠ p := fun e => by subst e; rw [hp] at hq; injection hq with hq; injection hq with h1 h2; exact hij h1
                simp only [hij, if_false]
                rw [I.effs q j rs' oj hq hoj hb]
                constructor
                · intro h; omega
                · intro h
                  rcases Nat.lt_or_ge q pm with h' | h'
                  · exact h'
                  · have := hno q j rs' oj h' (by omega) hq hoj
                    rw [hb] at this; cases this
            have hlast' : p + 1 = 0 ∨ ∃ (j : Nat) (rs : List Nat) (oj : Oper), 0 < p + 1 ∧ plan[p + 1 - 1]? = some (j, rs) ∧ ops[j]? = some oj ∧ isEff P oj = true := .inr ⟨i, rs, o, by omega, by simpa using hp, ho, heff⟩
            rcases hstep.2 with ⟨hw, hd⟩ | ⟨hw, hv, hS⟩
            · rw [if_pos hw]
              rw [hMp] at hd
              refine .inl (doOp_wp hc hRc (e := E p) (fun x hx => ?_) hd ?_)
              · have hokx := List.all_eq_true.1 hokO x (by simpa using hx)
                cases x with
                | tmp t =>
                  have := I.env.get t
                  rw [agree t (by simp only [namesOf, List.mem_append, List.mem_filterMap]; exact .inl ⟨.tmp t, by simpa using hx, rfl⟩)] at this
                  exact this
                | const v => exact af_refl μ hokx
                | func f => exact func_VR (LR.nil μ) (LR.nil μ)
                | global g => cases hokx
              · intro v' μ' w' hv hpost
                exact next v' μ' w' (p + 1) hv (I.post.trans hpost) hpost.le (by omega) heffs' hlast'
            · rw [if_neg (by rw [hw]; simp)]
              refine next undef μ w (p + 1) (by rw [hv]; exact VR.undef μ) ?_ μ.le_refl (by omega) heffs' hlast'
              rw [hS, hMp]
              exact I.post
          | false =>
            have heffs' : ∀ (q j : Nat) (rs' : List Nat) (oj : Oper), plan[q]? = some (j, rs') → ops[j]? = some oj → isEff P oj = true → ((listed.setIfInBounds i true).getD j false = true ↔ q < pm) := by
              intro q j rs' oj hq hoj hb
              rw [getD_set _ _ _ hils]
              by_cases hij : i = j
              · subst hij
                rw [ho] at hoj; injection hoj with hoj; subst hoj
                rw [heff] at hb; cases hb
              · simp only [hij, if_false]
                exact I.effs q j rs' oj hq hoj hb
            -- what it tells, of the memory that is there now
            have tells : wantedE ops o (E p) = true → ∃ e1 : Env, (∀ t ∈ namesOf ops o, e1.get t = (E p).get t) ∧ doOp P callF o e1 (M pm) = some (V p, M pm) := by
              intro hw
              have hd : opS P (E p).ev o (M p) = some (V p, M (p + 1)) := by
                rcases hstep.2 with ⟨_, hd⟩ | ⟨hw', _, _⟩
                · rwa [quiet_doOp heff] at hd
                · rw [hw] at hw'; cases hw'
              have hS := quiet_state heff hd
              rw [hS] at hd
              cases hmem : isMem P o with
              | false => exact ⟨E p, fun _ _ => rfl, by rw [quiet_doOp heff]; exact quiet_indep heff hmem hd _⟩
              | true =>
                have hprev : ∀ (q j : Nat) (rs' : List Nat) (oj : Oper), q < p → plan[q]? = some (j, rs') → ops[j]? = some oj → isEff P oj = true → q < pm := by
                  intro q j rs' oj h2 hq hoj hb
                  rcases F.mem j i oj o hoj ho hb heff hmem with h3 | h3 | ⟨p', rs'', hp', hin⟩
                  · exact (I.effs q j rs' oj hq hoj hb).1 (hAnc j h3)
                  · obtain ⟨q', rs'', hq', hpq'⟩ := hPos j q rs' hq i h3
                    have := F.nodup p q' i rs rs'' hp hpq'
                    omega
                  · obtain ⟨_, _, _, _, ⟨q', rs3, hq', hpq'⟩, _⟩ := F.again p' j rs'' i hp' hin
                    have := F.nodup p q' i rs rs3 hp hpq'
                    have := F.nodup q p' j rs' rs'' hq hp'
                    omega
                rcases Nat.lt_or_ge p pm with hlt | hge
                · -- looked at again behind the last effect
                  rcases I.last with h0 | ⟨f, rsf, of, hpos, hf, hof, heof⟩
                  · omega
                  · have hLf := (I.effs (pm - 1) f rsf of hf hof heof).2 (by omega)
                    rcases F.mem f i of o hof ho heof heff hmem with h3 | h3 | ⟨p', rs'', hp', hin⟩
                    · obtain ⟨q', rs'', hq', hpq'⟩ := hPos i p rs hp f h3
                      have := F.nodup (pm - 1) q' f rsf rs'' hf hpq'
                      omega
                    · exact absurd (hL f (F.lt _ _ _ hf) i hLf h3) hnotL
                    · have hpe := F.nodup (pm - 1) p' f rsf rs'' hf hp'
                      rw [← hpe] at hp'
                      obtain ⟨o2, ho2, hds, _, _, hw1, hw2⟩ := F.again (pm - 1) f rs'' i hp' hin
                      rw [ho] at ho2; injection ho2 with ho2; subst ho2
                      obtain ⟨_, _, _, hch⟩ := hr.step (pm - 1) f rs'' hp'
                      have hre := List.all_eq_true.1 hch i hin
                      rw [show pm - 1 + 1 = pm by omega] at hre
                      have hsame : ∀ t ∈ namesOf ops o, (E pm).get t = (E p).get t := by
                        intro t ht
                        rw [run_env F hr pm I.pmle, run_env F hr p (by omega)]
                        refine envSel_stop pm (by omega) (fun q h1 h2 h3 => ?_)
                        exfalso
                        have hql : q < plan.length := by have := I.pmle; omega
                        obtain ⟨⟨j, rs'⟩, hq⟩ : ∃ x, plan[q]? = some x := ⟨plan[q], by simp [hql]⟩
                        have hj := F.lt q j rs' hq
                        obtain ⟨oj, hoj⟩ : ∃ o, ops[j]? = some o := ⟨ops[j], by simp [hj]⟩
                        rw [dstAt_eq hq hoj] at h3
                        obtain ⟨q', rs3, hq', hpq'⟩ := hPos i p rs hp j (hw1 t ht j oj hoj h3)
                        have := F.nodup q q' j rs' rs3 hq hpq'
                        omega
                      unfold recheck at hre
                      simp only [ho] at hre
                      rw [wantedE_congr hsame, if_pos hw] at hre
                      split at hre
                      · rename_i d v S2 hdd hop
                        simp only [Bool.and_eq_true, blt_eq, decide_eq_true_eq] at hre
                        have hvv := vsame_eq hre.2
                        have hS2 := quiet_state heff hop
                        have hget : (E pm).get d = V p := by
                          rw [run_env F hr pm I.pmle]
                          rw [envSel_stop pm (by omega : p + 1 ≤ pm) (fun q h1 h2 h3 => by
                            exfalso
                            have hql : q < plan.length := by have := I.pmle; omega
                            obtain ⟨⟨j, rs'⟩, hq⟩ : ∃ x, plan[q]? = some x := ⟨plan[q], by simp [hql]⟩
                            have hj := F.lt q j rs' hq
                            obtain ⟨oj, hoj⟩ : ∃ o, ops[j]? = some o := ⟨ops[j], by simp [hj]⟩
                            rw [dstAt_eq hq hoj] at h3
                            have hji : j ≠ i := fun e => by
                              subst e
                              have := F.nodup p q j rs rs' hp hq
                              omega
                            exact hw2 j oj hoj hji (h3.trans hdd.symm))]
                          show (if true = true then _ else _ : Env).get d = _
                          have hlt' := hre.1
                          rw [run_env F hr pm I.pmle, envSel_sz] at hlt'
                          rw [if_pos rfl, dstAt_eq hp ho, hdd, Env.get_put, if_pos ⟨rfl, by rw [envSel_sz]; exact hlt'⟩]
                        refine ⟨E pm, hsame, ?_⟩
                        rw [quiet_doOp heff, hop, hS2, hvv, hget]
                      · cases hre
                · have hMp : M p = M pm := run_mem F hr p hge (by omega) (fun q j rs' oj h1 h2 hq hoj => by
                    cases hb : isEff P oj with
                    | false => rfl
                    | true => have := hprev q j rs' oj h2 hq hoj hb; omega)
                  exact ⟨E p, fun _ _ => rfl, by rw [quiet_doOp heff, ← hMp]; exact hd⟩
            cases hw : wantedE ops o (E p) with
            | true =>
              rw [if_pos rfl]
              obtain ⟨e1, hag, hd⟩ := tells hw
              refine .inl (doOp_wp hc hRc (e := e1) (fun x hx => ?_) hd ?_)
              · have hokx := List.all_eq_true.1 hokO x (by simpa using hx)
                cases x with
                | tmp t =>
                  have ht : t ∈ namesOf ops o := by simp only [namesOf, List.mem_append, List.mem_filterMap]; exact .inl ⟨.tmp t, by simpa using hx, rfl⟩
                  have := I.env.get t
                  rw [agree t ht, ← hag t ht] at this
                  exact this
                | const v => exact af_refl μ hokx
                | func f => exact func_VR (LR.nil μ) (LR.nil μ)
                | global g => cases hokx
              · intro v' μ' w' hv hpost
                exact next v' μ' w' pm hv (I.post.trans hpost) hpost.le I.pmle heffs' I.last
            | false =>
              rw [if_neg (by simp)]
              have hv : V p = undef := by
                rcases hstep.2 with ⟨hw', _⟩ | ⟨_, hv, _⟩
                · rw [hw] at hw'; cases hw'
                · exact hv
              exact next undef μ w pm (by rw [hv]; exact VR.undef μ) I.post μ.le_refl I.pmle heffs' I.last
    -- at the beginning
    have hsz : (Array.replicate ops.size false).size = ops.size := by simp
    have hfalse : ∀ i, (Array.replicate ops.size false).getD i false = false := fun i => by
      rw [Array.getD_eq_getD_getElem?, Array.getElem?_replicate]
      split <;> rfl
    have hsel0 : ∀ q, selOf plan (Array.replicate ops.size false) q = false := fun q => by
      unfold selOf
      split
      · exact hfalse _
      · rfl
    have henv0 : ∀ q, envSel (dstAt ops plan) V e0 (selOf plan (Array.replicate ops.size false)) q = e0 := by
      intro q
      induction q with
      | zero => rfl
      | succ q ihq =>
        show (if selOf plan (Array.replicate ops.size false) q then _ else _ : Env) = e0
        rw [hsel0, if_neg (by simp), ihq]
    refine key ops.size (Array.replicate ops.size false) a0 _ 0 μ0 ⟨hsz, ?_, Nat.zero_le _, ?_, .inl rfl, ?_, ?_⟩ ?_
    · intro i o hi hl; rw [hfalse] at hl; cases hl
    · intro q j rs oj _ _ _; rw [hfalse]; simp
    · rw [henv0]; exact hE
    · rw [hr.s0]; exact Post.drew hR
    · simp [List.count_replicate]

end Go.AM
