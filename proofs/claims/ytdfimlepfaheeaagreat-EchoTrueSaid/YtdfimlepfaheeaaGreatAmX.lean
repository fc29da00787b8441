/- AmX: from a world to a state, and back. -/
import Derived.Test.YtdfimlepfaheeaaGreatAmS
import Derived.Test.YtdfimlepfaheeaaGreatAmO
set_option linter.unusedVariables false
set_option linter.unusedSimpArgs false
namespace Go.AM
open Go.RowKit (Below)

/-- A cell that an old block may have. -/
def plainV (n : Nat) : Value → Bool
  | .bool _ | .int .. | .string _ | .slice none .. => true
  | .slice (some ⟨m, _, none⟩) _ c => Nat.blt m n && Nat.blt c capx
  | _ => false
def oldO (n : Nat) (b : Option Obj) : Option AObj :=
  match b with
  | some (.cells cs _ _) => some (.old (cs.toList.map fun v => if plainV n v = true then v else .agg #[]))
  | _ => none
/-- The state at the beginning. -/
def St.ofW (w : World) : St := ⟨w.heap.size, fun i => oldO w.heap.size w.heap[i]?, .leaf, w.heap.size⟩
def Mu.ofW (w : World) : Mu := ⟨w.heap.size, fun i => i, fun _ => 0, fun _ => 0⟩

theorem VR.plain {w : World} {v : Value} (h : plainV w.heap.size v = true) : VR (Mu.ofW w) v v := by
  unfold plainV at h
  split at h
  · exact .bool _
  · exact .int _ _
  · exact .string _
  · exact .sl0 _ _
  · rename_i m off l c
    simp only [Bool.and_eq_true, Nat.blt_eq] at h
    exact .sl (μ := Mu.ofW w) m off l c h.1 h.2
  · cases h

theorem LR.plain {w : World} : ∀ {l : List Value}, l.all (plainV w.heap.size) = true → LR (Mu.ofW w) l l
  | [], _ => LR.nil _
  | v :: l, h => by
    simp only [List.all_cons, Bool.and_eq_true] at h
    exact LR.cons (VR.plain h.1) (LR.plain h.2)

theorem St.ofW_get (w : World) (i : Nat) : (St.ofW w).get i = oldO w.heap.size w.heap[i]? := by
  rw [St.get_eq]
  by_cases h : i < w.heap.size
  · exact if_pos h
  · refine (if_neg h).trans ?_
    rw [Array.getElem?_eq_none (by omega)]
    rfl

theorem Rel.ofW (w : World) : Rel w.heap.size (Mu.ofW w) (St.ofW w) w where
  n := rfl
  bc := Nat.le_refl _
  lw := Nat.le_refl _
  lt i o h := by
    rw [St.ofW_get] at h
    rcases Nat.lt_or_ge i w.heap.size with hl | hl
    · exact hl
    · rw [Array.getElem?_eq_none hl] at h; cases h
  obj i o h := by
    rw [St.ofW_get] at h
    unfold oldO at h
    split at h
    · rename_i cs e fr hb
      injection h with h
      subst h
      refine ⟨cs, e, fr, hb, by simp, fun i v v' hv hv' ho => ?_⟩
      rw [List.getElem?_map, hv'] at hv
      simp only [Option.map_some, Option.some.injEq] at hv
      split at hv
      · rename_i hp; subst hv; exact VR.plain hp
      · subst hv; cases ho
    · cases h
  inj i j oi oj _ _ h := h
  own i o hb h := by
    rw [St.ofW_get, Array.getElem?_eq_none hb] at h; cases h
  wr i o hb h := by
    rw [St.ofW_get, Array.getElem?_eq_none hb] at h; cases h

/-- No state at all. -/
def St.nil : St := ⟨0, fun _ => none, .leaf, 0⟩
def Mu.nil : Mu := ⟨0, fun i => i, fun _ => 0, fun _ => 0⟩
theorem St.nil_get (i : Nat) : St.nil.get i = none := by rw [St.get_eq]; simp [St.nil]
theorem Rel.nil (w : World) : Rel w.heap.size Mu.nil St.nil w where
  n := rfl
  bc := Nat.le_refl _
  lw := Nat.le_refl _
  lt i o h := by rw [St.nil_get] at h; cases h
  obj i o h := by rw [St.nil_get] at h; cases h
  inj i j oi oj h := by rw [St.nil_get] at h; cases h
  own i o _ h := by rw [St.nil_get] at h; cases h
  wr i o _ h := by rw [St.nil_get] at h; cases h

/-- A function of nothing that says true says true in every world, and changes nothing that is there. -/
theorem hook_of_run {P : Program} (hm : P.follows .mixedOrders = true) {f : Nat} {S1 : St} (h : callS P (fun _ => none) f [] St.nil = some (.bool true, S1)) : HookSound P (hookOf f) := by
  intro g k hg args S v S' hk lo μ w args' hR hA
  unfold hookOf at hg
  split at hg
  · rename_i he
    have hgf : g = f := Nat.eq_of_beq_eq_true he
    subst hgf
    injection hg with hg
    subst hg
    simp only at hk
    split at hk
    · injection hk with hk
      injection hk with h1 h2
      subst h1 h2
      have ha : args' = #[] := by
        have := hA.cases_nil
        exact Array.toList_eq_nil_iff.mp this
      subst ha
      have keep : ∀ {w' : World} {μ' : Mu}, Post w.heap.size Mu.nil w S1 μ' w' → Post lo μ w S μ w' := by
        intro w' μ' hp
        have hb := hp.below
        refine ⟨μ.le_refl, hR.congr (Nat.le_trans hR.lw hb.size) fun i o hi => ?_, hb.mono hR.lw⟩
        exact hb.block _ (hR.obj i o hi).lt
      rcases callS_sound hm (fun f h hh => by cases hh) g [] St.nil (.bool true) S1 h w.heap.size Mu.nil w #[] (Rel.nil w) (LR.nil _) with ⟨h1, h2⟩ | ⟨v', μ', w', h1, h2, h3⟩
      · refine Or.inl ⟨h1, h2.mono fun e w' ⟨v', μ', he, hv, hp⟩ => ?_⟩
        exact ⟨v', μ, he, by cases hv; exact .bool true, keep hp⟩
      · exact Or.inr ⟨v', μ, w', h1, by cases h2; exact .bool true, keep h3⟩
    · cases hk
  · cases hg

/-- A call that comes to true, in the world. -/
theorem calls_of_run {P : Program} {H : HK} (hm : P.follows .mixedOrders = true) (hH : HookSound P H) {f : Nat} {fn : Func} {c : Code} (hf : P.funcs[f]? = some fn) {args : Array Value} (hent : ∀ w, (callFunc f args).run P w = .ok (.enter f args) w) {W : World} (ha : args.toList.all (plainV W.heap.size) = true) {S1 : St}
    (h : callS P H f args.toList (St.ofW W) = some (.bool true, S1)) :
    Calls P f args W fun e w' => e = .returned (.bool true) ∧ Below W.heap.size W w' := by
  rcases callS_sound hm hH f _ _ _ S1 h W.heap.size (Mu.ofW W) W args (Rel.ofW W) (LR.plain ha) with ⟨h1, h2⟩ | ⟨v', μ', w', h1, h2, h3⟩
  · refine h2.mono fun e w' ⟨v', μ', he, hv, hp⟩ => ?_
    cases hv
    exact ⟨he, hp.below⟩
  · rw [hent W] at h1
    simp at h1

end Go.AM
