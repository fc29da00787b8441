/- AmK: the abstract machine is sound: operations in order, statements, functions, calls (regions whose order is open: a hypothesis here). -/
import Derived.Test.YtdfimlepfaheeaaGreatAmJ
set_option linter.unusedVariables false
set_option linter.unusedSimpArgs false
namespace Go.AM
open Go.RowKit (Below)

abbrev CF := FuncId → List Value → St → Option (Value × St)

def CallOut (P : Program) (lo : Nat) (μ : Mu) (w : World) (g : FuncId) (args' : Array Value) (v : Value) (S' : St) : Prop :=
  ((callFunc g args').run P w = .ok (.enter g args') w ∧ Calls P g args' w fun e w' => ∃ v' μ', e = .returned v' ∧ VR μ' v v' ∧ Post lo μ w S' μ' w') ∨
  ∃ v' μ' w', (callFunc g args').run P w = .ok (.value v') w' ∧ VR μ' v v' ∧ Post lo μ w S' μ' w'

/-- What calls answer, they answer in memory. -/
def CallSound (P : Program) (callF : CF) : Prop :=
  ∀ g args S v S', callF g args S = some (v, S') → ∀ lo μ w args', Rel lo μ S w → LR μ args args'.toList → CallOut P lo μ w g args' v S'

structure ERel (μ : Mu) (e : Env) (a : Act) : Prop where
  sz : a.tmps.size = e.sz
  get : ∀ t, VR μ (e.get t) (a.tmps.getD t undef)
  defers : a.defers = []

theorem ERel.mono {μ ν : Mu} (hm : μ.le ν) {e : Env} {a : Act} (h : ERel μ e a) : ERel ν e a := ⟨h.sz, fun t => (h.get t).mono hm, h.defers⟩

theorem blt_eq (a b : Nat) : Nat.blt a b = decide (a < b) := by
  by_cases h : a < b
  · simp [h, Nat.blt_eq]
  · have : Nat.blt a b = false := by rw [← Bool.not_eq_true, Nat.blt_eq]; exact h
    simp [this, h]

theorem Env.get_put (e : Env) (d t : Nat) (v : Value) : (e.put (some d) v).get t = if t = d ∧ d < e.sz then v else e.get t := by
  unfold Env.put
  simp only [blt_eq]
  by_cases h : d < e.sz
  · simp only [h, decide_true, cond_true, Env.get, PM.get_set, and_true]
    by_cases e1 : t = d <;> simp [e1]
  · simp [h]
@[simp] theorem Env.sz_put (e : Env) (d : Option Tmp) (v : Value) : (e.put d v).sz = e.sz := by
  unfold Env.put
  cases d with
  | none => rfl
  | some d => simp only; cases Nat.blt d e.sz <;> rfl

theorem Act.put_get (a : Act) (d t : Nat) (v : Value) : (a.put (some d) v).tmps.getD t undef = if t = d ∧ d < a.tmps.size then v else a.tmps.getD t undef := by
  simp only [Act.put, Array.getD_eq_getD_getElem?, Array.getElem?_setIfInBounds]
  by_cases e1 : t = d
  · subst e1
    by_cases h : t < a.tmps.size
    · simp [h]
    · simp [h]
  · rw [if_neg (Ne.symm e1), if_neg (by simp [e1])]

theorem ERel.put {μ : Mu} {e : Env} {a : Act} (h : ERel μ e a) (d : Option Tmp) {v v' : Value} (hv : VR μ v v') : ERel μ (e.put d v) (a.put d v') := by
  cases d with
  | none => exact h
  | some d =>
    refine ⟨?_, fun t => ?_, ?_⟩
    · simp [Act.put, h.sz]
    · rw [Env.get_put, Act.put_get, h.sz]
      split
      · exact hv
      · exact h.get t
    · exact h.defers

theorem ERel.ev {μ : Mu} {e : Env} {a : Act} (h : ERel μ e a) {x : Operand} (hx : okX x = true) : VR μ (e.ev x) (a.eval x) := by
  cases x with
  | tmp t => exact h.get t
  | const v => exact af_refl μ hx
  | func f => exact func_VR (LR.nil μ) (LR.nil μ)
  | global g => cases hx

theorem ERel.wanted {μ : Mu} {e : Env} {a : Act} (h : ERel μ e a) (ops : Array Oper) (o : Oper) : Region.wanted o (yielded ops a.tmps) = wantedE ops o e := by
  unfold Region.wanted wantedE yielded
  cases o.guard with
  | none => rfl
  | some g =>
    obtain ⟨j, want⟩ := g
    simp only
    cases hd : (ops[j]?).bind (·.dst) with
    | none => simp [hd]
    | some t =>
      simp only [hd, Option.bind_some]
      have hv := h.get t
      cases ht : a.tmps[t]? with
      | none =>
        rw [Array.getD_eq_getD_getElem?, ht] at hv
        simp only [Option.getD_none] at hv
        generalize e.get t = x at hv
        unfold undef at hv
        cases hv
        rfl
      | some x =>
        rw [Array.getD_eq_getD_getElem?, ht] at hv
        simp only [Option.getD_some] at hv
        generalize e.get t = y at hv
        cases hv <;> first | rfl | (simp; rename_i b; cases b <;> cases want <;> rfl)

section
variable {P : Program} {callF : CF} {lo : Nat} {μ : Mu} {S : St} {w : World} {Q : Exit → Act → World → Prop}

theorem doOp_wp (hc : CallSound P callF) (hR : Rel lo μ S w) {o : Oper} {e : Env} {a : Act} (hρ : ∀ x ∈ o.op.operands, VR μ (e.ev x) (a.eval x)) {v : Value} {S' : St}
    (h : doOp P callF o e S = some (v, S')) {K : Act → World → Prop} (hK : ∀ v' μ' w', VR μ' v v' → Post lo μ w S' μ' w' → K (a.put o.dst v') w') : o.wp P a w K Q := by
  have hop : opS P e.ev o S = some (v, S') → o.wp P a w K Q := by
    intro h
    obtain ⟨nx, v', μ', w', h1, h2, h3, h4⟩ := opS_ok hR hρ h
    unfold Oper.wp
    rw [h1]
    rcases h2 with rfl | ⟨rfl, rfl⟩
    · exact hK v' μ' w' h3 h4
    · exact hK undef μ' w' h3 h4
  obtain ⟨dst, op, ty, pos, after, gd⟩ := o
  unfold doOp at h
  split at h
  · rename_i f args ts ho
    simp only at ho
    subst ho
    unfold callV at h
    split at h
    · rename_i g first captured hf
      have hfv := hρ f (by simp [Op.operands, Call.operands])
      rw [hf] at hfv
      generalize hfe : a.eval f = fv at hfv
      cases hfv with
      | func _ _ first' _ captured' ha hb ea eb =>
        have hargs : LR μ (args.toList.map e.ev) (args.map a.eval).toList := by
          rw [Array.toList_map]
          exact LR.map_mem _ _ _ (fun x hx => hρ x (by simp [Op.operands, Call.operands]; exact .inr (by simpa using hx)))
        have hall : LR μ (first.toList ++ args.toList.map e.ev ++ captured.toList) (first' ++ args.map a.eval ++ captured').toList := by
          rw [Array.toList_append, Array.toList_append]
          exact ((LR.of_array ha ea).append hargs).append (LR.of_array hb eb)
        have hrun : (execOp a.eval ⟨dst, .call ⟨.value f, args, ts⟩, ty, pos, after, gd⟩).run P w = (callFunc g (first' ++ args.map a.eval ++ captured')).run P w := by
          simp only [execOp, resolve, hfe, Deferred.ofValue]
          show (Sem.bind (Sem.pure _) _).run P w = _
          simp only [Sem.bind, invoke]
        unfold Oper.wp
        rw [hrun]
        rcases hc _ _ _ _ _ h lo μ w _ hR hall with ⟨h1, h2⟩ | ⟨v', μ', w', h1, h2, h3⟩
        · rw [h1]
          refine h2.mono ?_
          rintro e w' ⟨v', μ', rfl, h3, h4⟩
          exact hK v' μ' w' h3 h4
        · rw [h1]
          exact hK v' μ' w' h2 h3
    · cases h
  · exact hop h

theorem stepOp_wp (hc : CallSound P callF) (hR : Rel lo μ S w) {ops : Array Oper} {i : Nat} {o : Oper} (hi : ops[i]? = some o) (hok : okOps o = true) {e e' : Env} {a : Act} (hE : ERel μ e a) {S' : St}
    (h : stepOp P callF ops o e S = some (e', S')) {K : Act → World → Prop} (hK : ∀ a' μ' w', ERel μ' e' a' → Post lo μ w S' μ' w' → K a' w') : wpOp P ops Q i K a w := by
  unfold wpOp
  simp only [hi]
  unfold stepOp at h
  rw [hE.wanted]
  split at h
  · rename_i hw
    rw [if_pos hw]
    cases hd : doOp P callF o e S with
    | none => simp [hd] at h
    | some r =>
      obtain ⟨v, S2⟩ := r
      simp only [hd] at h
      injection h with h
      injection h with h1 h2
      subst h1; subst h2
      refine .inl (doOp_wp hc hR (fun x hx => hE.ev (List.all_eq_true.1 hok x (by simpa using hx))) hd ?_)
      intro v' μ' w' hv hp
      exact hK _ μ' w' ((hE.mono hp.le).put _ hv) hp
  · rename_i hw
    injection h with h
    injection h with h1 h2
    subst h1; subst h2
    rw [if_neg hw]
    exact hK _ μ w (hE.put _ (VR.undef μ)) (Post.refl hR)

theorem runOps_wp (hc : CallSound P callF) {ops : Array Oper} : ∀ (l : List Oper) (k : Nat), (∀ j o, l[j]? = some o → ops[k + j]? = some o) → (∀ o ∈ l, okOps o = true) → k + l.length = ops.size →
    ∀ (e : Env) (S : St) (a : Act) (μ : Mu) (w : World) (e' : Env) (S' : St), Rel lo μ S w → ERel μ e a → runOps P callF ops l e S = some (e', S') →
      (∀ a' μ' w', ERel μ' e' a' → Post lo μ w S' μ' w' → Q .normal a' w') → wpOps P ops Q (List.range' k l.length) a w
  | [], k, _, _, _, e, S, a, μ, w, e', S', hR, hE, h, hQ => by
    simp [runOps] at h
    obtain ⟨rfl, rfl⟩ := h
    exact hQ a μ w hE (Post.refl hR)
  | o :: l, k, hl, hok, hn, e, S, a, μ, w, e', S', hR, hE, h, hQ => by
    simp only [runOps] at h
    cases hs : stepOp P callF ops o e S with
    | none => simp [hs] at h
    | some r =>
      obtain ⟨e1, S1⟩ := r
      simp only [hs] at h
      rw [List.length_cons, List.range'_succ, wpOps_cons]
      refine stepOp_wp hc hR (by simpa using hl 0 o rfl) (hok o (by simp)) hE hs ?_
      intro a1 μ1 w1 hE1 hp1
      refine runOps_wp hc l (k + 1) (fun j o' hj => by have := hl (j + 1) o' (by simpa using hj); rwa [show k + (j + 1) = k + 1 + j by omega] at this) (fun o' ho' => hok o' (by simp [ho'])) (by simp at hn; omega)
        e1 S1 a1 μ1 w1 e' S' hp1.rel hE1 h ?_
      intro a' μ' w' hE' hp'
      exact hQ a' μ' w' hE' (hp1.trans hp')

/-! ## Statements -/

def toExit : Ex → Exit
  | .normal => .normal
  | .exit id => .exit id
  | .ret => .ret

/-- What a statement comes to. -/
def StOut (lo : Nat) (μ : Mu) (w : World) (x : Ex) (e' : Env) (S' : St) : Exit → Act → World → Prop :=
  fun ex a' w' => ex = toExit x ∧ ∃ μ', ERel μ' e' a' ∧ Post lo μ w S' μ' w'

def Sound (P : Program) (c : Code) (f : Env → St → R) : Prop :=
  ∀ lo μ e S a w x e' S', Rel lo μ S w → ERel μ e a → f e S = some (x, e', S') → c.wp P (StOut lo μ w x e' S') a w

def LoopSound (P : Program) (loopF : (Env → St → R) → Env → St → R) : Prop := ∀ c f, Sound P c f → Sound P (.loop c) (loopF f)

/-- Regions whose order is open. -/
def DrawSound (P : Program) (callF : CF) : Prop :=
  ∀ ops : Array Oper, ops.toList.all okOps = true → planOk P ops (planOf P ops) = true → ∀ id, Sound P (.region id ops true) fun e S => (runPlan P callF ops (planOf P ops) e S).map fun (e, S) => (.normal, e, S)

theorem exec_sound {loopF : (Env → St → R) → Env → St → R} (hc : CallSound P callF) (hd : DrawSound P callF) (hl : LoopSound P loopF) : ∀ c, codeOk P c = true → Sound P c (exec P callF loopF c) := by
  intro c
  induction c with
  | skip =>
    intro _ lo μ e S a w x e' S' hR hE h
    simp [exec] at h
    obtain ⟨rfl, rfl, rfl⟩ := h
    exact wp_skip ⟨rfl, μ, hE, Post.refl hR⟩
  | label l =>
    intro _ lo μ e S a w x e' S' hR hE h
    simp [exec] at h
    obtain ⟨rfl, rfl, rfl⟩ := h
    exact wp_label ⟨rfl, μ, hE, Post.refl hR⟩
  | exit id =>
    intro _ lo μ e S a w x e' S' hR hE h
    simp [exec] at h
    obtain ⟨rfl, rfl, rfl⟩ := h
    exact wp_exit ⟨rfl, μ, hE, Post.refl hR⟩
  | ret =>
    intro _ lo μ e S a w x e' S' hR hE h
    simp [exec] at h
    obtain ⟨rfl, rfl, rfl⟩ := h
    exact wp_ret ⟨rfl, μ, hE, Post.refl hR⟩
  | region id ops draw =>
    intro hok
    simp [codeOk] at hok
    cases draw with
    | true => exact hd ops (by simpa using hok.1) (by simpa using hok.2) id
    | false =>
      intro lo μ e S a w x e' S' hR hE h
      simp only [exec] at h
      cases hr : runOps P callF ops ops.toList e S with
      | none => simp [hr] at h
      | some r =>
        obtain ⟨e1, S1⟩ := r
        simp [hr] at h
        obtain ⟨rfl, rfl, rfl⟩ := h
        refine wp_region ?_
        have := runOps_wp (Q := StOut lo μ w .normal e1 S1) hc ops.toList 0 (fun j o hj => by simpa using hj) (fun o ho => List.all_eq_true.1 (by simpa using hok.1) o ho) (by simp) e S a μ w e1 S1 hR hE hr (fun a' μ' w' hE' hp' => ⟨rfl, μ', hE', hp'⟩)
        rw [List.range_eq_range']
        simpa using this
  | seq x y ihx ihy =>
    intro hok lo μ e S a w ex e' S' hR hE h
    simp [codeOk] at hok
    refine wp_seq ?_
    simp only [exec] at h
    split at h
    · rename_i e1 S1 h1
      refine wp_mono (ihx hok.1 lo μ e S a w _ _ _ hR hE h1) ?_
      rintro ex' a1 w1 ⟨rfl, μ1, hE1, hp1⟩
      show y.wp P _ a1 w1
      refine wp_mono (ihy hok.2 lo μ1 e1 S1 a1 w1 _ _ _ hp1.rel hE1 h) ?_
      rintro ex' a2 w2 ⟨rfl, μ2, hE2, hp2⟩
      exact ⟨rfl, μ2, hE2, hp1.trans hp2⟩
    · rename_i hne
      refine wp_mono (ihx hok.1 lo μ e S a w ex e' S' hR hE h) ?_
      rintro ex' a1 w1 ⟨rfl, μ1, hE1, hp1⟩
      cases ex with
      | normal => exact absurd h (hne e' S')
      | exit id => exact ⟨rfl, μ1, hE1, hp1⟩
      | ret => exact ⟨rfl, μ1, hE1, hp1⟩
  | cond c x y ihx ihy =>
    intro hok lo μ e S a w ex e' S' hR hE h
    simp [codeOk] at hok
    have hv := hE.ev hok.1.1
    simp only [exec] at h
    split at h
    · rename_i hb
      rw [hb] at hv
      have hc' : a.eval c = .bool true := by generalize a.eval c = z at hv; cases hv; rfl
      exact wp_cond_true hc' (ihx hok.1.2 lo μ e S a w ex e' S' hR hE h)
    · rename_i hb
      rw [hb] at hv
      have hc' : a.eval c = .bool false := by generalize a.eval c = z at hv; cases hv; rfl
      exact wp_cond_false hc' (ihy hok.2 lo μ e S a w ex e' S' hR hE h)
    · cases h
  | block id c ih =>
    intro hok lo μ e S a w ex e' S' hR hE h
    refine wp_block ?_
    simp only [exec] at h
    split at h
    · rename_i id' e1 S1 h1
      refine wp_mono (ih hok lo μ e S a w _ _ _ hR hE h1) ?_
      rintro ex' a1 w1 ⟨rfl, μ1, hE1, hp1⟩
      show (if id' = id then StOut lo μ w ex e' S' .normal a1 w1 else StOut lo μ w ex e' S' (.exit id') a1 w1)
      split at h
      · rename_i e2
        injection h with h; injection h with h2 h3; injection h3 with h3 h4
        subst h2; subst h3; subst h4
        rw [if_pos e2]
        exact ⟨rfl, μ1, hE1, hp1⟩
      · rename_i e2
        injection h with h; injection h with h2 h3; injection h3 with h3 h4
        subst h2; subst h3; subst h4
        rw [if_neg e2]
        exact ⟨rfl, μ1, hE1, hp1⟩
    · rename_i hne
      refine wp_mono (ih hok lo μ e S a w ex e' S' hR hE h) ?_
      rintro ex' a1 w1 ⟨rfl, μ1, hE1, hp1⟩
      cases ex with
      | normal => exact ⟨rfl, μ1, hE1, hp1⟩
      | exit id' => exact absurd h (hne id' e' S')
      | ret => exact ⟨rfl, μ1, hE1, hp1⟩
  | loop c ih =>
    intro hok
    exact hl c _ (ih hok)
  | scope c ih =>
    intro hok lo μ e S a w ex e' S' hR hE h
    refine wp_scope_straight (wp_mono (ih hok lo μ e S a w ex e' S' hR hE h) ?_)
    rintro ex' a1 w1 ⟨rfl, μ1, hE1, hp1⟩
    cases ex <;> exact ⟨rfl, μ1, hE1, hp1⟩
  | rangeFunc f ps x y _ _ => intro hok; simp [codeOk] at hok
  | goto l => intro hok; simp [codeOk] at hok
  | refuse s => intro hok; simp [codeOk] at hok

/-! ## A loop of so many rounds -/

theorem iter_sound (n : Nat) : LoopSound P (iter n) := by
  intro c f hf lo μ e S a w x e' S' hR hE h b k cs
  have key : ∀ n e S a μ w, Rel lo μ S w → ERel μ e a → iter n f e S = some (x, e', S') →
      ∃ ex a' w', StOut lo μ w x e' S' ex a' w' ∧ Arrives P (lone (b.at a (.code c :: .inLoop c :: k)) cs w) b k cs ex a' w' := by
    intro n
    induction n with
    | zero => intro e S a μ w hR hE h; simp [iter] at h
    | succ n ih =>
      intro e S a μ w hR hE h
      simp only [iter] at h
      split at h
      · rename_i e1 S1 h1
        obtain ⟨ex, a1, w1, ⟨rfl, μ1, hE1, hp1⟩, harr⟩ := hf lo μ e S a w _ _ _ hR hE h1 b (.inLoop c :: k) cs
        obtain ⟨ex2, a2, w2, ⟨rfl, μ2, hE2, hp2⟩, harr2⟩ := ih e1 S1 a1 μ1 w1 hp1.rel hE1 h
        exact ⟨_, a2, w2, ⟨rfl, μ2, hE2, hp1.trans hp2⟩, .of_steps (Steps.trans harr (.one step_inLoop)) harr2⟩
      · rename_i hne
        obtain ⟨ex, a1, w1, ⟨rfl, μ1, hE1, hp1⟩, harr⟩ := hf lo μ e S a w x e' S' hR hE h b (.inLoop c :: k) cs
        cases x with
        | normal => exact absurd h (hne e' S')
        | exit id => exact ⟨_, a1, w1, ⟨rfl, μ1, hE1, hp1⟩, .pass (x := .inLoop c) rfl (fun _ _ => .inl (by simp [toExit])) harr⟩
        | ret => exact ⟨_, a1, w1, ⟨rfl, μ1, hE1, hp1⟩, .pass (x := .inLoop c) rfl (fun _ _ => .inl (by simp [toExit])) harr⟩
  obtain ⟨ex, a', w', hq, harr⟩ := key n e S a μ w hR hE h
  exact ⟨ex, a', w', hq, .of_steps (.one step_loop) harr⟩

/-! ## Functions -/

theorem ofArgs_get : ∀ (l : List Value) (i t : Nat), (Env.ofArgs i l).get t = if i ≤ t ∧ t < i + l.length then l[t - i]? else none
  | [], i, t => by simp [Env.ofArgs]
  | v :: l, i, t => by
    simp only [Env.ofArgs, PM.get_set, ofArgs_get l (i + 1) t, List.length_cons]
    by_cases h : t = i
    · subst h; simp
    · rw [if_neg h]
      by_cases h2 : i + 1 ≤ t ∧ t < i + 1 + l.length
      · rw [if_pos h2, if_pos (by omega), show t - i = (t - (i + 1)) + 1 by omega]; simp
      · rw [if_neg h2, if_neg (by omega)]

theorem start_rel {args : List Value} {args' : Array Value} (n : Nat) (h : LR μ args args'.toList) :
    ERel μ (Env.start n args) { tmps := args' ++ Array.replicate (n - args'.size) undef, defers := [] } := by
  have hl : args.length = args'.size := by simpa using h.1
  refine ⟨by simp [Env.start, hl]; omega, fun t => ?_, rfl⟩
  show VR μ ((Env.start n args).get t) ((args' ++ Array.replicate (n - args'.size) undef).getD t undef)
  unfold Env.start Env.get
  simp only [ofArgs_get]
  by_cases ht : t < args.length
  · rw [if_pos ⟨Nat.zero_le _, by omega⟩]
    have := h.2 t ht
    have ht' : t < args'.size := hl ▸ ht
    simp [List.getD, ht, ht'] at this
    simp [ht, Array.getD_eq_getD_getElem?, Array.getElem?_append, ht']
    exact this
  · rw [if_neg (by omega)]
    have ht' : ¬ t < args'.size := by omega
    have : (args' ++ Array.replicate (n - args'.size) undef).getD t undef = undef := by
      rw [Array.getD_eq_getD_getElem?, Array.getElem?_append, if_neg ht', Array.getElem?_replicate]
      split <;> rfl
    rw [this]
    exact VR.undef μ

def resSem (tmps : Array Value) : ResultVar → Sem Value
  | .tmp t => pure (tmps.getD t undef)
  | .cell x t => do loadVar t (← asAddr (tmps.getD x undef))

theorem results_ok {e : Env} {a : Act} (hR : Rel lo μ S w) (hE : ERel μ e a) : ∀ (rs : List ResultVar) (l : List Value), resultsV P rs e S = some l →
    ∃ l', LR μ l l' ∧ (rs.mapM (resSem a.tmps)).run P w = .ok l' w
  | [], l, h => by
    simp [resultsV] at h
    subst h
    exact ⟨[], LR.nil μ, rfl⟩
  | .tmp t :: rest, l, h => by
    simp only [resultsV] at h
    cases hr : resultsV P rest e S with
    | none => simp [hr] at h
    | some l1 =>
      simp [hr] at h
      subst h
      obtain ⟨l', h1, h2⟩ := results_ok hR hE rest l1 hr
      refine ⟨a.tmps.getD t undef :: l', LR.cons (hE.get t) h1, ?_⟩
      have h5 : (resSem a.tmps (.tmp t)).run P w = .ok (a.tmps.getD t undef) w := rfl
      simp only [List.mapM_cons, Sem.run_bind, h5, Result.andThen, h2, Sem.run_pure]
  | .cell x t :: rest, l, h => by
    simp only [resultsV] at h
    cases hv : loadV P t (e.get x) S with
    | none => simp [hv] at h
    | some v =>
      cases hr : resultsV P rest e S with
      | none => simp [hv, hr] at h
      | some l1 =>
        simp [hv, hr] at h
        subst h
        obtain ⟨l', h1, h2⟩ := results_ok hR hE rest l1 hr
        obtain ⟨v', h3, h4⟩ := loadV_ok (P := P) hR (hE.get x) hv
        have h5 : (resSem a.tmps (.cell x t)).run P w = .ok v' w := by
          unfold loadV at hv
          split at hv
          · rename_i n off hp
            have := hE.get x
            rw [hp] at this
            show (do loadVar t (← asAddr (a.tmps.getD x undef)) : Sem Value).run P w = _
            generalize a.tmps.getD x undef = y at this h3 ⊢
            cases this
            simpa [Instr.loadAt, Instr.sureAddr, asAddr] using h3
          · cases hv
        refine ⟨v' :: l', LR.cons h4 h1, ?_⟩
        simp only [List.mapM_cons, Sem.run_bind, h5, Result.andThen, h2, Sem.run_pure]

theorem one_VR {l l' : List Value} (h : LR μ l l') : VR μ (one l) (if hs : l'.toArray.size = 1 then l'.toArray[0] else .tuple l'.toArray) := by
  by_cases h1 : l'.length = 1
  · obtain ⟨v', rfl⟩ := List.length_eq_one_iff.1 h1
    have : l.length = 1 := by rw [h.1]; rfl
    obtain ⟨v, rfl⟩ := List.length_eq_one_iff.1 this
    simp [one]
    exact h.head
  · have h2 : ¬ (l'.toArray.size = 1) := by simpa using h1
    rw [dif_neg h2]
    have : one l = .tuple l.toArray := by
      unfold one
      split
      · rename_i v; exact absurd h.1.symm (by simpa using h1)
      · rfl
    rw [this]
    exact LR.to_tuple (by simpa using h)

theorem results_run {fn : Func} {e : Env} {a : Act} (hR : Rel lo μ S w) (hE : ERel μ e a) {l : List Value} (h : resultsV P fn.results.toList e S = some l) :
    ∃ v', (results fn a.tmps).run P w = .ok v' w ∧ VR μ (one l) v' := by
  obtain ⟨l', h1, h2⟩ := results_ok (P := P) hR hE _ _ h
  refine ⟨_, ?_, one_VR h1⟩
  have hf : results fn a.tmps = (do let vs ← fn.results.mapM (resSem a.tmps); pure (if h : vs.size = 1 then vs[0] else .tuple vs)) := by
    unfold results
    congr 1
  rw [hf, Array.mapM_eq_mapM_toList]
  simp only [map_eq_pure_bind, bind_assoc, pure_bind, Sem.run_bind, h2, Result.andThen, Sem.run_pure]

theorem funcF_sound {loopF : (Env → St → R) → Env → St → R} (hc : CallSound P callF) (hd : DrawSound P callF) (hl : LoopSound P loopF) {f : FuncId} {fn : Func} (hf : P.funcs[f]? = some fn) (hok : fnOk P fn = true)
    {args : List Value} {args' : Array Value} (hR : Rel lo μ S w) (ha : LR μ args args'.toList) {v : Value} {S' : St} (h : funcF P callF loopF fn args S = some (v, S')) : CallOut P lo μ w f args' v S' := by
  unfold funcF at h
  cases hb : fn.body with
  | none => simp [hb] at h
  | some c =>
    simp only [hb] at h
    simp [fnOk, hb] at hok
    left
    constructor
    · simp [callFunc, hf, hok.1, hb]
    · refine calls_of_wp hf hb ?_
      have hE := start_rel fn.ntmps ha
      have fin : ∀ x e S1, exec P callF loopF c (Env.start fn.ntmps args) S = some (x, e, S1) → (toExit x = .normal ∨ toExit x = .ret) → ((resultsV P fn.results.toList e S1).map fun l => (one l, S1)) = some (v, S') →
          c.wp P (bodyPost P fn fun e w' => ∃ v' μ', e = .returned v' ∧ VR μ' v v' ∧ Post lo μ w S' μ' w') { tmps := args' ++ Array.replicate (fn.ntmps - args'.size) undef, defers := [] } w := by
        intro x e S1 he hx hr
        refine wp_mono (exec_sound hc hd hl c hok.2 lo μ _ S _ w x e S1 hR hE he) ?_
        rintro ex a' w' ⟨rfl, μ', hE', hp⟩
        cases hl : resultsV P fn.results.toList e S1 with
        | none => simp [hl] at hr
        | some l =>
          simp [hl] at hr
          obtain ⟨rfl, rfl⟩ := hr
          obtain ⟨v', h1, h2⟩ := results_run hp.rel hE' hl
          rcases hx with hx | hx <;> rw [hx] <;> exact ⟨hE'.defers, v', h1, v', μ', rfl, h2, hp⟩
      split at h
      · rename_i e S1 he; exact fin _ e S1 he (.inl rfl) h
      · rename_i e S1 he; exact fin _ e S1 he (.inr rfl) h
      · cases h

/-- What is known of some functions. -/
def HookSound (P : Program) (H : FuncId → Option (List Value → St → Option (Value × St))) : Prop :=
  ∀ f h, H f = some h → ∀ args S v S', h args S = some (v, S') → ∀ lo μ w args', Rel lo μ S w → LR μ args args'.toList → CallOut P lo μ w f args' v S'

theorem callK_sound {H : FuncId → Option (List Value → St → Option (Value × St))} (hH : HookSound P H) (hd : ∀ callF, CallSound P callF → DrawSound P callF) (rounds : Nat) : ∀ n, CallSound P (callK P H rounds n)
  | 0 => fun g args S v S' h => by simp [callK] at h
  | n + 1 => fun g args S v S' h lo μ w args' hR ha => by
    have ih := callK_sound hH hd rounds n
    simp only [callK] at h
    cases hg : H g with
    | some k =>
      simp only [hg] at h
      exact hH g k hg args S v S' h lo μ w args' hR ha
    | none =>
      simp only [hg] at h
      cases hf : P.funcs[g]? with
      | none => simp [hf] at h
      | some fn =>
        simp only [hf] at h
        split at h
        · rename_i hok
          exact funcF_sound ih (hd _ ih) (iter_sound rounds) hf hok hR ha h
        · cases h

end
end Go.AM
