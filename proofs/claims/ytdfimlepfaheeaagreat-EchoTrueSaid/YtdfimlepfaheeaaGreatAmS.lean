/- AmS: calls and loops without a count of rounds: what they come to, if they come to anything. -/
import Derived.Test.YtdfimlepfaheeaaGreatAmN
set_option linter.unusedVariables false
set_option linter.unusedSimpArgs false
namespace Go.AM

abbrev LF := (Env → St → R) → Env → St → R
abbrev HK := FuncId → Option (List Value → St → Option (Value × St))

/-- One answers whatever the other one answers. -/
def CLe (a b : CF) : Prop := ∀ f args S r, a f args S = some r → b f args S = some r
def FLe (f g : Env → St → R) : Prop := ∀ e S r, f e S = some r → g e S = some r
def LLe (a b : LF) : Prop := ∀ f g, FLe f g → FLe (a f) (b g)

theorem doOp_mono {P : Program} {a b : CF} (h : CLe a b) {o : Oper} {e : Env} {S : St} {r : Value × St} (hr : doOp P a o e S = some r) : doOp P b o e S = some r := by
  obtain ⟨dst, op, ty, pos, after, g⟩ := o
  unfold doOp at hr ⊢
  split at hr
  · rename_i f args ts ho
    simp only at ho
    subst ho
    unfold callV at hr ⊢
    split at hr
    · exact h _ _ _ _ hr
    · cases hr
  · exact hr

theorem stepOp_mono {P : Program} {a b : CF} (h : CLe a b) {ops : Array Oper} {o : Oper} {e : Env} {S : St} {r : Env × St} (hr : stepOp P a ops o e S = some r) : stepOp P b ops o e S = some r := by
  unfold stepOp at hr ⊢
  split at hr
  · rename_i hw
    rw [if_pos hw]
    cases hd : doOp P a o e S with
    | none => simp [hd] at hr
    | some x =>
      rw [hd] at hr
      rw [doOp_mono h hd]
      exact hr
  · rename_i hw
    rw [if_neg hw]
    exact hr

theorem runOps_mono {P : Program} {a b : CF} (h : CLe a b) {ops : Array Oper} : ∀ (l : List Oper) {e : Env} {S : St} {r : Env × St}, runOps P a ops l e S = some r → runOps P b ops l e S = some r
  | [], _, _, _, hr => hr
  | o :: l, e, S, r, hr => by
    simp only [runOps] at hr ⊢
    cases hd : stepOp P a ops o e S with
    | none => simp [hd] at hr
    | some x =>
      rw [hd] at hr
      rw [stepOp_mono h hd]
      exact runOps_mono h l hr

theorem runPlan_mono {P : Program} {a b : CF} (h : CLe a b) {ops : Array Oper} : ∀ (l : List (Nat × List Nat)) {e : Env} {S : St} {r : Env × St}, runPlan P a ops l e S = some r → runPlan P b ops l e S = some r
  | [], _, _, _, hr => hr
  | (i, rs) :: l, e, S, r, hr => by
    simp only [runPlan] at hr ⊢
    cases ho : ops[i]? with
    | none => simp [ho] at hr
    | some o =>
      simp only [ho] at hr ⊢
      cases hd : stepOp P a ops o e S with
      | none => simp [hd] at hr
      | some x =>
        obtain ⟨e1, S1⟩ := x
        simp only [hd] at hr
        simp only [stepOp_mono h hd]
        split at hr
        · rename_i hc; rw [if_pos hc]; exact runPlan_mono h l hr
        · cases hr

theorem exec_mono {P : Program} {a b : CF} {l m : LF} (h : CLe a b) (hl : LLe l m) : ∀ c, FLe (exec P a l c) (exec P b m c) := by
  intro c
  induction c with
  | region id ops draw =>
    intro e S r hr
    cases draw with
    | false =>
      simp only [exec] at hr ⊢
      cases hx : runOps P a ops ops.toList e S with
      | none => simp [hx] at hr
      | some x => rw [hx] at hr; rw [runOps_mono h _ hx]; exact hr
    | true =>
      simp only [exec] at hr ⊢
      cases hx : runPlan P a ops (planOf P ops) e S with
      | none => simp [hx] at hr
      | some x => rw [hx] at hr; rw [runPlan_mono h _ hx]; exact hr
  | seq x y ihx ihy =>
    intro e S r hr
    simp only [exec] at hr ⊢
    split at hr
    · rename_i e1 S1 h1
      rw [ihx _ _ _ h1]
      exact ihy _ _ _ hr
    · rename_i hne
      rw [ihx _ _ _ hr]
      split
      · rename_i e1 S1 h1; exact absurd (hr.trans h1) (hne _ _)
      · rfl
  | cond c x y ihx ihy =>
    intro e S r hr
    simp only [exec] at hr ⊢
    split at hr
    · exact ihx _ _ _ hr
    · exact ihy _ _ _ hr
    · cases hr
  | block id c ih =>
    intro e S r hr
    simp only [exec] at hr ⊢
    split at hr
    · rename_i id' e1 S1 h1
      rw [ih _ _ _ h1]
      exact hr
    · rename_i hne
      rw [ih _ _ _ hr]
      split
      · rename_i id' e1 S1 h1; exact absurd (hr.trans h1) (hne _ _ _)
      · rfl
  | loop c ih => exact hl _ _ ih
  | scope c ih => exact ih
  | _ => intro e S r hr; exact hr

theorem iter_mono {n m : Nat} (h : n ≤ m) {f g : Env → St → R} (hf : FLe f g) : FLe (iter n f) (iter m g) := by
  induction n generalizing m with
  | zero => intro e S r hr; cases hr
  | succ n ih =>
    obtain ⟨m, rfl⟩ : ∃ k, m = k + 1 := ⟨m - 1, by omega⟩
    intro e S r hr
    simp only [iter] at hr ⊢
    split at hr
    · rename_i e1 S1 h1
      rw [hf _ _ _ h1]
      exact ih (by omega) _ _ _ hr
    · rename_i hne
      rw [hf _ _ _ hr]
      split
      · rename_i e1 S1 h1; exact absurd (hr.trans h1) (hne _ _)
      · rfl

theorem iter_LLe {n m : Nat} (h : n ≤ m) : LLe (iter n) (iter m) := fun _ _ hf => iter_mono h hf

theorem funcF_mono {P : Program} {a b : CF} {l m : LF} (h : CLe a b) (hl : LLe l m) {fn : Func} {args : List Value} {S : St} {r : Value × St} (hr : funcF P a l fn args S = some r) : funcF P b m fn args S = some r := by
  unfold funcF at hr ⊢
  cases hb : fn.body with
  | none => simp [hb] at hr
  | some c =>
    simp only [hb] at hr ⊢
    cases hx : exec P a l c (Env.start fn.ntmps args) S with
    | none => simp [hx] at hr
    | some x =>
      rw [exec_mono h hl c _ _ _ hx]
      rw [hx] at hr
      exact hr

theorem callK_mono {P : Program} {H : HK} {r r' : Nat} (hr : r ≤ r') : ∀ {n m : Nat}, n ≤ m → CLe (callK P H r n) (callK P H r' m)
  | 0, m, _ => fun f args S x hx => by cases hx
  | n + 1, m, h => fun f args S x hx => by
    obtain ⟨m, rfl⟩ : ∃ k, m = k + 1 := ⟨m - 1, by omega⟩
    simp only [callK] at hx ⊢
    cases hH : H f with
    | some k => simp only [hH] at hx ⊢; exact hx
    | none =>
      simp only [hH] at hx ⊢
      cases hf : P.funcs[f]? with
      | none => simp [hf] at hx
      | some fn =>
        simp only [hf] at hx ⊢
        split at hx
        · rename_i hok
          rw [if_pos hok]
          exact funcF_mono (callK_mono hr (by omega)) (iter_LLe hr) hx
        · cases hx

/-- What a call comes to. -/
noncomputable def callS (P : Program) (H : HK) : CF := fun f args S =>
  open Classical in if h : ∃ n, (callK P H n n f args S).isSome then callK P H (Classical.choose h) (Classical.choose h) f args S else none

/-- What a loop comes to. -/
noncomputable def loopS : LF := fun f e S =>
  open Classical in if h : ∃ n, (iter n f e S).isSome then iter (Classical.choose h) f e S else none

theorem callS_of_callK {P : Program} {H : HK} {n : Nat} {f : FuncId} {args : List Value} {S : St} {r : Value × St} (h : callK P H n n f args S = some r) : callS P H f args S = some r := by
  have hex : ∃ n, (callK P H n n f args S).isSome := ⟨n, by rw [h]; rfl⟩
  unfold callS
  rw [dif_pos hex]
  have hs := Classical.choose_spec hex
  obtain ⟨r', hr'⟩ := Option.isSome_iff_exists.1 hs
  rw [hr']
  have h1 := callK_mono (P := P) (H := H) (Nat.le_max_left n (Classical.choose hex)) (Nat.le_max_left n (Classical.choose hex)) _ _ _ _ h
  have h2 := callK_mono (P := P) (H := H) (Nat.le_max_right n (Classical.choose hex)) (Nat.le_max_right n (Classical.choose hex)) _ _ _ _ hr'
  rw [h1] at h2
  exact h2.symm

theorem callK_of_callS {P : Program} {H : HK} {f : FuncId} {args : List Value} {S : St} {r : Value × St} (h : callS P H f args S = some r) : ∃ n, callK P H n n f args S = some r := by
  unfold callS at h
  split at h
  · rename_i hex; exact ⟨_, h⟩
  · cases h

theorem loopS_of_iter {f : Env → St → R} {n : Nat} {e : Env} {S : St} {r} (h : iter n f e S = some r) : loopS f e S = some r := by
  have hex : ∃ n, (iter n f e S).isSome := ⟨n, by rw [h]; rfl⟩
  unfold loopS
  rw [dif_pos hex]
  have hs := Classical.choose_spec hex
  obtain ⟨r', hr'⟩ := Option.isSome_iff_exists.1 hs
  rw [hr']
  have h1 := iter_mono (Nat.le_max_left n (Classical.choose hex)) (fun _ _ _ h => h : FLe f f) _ _ _ h
  have h2 := iter_mono (Nat.le_max_right n (Classical.choose hex)) (fun _ _ _ h => h : FLe f f) _ _ _ hr'
  rw [h1] at h2
  exact h2.symm

theorem iter_of_loopS {f : Env → St → R} {e : Env} {S : St} {r} (h : loopS f e S = some r) : ∃ n, iter n f e S = some r := by
  unfold loopS at h
  split at h
  · rename_i hex; exact ⟨_, h⟩
  · cases h

/-- A loop, one round. -/
theorem loopS_next {f : Env → St → R} {e e' : Env} {S S' : St} (h : f e S = some (.normal, e', S')) {r} (hr : loopS f e' S' = some r) : loopS f e S = some r := by
  obtain ⟨n, hn⟩ := iter_of_loopS hr
  refine loopS_of_iter (n := n + 1) ?_
  simp only [iter, h]
  exact hn
theorem loopS_exit {f : Env → St → R} {e e' : Env} {S S' : St} {id : Nat} (h : f e S = some (.exit id, e', S')) : loopS f e S = some (.exit id, e', S') :=
  loopS_of_iter (n := 1) (by simp only [iter, h])
theorem loopS_ret {f : Env → St → R} {e e' : Env} {S S' : St} (h : f e S = some (.ret, e', S')) : loopS f e S = some (.ret, e', S') :=
  loopS_of_iter (n := 1) (by simp only [iter, h])

/-! ## What comes of calls comes of so many of them -/

theorem doOp_cont {P : Program} {H : HK} {o : Oper} {e : Env} {S : St} {r : Value × St} (hr : doOp P (callS P H) o e S = some r) : ∃ n, doOp P (callK P H n n) o e S = some r := by
  obtain ⟨dst, op, ty, pos, after, g⟩ := o
  unfold doOp at hr ⊢
  split at hr
  · rename_i f args ts ho
    simp only at ho
    subst ho
    unfold callV at hr ⊢
    split at hr
    · exact callK_of_callS hr
    · cases hr
  · exact ⟨0, hr⟩

theorem stepOp_cont {P : Program} {H : HK} {ops : Array Oper} {o : Oper} {e : Env} {S : St} {r : Env × St} (hr : stepOp P (callS P H) ops o e S = some r) : ∃ n, stepOp P (callK P H n n) ops o e S = some r := by
  unfold stepOp at hr ⊢
  split at hr
  · rename_i hw
    cases hd : doOp P (callS P H) o e S with
    | none => simp [hd] at hr
    | some x =>
      rw [hd] at hr
      obtain ⟨n, hn⟩ := doOp_cont hd
      exact ⟨n, by rw [if_pos hw, hn]; exact hr⟩
  · rename_i hw
    exact ⟨0, by rw [if_neg hw]; exact hr⟩

theorem kle {P : Program} {H : HK} {n m : Nat} (h : n ≤ m) : CLe (callK P H n n) (callK P H m m) := callK_mono h h

theorem runOps_cont {P : Program} {H : HK} {ops : Array Oper} : ∀ (l : List Oper) {e : Env} {S : St} {r : Env × St}, runOps P (callS P H) ops l e S = some r → ∃ n, runOps P (callK P H n n) ops l e S = some r
  | [], _, _, _, hr => ⟨0, hr⟩
  | o :: l, e, S, r, hr => by
    simp only [runOps] at hr
    cases hd : stepOp P (callS P H) ops o e S with
    | none => simp [hd] at hr
    | some x =>
      rw [hd] at hr
      obtain ⟨n, hn⟩ := stepOp_cont hd
      obtain ⟨m, hm⟩ := runOps_cont l hr
      refine ⟨max n m, ?_⟩
      simp only [runOps]
      rw [stepOp_mono (kle (Nat.le_max_left n m)) hn]
      exact runOps_mono (kle (Nat.le_max_right n m)) l hm

theorem runPlan_cont {P : Program} {H : HK} {ops : Array Oper} : ∀ (l : List (Nat × List Nat)) {e : Env} {S : St} {r : Env × St}, runPlan P (callS P H) ops l e S = some r → ∃ n, runPlan P (callK P H n n) ops l e S = some r
  | [], _, _, _, hr => ⟨0, hr⟩
  | (i, rs) :: l, e, S, r, hr => by
    simp only [runPlan] at hr
    cases ho : ops[i]? with
    | none => simp [ho] at hr
    | some o =>
      simp only [ho] at hr
      cases hd : stepOp P (callS P H) ops o e S with
      | none => simp [hd] at hr
      | some x =>
        obtain ⟨e1, S1⟩ := x
        simp only [hd] at hr
        split at hr
        · rename_i hc
          obtain ⟨n, hn⟩ := stepOp_cont hd
          obtain ⟨m, hm⟩ := runPlan_cont l hr
          refine ⟨max n m, ?_⟩
          simp only [runPlan, ho]
          rw [stepOp_mono (kle (Nat.le_max_left n m)) hn]
          simp only [hc, if_true]
          exact runPlan_mono (kle (Nat.le_max_right n m)) l hm
        · cases hr

/-- f comes to what g n comes to for some n, and g grows. -/
def Cont (f : Env → St → R) (g : Nat → Env → St → R) : Prop := (∀ n m, n ≤ m → FLe (g n) (g m)) ∧ ∀ e S r, f e S = some r → ∃ n, g n e S = some r

theorem loop_cont {f : Env → St → R} {g : Nat → Env → St → R} (h : Cont f g) {e : Env} {S : St} {r} (hr : loopS f e S = some r) : ∃ n, iter n (g n) e S = some r := by
  obtain ⟨k, hk⟩ := iter_of_loopS hr
  clear hr
  induction k generalizing e S with
  | zero => cases hk
  | succ k ih =>
    simp only [iter] at hk
    split at hk
    · rename_i e1 S1 h1
      obtain ⟨n, hn⟩ := h.2 _ _ _ h1
      obtain ⟨m, hm⟩ := ih hk
      refine ⟨max n m + 1, ?_⟩
      simp only [iter]
      rw [h.1 n _ (by omega) _ _ _ hn]
      exact iter_mono (by omega) (h.1 m (max n m + 1) (by omega)) _ _ _ hm
    · rename_i hne
      obtain ⟨n, hn⟩ := h.2 _ _ _ hk
      refine ⟨n + 1, ?_⟩
      simp only [iter]
      have h2 := h.1 n (n + 1) (by omega) _ _ _ hn
      rw [h2]
      split
      · rename_i e1 S1 h1; exact absurd (hk.trans h1) (hne _ _)
      · rfl

theorem exec_cont {P : Program} {H : HK} : ∀ c, Cont (exec P (callS P H) loopS c) (fun n => exec P (callK P H n n) (iter n) c) := by
  intro c
  refine ⟨fun n m h => exec_mono (kle h) (iter_LLe h) c, ?_⟩
  induction c with
  | region id ops draw =>
    intro e S r hr
    cases draw with
    | false =>
      simp only [exec] at hr ⊢
      cases hx : runOps P (callS P H) ops ops.toList e S with
      | none => simp [hx] at hr
      | some x =>
        rw [hx] at hr
        obtain ⟨n, hn⟩ := runOps_cont _ hx
        exact ⟨n, by rw [hn]; exact hr⟩
    | true =>
      simp only [exec] at hr ⊢
      cases hx : runPlan P (callS P H) ops (planOf P ops) e S with
      | none => simp [hx] at hr
      | some x =>
        rw [hx] at hr
        obtain ⟨n, hn⟩ := runPlan_cont _ hx
        exact ⟨n, by rw [hn]; exact hr⟩
  | seq x y ihx ihy =>
    intro e S r hr
    simp only [exec] at hr ⊢
    split at hr
    · rename_i e1 S1 h1
      obtain ⟨n, hn⟩ := ihx _ _ _ h1
      obtain ⟨m, hm⟩ := ihy _ _ _ hr
      refine ⟨max n m, ?_⟩
      rw [exec_mono (kle (Nat.le_max_left n m)) (iter_LLe (Nat.le_max_left n m)) x _ _ _ hn]
      exact exec_mono (kle (Nat.le_max_right n m)) (iter_LLe (Nat.le_max_right n m)) y _ _ _ hm
    · rename_i hne
      obtain ⟨n, hn⟩ := ihx _ _ _ hr
      refine ⟨n, ?_⟩
      simp only at hn
      rw [hn]
      split
      · rename_i e1 S1 h1; exact absurd (hr.trans h1) (hne _ _)
      · rfl
  | cond c x y ihx ihy =>
    intro e S r hr
    simp only [exec] at hr ⊢
    split at hr
    · exact ihx _ _ _ hr
    · exact ihy _ _ _ hr
    · cases hr
  | block id c ih =>
    intro e S r hr
    simp only [exec] at hr ⊢
    split at hr
    · rename_i id' e1 S1 h1
      obtain ⟨n, hn⟩ := ih _ _ _ h1
      simp only at hn
      exact ⟨n, by rw [hn]; exact hr⟩
    · rename_i hne
      obtain ⟨n, hn⟩ := ih _ _ _ hr
      refine ⟨n, ?_⟩
      simp only at hn
      rw [hn]
      split
      · rename_i id' e1 S1 h1; exact absurd (hr.trans h1) (hne _ _ _)
      · rfl
  | loop c ih =>
    intro e S r hr
    simp only [exec] at hr ⊢
    exact loop_cont ⟨fun n m h => exec_mono (kle h) (iter_LLe h) c, ih⟩ hr
  | scope c ih => exact ih
  | _ => intro e S r hr; exact ⟨0, hr⟩

/-- A call comes to what its function's text comes to. -/
theorem callS_of {P : Program} {H : HK} {f : FuncId} {fn : Func} (hf : P.funcs[f]? = some fn) (hok : fnOk P fn = true) (hH : H f = none) {args : List Value} {S : St} {r : Value × St}
    (h : funcF P (callS P H) loopS fn args S = some r) : callS P H f args S = some r := by
  unfold funcF at h
  cases hb : fn.body with
  | none => simp [hb] at h
  | some c =>
    simp only [hb] at h
    cases hx : exec P (callS P H) loopS c (Env.start fn.ntmps args) S with
    | none => simp [hx] at h
    | some x =>
      obtain ⟨n, hn⟩ := (exec_cont c).2 _ _ _ hx
      refine callS_of_callK (n := n + 1) ?_
      have h2 : exec P (callK P H (n + 1) n) (iter (n + 1)) c (Env.start fn.ntmps args) S = some x :=
        exec_mono (callK_mono (by omega) (Nat.le_refl _)) (iter_LLe (by omega)) c _ _ _ hn
      simp only [callK, hH, hf, hok, if_true, funcF, hb]
      rw [h2]
      rw [hx] at h
      exact h

theorem callS_hook {P : Program} {H : HK} {f : FuncId} {k} (hH : H f = some k) {args : List Value} {S : St} {r : Value × St} (h : k args S = some r) : callS P H f args S = some r :=
  callS_of_callK (n := 1) (by simp only [callK, hH]; exact h)

/-- What a call comes to, it comes to in memory. -/
theorem callS_sound {P : Program} {H : HK} (hm : P.follows .mixedOrders = true) (hH : HookSound P H) : CallSound P (callS P H) := by
  intro g args S v S' h
  obtain ⟨n, hn⟩ := callK_of_callS h
  exact callK_sound hH (fun _ hc => draw_sound hc hm) n n g args S v S' hn

end Go.AM
