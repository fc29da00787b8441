/- AmR: proofs about the small code by rewriting. -/
import Derived.Test.YtdfimlepfaheeaaGreatAmO
import Derived.IntWalk
set_option linter.unusedVariables false
set_option linter.unusedSimpArgs false
namespace Go.AM

/-! ## It comes to something, of which something is so -/

def Ok {α : Type} (o : Option α) (Q : α → Prop) : Prop := ∃ x, o = some x ∧ Q x

@[simp] theorem Ok_some {α : Type} (x : α) (Q : α → Prop) : Ok (some x) Q = Q x := by simp [Ok]
@[simp] theorem Ok_none {α : Type} (Q : α → Prop) : Ok none Q = False := by simp [Ok]
@[simp] theorem Ok_ite {α : Type} {c : Prop} [Decidable c] {a b : Option α} (Q : α → Prop) : Ok (if c then a else b) Q = ((c → Ok a Q) ∧ (¬ c → Ok b Q)) := by
  by_cases h : c <;> simp [h]
theorem Ok.mono {α : Type} {o : Option α} {Q R : α → Prop} (h : Ok o Q) (hq : ∀ x, Q x → R x) : Ok o R := by
  obtain ⟨x, rfl, hx⟩ := h; exact ⟨x, rfl, hq x hx⟩

/-! ## Variables -/

@[simp] theorem get_rho (ρ : Rho) (t : Nat) : (Vars.get ρ t : Value) = ρ t := Eq.trans rfl rfl
@[simp] theorem put_rho (ρ : Rho) (t : Nat) (v : Value) : (Vars.put ρ t v : Rho) = upd ρ t v := Eq.trans rfl rfl
@[simp] theorem upd_get (ρ : Rho) (d t : Nat) (v : Value) : upd ρ d v t = if t = d then v else ρ t := Eq.trans rfl rfl
@[simp] theorem upd_upd (ρ : Rho) (d : Nat) (v w : Value) : upd (upd ρ d v) d w = upd ρ d w := by
  funext t; simp only [upd]; split <;> rfl
@[simp] theorem startR_0 (v : Value) (l : List Value) : startR (v :: l) 0 = v := Eq.trans rfl rfl
@[simp] theorem startR_1 (u v : Value) (l : List Value) : startR (u :: v :: l) 1 = v := Eq.trans rfl rfl
@[simp] theorem startR_2 (t u v : Value) (l : List Value) : startR (t :: u :: v :: l) 2 = v := Eq.trans rfl rfl
@[simp] theorem startR_3 (s t u v : Value) (l : List Value) : startR (s :: t :: u :: v :: l) 3 = v := Eq.trans rfl rfl
@[simp] theorem startR_4 (r s t u v : Value) (l : List Value) : startR (r :: s :: t :: u :: v :: l) 4 = v := Eq.trans rfl rfl
@[simp] theorem evO_tmp (ρ : Rho) (t : Nat) : evO ρ (.tmp t) = ρ t := Eq.trans rfl rfl
@[simp] theorem evO_const (ρ : Rho) (v : Value) : evO ρ (.const v) = v := Eq.trans rfl rfl
@[simp] theorem evO_func (ρ : Rho) (f : Nat) : evO ρ (.func f) = .func (.func f) #[] #[] := Eq.trans rfl rfl

/-! ## The run, with what is left kept as data -/

section
variable {P : Program} {cF : CF} {lA : LA Rho}

def putR (ρ : Rho) (d : Option Tmp) (o : Option (Value × St)) : Option (Rho × St) := o.bind fun p => some (updO ρ d p.1, p.2)
def runL (P : Program) (cF : CF) (l : List AI) (o : Option (Rho × St)) : Option (Rho × St) := o.bind fun p => runAs P cF l p.1 p.2
def opsR (o : Option (Rho × St)) : RA Rho := o.bind fun p => some (.normal, p.1, p.2)
def seqR (P : Program) (cF : CF) (lA : LA Rho) (b : AC) (o : RA Rho) : RA Rho := o.bind (seqK (runA P cF lA b))
def condR (P : Program) (cF : CF) (lA : LA Rho) (v : Value) (a b : AC) (ρ : Rho) (S : St) : RA Rho := condK v (fun _ => runA P cF lA a ρ S) (fun _ => runA P cF lA b ρ S)
def blockR (id : Nat) (o : RA Rho) : RA Rho := o.bind (blockK id)
def endR (P : Program) (rs : List ResultVar) (o : RA Rho) : Option (Value × St) := o.bind (endA P rs)
def resR (S : St) (o : Option (List Value)) : Option (Value × St) := o.bind fun l => some (one l, S)
def consR (v : Value) (o : Option (List Value)) : Option (List Value) := o.bind fun l => some (v :: l)
def runPl (P : Program) (cF : CF) (l : List (AI × List AI)) (o : Option (Rho × St)) : Option (Rho × St) := o.bind fun p => runAp P cF l p.1 p.2
def againR (P : Program) (cF : CF) (rs : List AI) (l : List (AI × List AI)) (o : Option (Rho × St)) : Option (Rho × St) :=
  o.bind fun p => if rs.all (fun r => againA P cF r p.1 p.2) then runAp P cF l p.1 p.2 else none

@[simp] theorem runA_ops (l : List AI) (ρ : Rho) (S : St) : runA P cF lA (.ops l) ρ S = opsR (runL P cF l (some (ρ, S))) := Eq.trans rfl rfl
@[simp] theorem runA_plan (l : List (AI × List AI)) (ρ : Rho) (S : St) : runA P cF lA (.plan l) ρ S = opsR (runPl P cF l (some (ρ, S))) := Eq.trans rfl rfl
@[simp] theorem runA_seq (a b : AC) (ρ : Rho) (S : St) : runA P cF lA (.seq a b) ρ S = seqR P cF lA b (runA P cF lA a ρ S) := Eq.trans rfl rfl
@[simp] theorem runA_cond (c : Operand) (a b : AC) (ρ : Rho) (S : St) : runA P cF lA (.cond c a b) ρ S = condR P cF lA (evO ρ c) a b ρ S := Eq.trans rfl rfl
@[simp] theorem runA_block (id : Nat) (c : AC) (ρ : Rho) (S : St) : runA P cF lA (.block id c) ρ S = blockR id (runA P cF lA c ρ S) := Eq.trans rfl rfl
@[simp] theorem runA_exit (id : Nat) (ρ : Rho) (S : St) : runA P cF lA (.exit id) ρ S = some (.exit id, ρ, S) := Eq.trans rfl rfl
@[simp] theorem runA_ret (ρ : Rho) (S : St) : runA P cF lA .ret ρ S = some (.ret, ρ, S) := Eq.trans rfl rfl
@[simp] theorem runA_skip (ρ : Rho) (S : St) : runA P cF lA .skip ρ S = some (.normal, ρ, S) := Eq.trans rfl rfl
theorem funA_run (a : AFn) (ρ : Rho) (S : St) : funA P cF lA a ρ S = endR P a.res (runA P cF lA a.code ρ S) := Eq.trans rfl rfl

@[simp] theorem runL_nil (ρ : Rho) (S : St) : runL P cF [] (some (ρ, S)) = some (ρ, S) := Eq.trans rfl rfl
@[simp] theorem runL_cons (i : AI) (l : List AI) (ρ : Rho) (S : St) : runL P cF (i :: l) (some (ρ, S)) = runL P cF l (stepA P cF i ρ S) := Eq.trans rfl rfl
@[simp] theorem runL_none (l : List AI) : runL P cF l none = none := Eq.trans rfl rfl
@[simp] theorem runL_ite {c : Prop} [Decidable c] (l : List AI) (a b : Option (Rho × St)) : runL P cF l (if c then a else b) = if c then runL P cF l a else runL P cF l b := by split <;> rfl
@[simp] theorem runPl_nil (ρ : Rho) (S : St) : runPl P cF [] (some (ρ, S)) = some (ρ, S) := Eq.trans rfl rfl
@[simp] theorem runPl_cons (i : AI) (rs : List AI) (l : List (AI × List AI)) (ρ : Rho) (S : St) : runPl P cF ((i, rs) :: l) (some (ρ, S)) = againR P cF rs l (stepA P cF i ρ S) := Eq.trans rfl rfl
@[simp] theorem runPl_none (l : List (AI × List AI)) : runPl P cF l none = none := Eq.trans rfl rfl
@[simp] theorem runPl_ite {c : Prop} [Decidable c] (l : List (AI × List AI)) (a b : Option (Rho × St)) : runPl P cF l (if c then a else b) = if c then runPl P cF l a else runPl P cF l b := by split <;> rfl
@[simp] theorem againR_nil (l : List (AI × List AI)) (o : Option (Rho × St)) : againR P cF [] l o = runPl P cF l o := by cases o <;> rfl
@[simp] theorem againR_cons (r : AI) (rs : List AI) (l : List (AI × List AI)) (ρ : Rho) (S : St) : againR P cF (r :: rs) l (some (ρ, S)) = if againA P cF r ρ S = true then againR P cF rs l (some (ρ, S)) else none := by
  simp only [againR, Option.bind_some, List.all_cons, Bool.and_eq_true]
  by_cases h : againA P cF r ρ S = true <;> simp [h]
@[simp] theorem againR_none (rs : List AI) (l : List (AI × List AI)) : againR P cF rs l none = none := Eq.trans rfl rfl
@[simp] theorem againR_ite {c : Prop} [Decidable c] (rs : List AI) (l : List (AI × List AI)) (a b : Option (Rho × St)) : againR P cF rs l (if c then a else b) = if c then againR P cF rs l a else againR P cF rs l b := by split <;> rfl
@[simp] theorem opsR_some (ρ : Rho) (S : St) : opsR (some (ρ, S)) = some (.normal, ρ, S) := Eq.trans rfl rfl
@[simp] theorem opsR_none : opsR none = none := Eq.trans rfl rfl
@[simp] theorem opsR_ite {c : Prop} [Decidable c] (a b : Option (Rho × St)) : opsR (if c then a else b) = if c then opsR a else opsR b := by split <;> rfl
@[simp] theorem seqR_normal (b : AC) (ρ : Rho) (S : St) : seqR P cF lA b (some (.normal, ρ, S)) = runA P cF lA b ρ S := Eq.trans rfl rfl
@[simp] theorem seqR_exit (b : AC) (i : Nat) (ρ : Rho) (S : St) : seqR P cF lA b (some (.exit i, ρ, S)) = some (.exit i, ρ, S) := Eq.trans rfl rfl
@[simp] theorem seqR_ret (b : AC) (ρ : Rho) (S : St) : seqR P cF lA b (some (.ret, ρ, S)) = some (.ret, ρ, S) := Eq.trans rfl rfl
@[simp] theorem seqR_none (b : AC) : seqR P cF lA b none = none := Eq.trans rfl rfl
@[simp] theorem seqR_ite {c : Prop} [Decidable c] (x : AC) (a b : RA Rho) : seqR P cF lA x (if c then a else b) = if c then seqR P cF lA x a else seqR P cF lA x b := by split <;> rfl
@[simp] theorem condR_true (a b : AC) (ρ : Rho) (S : St) : condR P cF lA (.bool true) a b ρ S = runA P cF lA a ρ S := Eq.trans rfl rfl
@[simp] theorem condR_false (a b : AC) (ρ : Rho) (S : St) : condR P cF lA (.bool false) a b ρ S = runA P cF lA b ρ S := Eq.trans rfl rfl
@[simp] theorem condR_bool (p : Bool) (a b : AC) (ρ : Rho) (S : St) : condR P cF lA (.bool p) a b ρ S = if p = true then runA P cF lA a ρ S else runA P cF lA b ρ S := by cases p <;> rfl
@[simp] theorem blockR_normal (i : Nat) (ρ : Rho) (S : St) : blockR i (some (.normal, ρ, S)) = some (.normal, ρ, S) := Eq.trans rfl rfl
@[simp] theorem blockR_exit (i j : Nat) (ρ : Rho) (S : St) : blockR i (some (.exit j, ρ, S)) = if j = i then some (.normal, ρ, S) else some (.exit j, ρ, S) := Eq.trans rfl rfl
@[simp] theorem blockR_ret (i : Nat) (ρ : Rho) (S : St) : blockR i (some (.ret, ρ, S)) = some (.ret, ρ, S) := Eq.trans rfl rfl
@[simp] theorem blockR_none (i : Nat) : blockR i none = none := Eq.trans rfl rfl
@[simp] theorem blockR_ite {c : Prop} [Decidable c] (i : Nat) (a b : RA Rho) : blockR i (if c then a else b) = if c then blockR i a else blockR i b := by split <;> rfl
@[simp] theorem endR_normal (rs : List ResultVar) (ρ : Rho) (S : St) : endR P rs (some (.normal, ρ, S)) = resR S (resA P rs ρ S) := Eq.trans rfl rfl
@[simp] theorem endR_ret (rs : List ResultVar) (ρ : Rho) (S : St) : endR P rs (some (.ret, ρ, S)) = resR S (resA P rs ρ S) := Eq.trans rfl rfl
@[simp] theorem endR_none (rs : List ResultVar) : endR P rs none = none := Eq.trans rfl rfl
@[simp] theorem endR_ite {c : Prop} [Decidable c] (rs : List ResultVar) (a b : RA Rho) : endR P rs (if c then a else b) = if c then endR P rs a else endR P rs b := by split <;> rfl
@[simp] theorem resR_some (S : St) (l : List Value) : resR S (some l) = some (one l, S) := Eq.trans rfl rfl
@[simp] theorem consR_some (v : Value) (l : List Value) : consR v (some l) = some (v :: l) := Eq.trans rfl rfl
@[simp] theorem resA_nil (ρ : Rho) (S : St) : resA P [] ρ S = some [] := Eq.trans rfl rfl
@[simp] theorem resA_tmp (t : Nat) (rs : List ResultVar) (ρ : Rho) (S : St) : resA P (.tmp t :: rs) ρ S = consR (ρ t) (resA P rs ρ S) := Eq.trans rfl rfl
@[simp] theorem one_1 (v : Value) : one [v] = v := Eq.trans rfl rfl
@[simp] theorem one_0 : one [] = .tuple #[] := Eq.trans rfl rfl
@[simp] theorem one_2 (u v : Value) (l : List Value) : one (u :: v :: l) = .tuple (u :: v :: l).toArray := Eq.trans rfl rfl

/-! ## One operation -/

theorem stepA_none (d : Option Tmp) (op : AOp) (ρ : Rho) (S : St) : stepA P cF ⟨d, none, op⟩ ρ S = putR ρ d (doA P cF op (evO ρ) S) := Eq.trans rfl rfl
def guardR (P : Program) (cF : CF) (v : Value) (w : Bool) (d : Option Tmp) (op : AOp) (ρ : Rho) (S : St) : Option (Rho × St) :=
  if (match v with | .bool b => b == w | _ => false) then putR ρ d (doA P cF op (evO ρ) S) else some (updO ρ d undef, S)
theorem stepA_some (d : Option Tmp) (t : Nat) (w : Bool) (op : AOp) (ρ : Rho) (S : St) : stepA P cF ⟨d, some (t, w), op⟩ ρ S = guardR P cF (ρ t) w d op ρ S := Eq.trans rfl rfl
attribute [simp] stepA_none stepA_some
@[simp] theorem guardR_tt (d : Option Tmp) (op : AOp) (ρ : Rho) (S : St) : guardR P cF (.bool true) true d op ρ S = putR ρ d (doA P cF op (evO ρ) S) := Eq.trans rfl rfl
@[simp] theorem guardR_ff (d : Option Tmp) (op : AOp) (ρ : Rho) (S : St) : guardR P cF (.bool false) false d op ρ S = putR ρ d (doA P cF op (evO ρ) S) := Eq.trans rfl rfl
@[simp] theorem guardR_tf (d : Option Tmp) (op : AOp) (ρ : Rho) (S : St) : guardR P cF (.bool true) false d op ρ S = some (updO ρ d undef, S) := Eq.trans rfl rfl
@[simp] theorem guardR_ft (d : Option Tmp) (op : AOp) (ρ : Rho) (S : St) : guardR P cF (.bool false) true d op ρ S = some (updO ρ d undef, S) := Eq.trans rfl rfl
@[simp] theorem guardR_t (b : Bool) (d : Option Tmp) (op : AOp) (ρ : Rho) (S : St) : guardR P cF (.bool b) true d op ρ S = if b = true then putR ρ d (doA P cF op (evO ρ) S) else some (updO ρ d undef, S) := by cases b <;> rfl
@[simp] theorem guardR_f (b : Bool) (d : Option Tmp) (op : AOp) (ρ : Rho) (S : St) : guardR P cF (.bool b) false d op ρ S = if b = true then some (updO ρ d undef, S) else putR ρ d (doA P cF op (evO ρ) S) := by cases b <;> rfl
@[simp] theorem putR_some (ρ : Rho) (d : Option Tmp) (v : Value) (S : St) : putR ρ d (some (v, S)) = some (updO ρ d v, S) := Eq.trans rfl rfl
@[simp] theorem putR_none (ρ : Rho) (d : Option Tmp) : putR ρ d none = none := Eq.trans rfl rfl
@[simp] theorem putR_ite {c : Prop} [Decidable c] (ρ : Rho) (d : Option Tmp) (a b : Option (Value × St)) : putR ρ d (if c then a else b) = if c then putR ρ d a else putR ρ d b := by split <;> rfl
@[simp] theorem updO_some (ρ : Rho) (d : Nat) (v : Value) : updO ρ (some d) v = upd ρ d v := Eq.trans rfl rfl
@[simp] theorem updO_none (ρ : Rho) (v : Value) : updO ρ none v = ρ := Eq.trans rfl rfl

def valR (S : St) (o : Option Value) : Option (Value × St) := o.map fun v => (v, S)
def stR (o : Option St) : Option (Value × St) := o.map fun S => (undef, S)
@[simp] theorem valR_some (S : St) (v : Value) : valR S (some v) = some (v, S) := Eq.trans rfl rfl
@[simp] theorem valR_none (S : St) : valR S none = none := Eq.trans rfl rfl
@[simp] theorem valR_ite {c : Prop} [Decidable c] (S : St) (a b : Option Value) : valR S (if c then a else b) = if c then valR S a else valR S b := by split <;> rfl
@[simp] theorem stR_some (S : St) : stR (some S) = some (undef, S) := Eq.trans rfl rfl
@[simp] theorem stR_none : stR none = none := Eq.trans rfl rfl
@[simp] theorem stR_ite {c : Prop} [Decidable c] (a b : Option St) : stR (if c then a else b) = if c then stR a else stR b := by split <;> rfl

variable {ρ : Operand → Value} {S : St}
@[simp] theorem doA_mv (x : Operand) : doA P cF (.mv x) ρ S = some (ρ x, S) := Eq.trans rfl rfl
@[simp] theorem doA_pick (c a b : Operand) : doA P cF (.pick c a b) ρ S = valR S (pickV (ρ c) (ρ a) (ρ b)) := Eq.trans rfl rfl
@[simp] theorem doA_load1 (a : Operand) : doA P cF (.load1 a) ρ S = valR S (load1V (ρ a) S) := Eq.trans rfl rfl
@[simp] theorem doA_loadN (k : Nat) (a : Operand) : doA P cF (.loadN k a) ρ S = valR S (loadNV k (ρ a) S) := Eq.trans rfl rfl
@[simp] theorem doA_store (k : Nat) (a v : Operand) : doA P cF (.store k a v) ρ S = stR (storeKV k (ρ a) (ρ v) S) := Eq.trans rfl rfl
@[simp] theorem doA_fld (o : Nat) (a : Operand) : doA P cF (.fld o a) ρ S = valR S (fldV o (ρ a)) := Eq.trans rfl rfl
@[simp] theorem doA_idxS (k : Nat) (a i : Operand) : doA P cF (.idxS k a i) ρ S = valR S (idxSV k (ρ a) (ρ i)) := Eq.trans rfl rfl
@[simp] theorem doA_idxA (n k : Nat) (a i : Operand) : doA P cF (.idxA n k a i) ρ S = valR S (idxAV n k (ρ a) (ρ i)) := Eq.trans rfl rfl
@[simp] theorem doA_ext (x : Operand) (i : Nat) : doA P cF (.ext x i) ρ S = valR S (extV (ρ x) i) := Eq.trans rfl rfl
@[simp] theorem doA_len (x : Operand) : doA P cF (.len x) ρ S = valR S (lenV (ρ x)) := Eq.trans rfl rfl
@[simp] theorem doA_nil (x : Operand) : doA P cF (.nil x) ρ S = valR S (nilV (ρ x)) := Eq.trans rfl rfl
@[simp] theorem doA_not (x : Operand) : doA P cF (.not x) ρ S = valR S (notV (ρ x)) := Eq.trans rfl rfl
@[simp] theorem doA_new (t : Nat) (z : List Value) : doA P cF (.new t z) ρ S = some (newRowV S t z) := Eq.trans rfl rfl
@[simp] theorem doA_box (t : Nat) (x : Operand) : doA P cF (.box t x) ρ S = if ones (ρ x).cells.toList = true then some (newRowV S t (ρ x).cells.toList) else none := Eq.trans rfl rfl
@[simp] theorem doA_bin (op : BinOp) (t : Nat) (x y : Operand) : doA P cF (.bin op t x y) ρ S = valR S (binV P op t (ρ x) (ρ y) S) := Eq.trans rfl rfl
@[simp] theorem doA_call (f : Nat) (args : List Operand) : doA P cF (.call f args) ρ S = cF f (args.map ρ) S := Eq.trans rfl rfl
@[simp] theorem doA_callv (f : Operand) (args : List Operand) : doA P cF (.callv f args) ρ S = callV cF (ρ f) (args.map ρ) S := Eq.trans rfl rfl
@[simp] theorem doA_gen (o : Op) (ty : Nat) : doA P cF (.gen o ty) ρ S = opS P ρ ⟨none, o, ty, "", #[], none⟩ S := Eq.trans rfl rfl

@[simp] theorem pickV_bool (b : Bool) (x y : Value) : pickV (.bool b) x y = some (if b = true then x else y) := by cases b <;> rfl
@[simp] theorem fldV_ptr (o n off : Nat) : fldV o (.pointer (some ⟨n, off, none⟩)) = some (.pointer (some ⟨n, off + o, none⟩)) := Eq.trans rfl rfl
@[simp] theorem nilV_ptr (a : Addr) : nilV (.pointer (some a)) = some (.pointer (some a)) := Eq.trans rfl rfl
@[simp] theorem notV_bool (b : Bool) : notV (.bool b) = some (.bool !b) := Eq.trans rfl rfl
@[simp] theorem lenV_slice (a : Option Addr) (n c : Nat) : lenV (.slice a n c) = some (.int .i64 n) := Eq.trans rfl rfl
@[simp] theorem extV_tuple (l : Array Value) (i : Nat) : extV (.tuple l) i = l[i]? := Eq.trans rfl rfl
@[simp] theorem load1V_ptr (n off : Nat) (S : St) : load1V (.pointer (some ⟨n, off, none⟩)) S = (rowAt S n off 1).bind fun l => l.head? := Eq.trans rfl rfl
@[simp] theorem loadNV_ptr (k n off : Nat) (S : St) : loadNV k (.pointer (some ⟨n, off, none⟩)) S = (rowAt S n off k).map fun l => .agg l.toArray := Eq.trans rfl rfl
@[simp] theorem binV_int (op : BinOp) (t : Nat) (k : IntKind) (a b : Int) (S : St) : binV P op t (.int k a) (.int k b) S = intBin op k a b := by simp [binV]
@[simp] theorem intBin_add (k : IntKind) (a b : Int) : intBin .add k a b = some (.int k (k.wrap (a + b))) := Eq.trans rfl rfl
@[simp] theorem intBin_sub (k : IntKind) (a b : Int) : intBin .sub k a b = some (.int k (k.wrap (a - b))) := Eq.trans rfl rfl
@[simp] theorem intBin_mul (k : IntKind) (a b : Int) : intBin .mul k a b = some (.int k (k.wrap (a * b))) := Eq.trans rfl rfl
@[simp] theorem intBin_quo (k : IntKind) (a b : Int) : intBin .quo k a b = if b = 0 then none else some (.int k (k.wrap (a.tdiv b))) := Eq.trans rfl rfl
@[simp] theorem intBin_rem (k : IntKind) (a b : Int) : intBin .rem k a b = if b = 0 then none else some (.int k (a.tmod b)) := Eq.trans rfl rfl
@[simp] theorem intBin_eql (k : IntKind) (a b : Int) : intBin .eql k a b = some (.bool (decide (a = b))) := by simp [intBin, BEq.beq]
@[simp] theorem intBin_neq (k : IntKind) (a b : Int) : intBin .neq k a b = some (.bool (decide (a ≠ b))) := by simp [intBin, bne, BEq.beq]
@[simp] theorem intBin_lss (k : IntKind) (a b : Int) : intBin .lss k a b = some (.bool (decide (a < b))) := Eq.trans rfl rfl
@[simp] theorem intBin_leq (k : IntKind) (a b : Int) : intBin .leq k a b = some (.bool (decide (a ≤ b))) := Eq.trans rfl rfl
@[simp] theorem intBin_gtr (k : IntKind) (a b : Int) : intBin .gtr k a b = some (.bool (decide (b < a))) := Eq.trans rfl rfl
@[simp] theorem intBin_geq (k : IntKind) (a b : Int) : intBin .geq k a b = some (.bool (decide (b ≤ a))) := Eq.trans rfl rfl
@[simp] theorem binV_eqN (t : Nat) (a : Addr) (S : St) (h : isPtr (P.underlying t) = true) : binV P .eql t (.pointer (some a)) (.pointer none) S = some (.bool false) := by
  obtain ⟨e, he⟩ := isPtr_of h
  simp [binV, af, af1, eqV, he]
@[simp] theorem binV_neN (t : Nat) (a : Addr) (S : St) (h : isPtr (P.underlying t) = true) : binV P .neq t (.pointer (some a)) (.pointer none) S = some (.bool true) := by
  obtain ⟨e, he⟩ := isPtr_of h
  simp [binV, af, af1, eqV, he]

theorem binV_slN {t e : Nat} {a b c d : Nat} {S : St} (h : P.underlying t = some (.slice e)) : binV P .eql t (.slice none a b) (.slice none c d) S = some (.bool true) := by
  have h1 : runPure P (Go.binOp .eql t (.slice none a b) (.slice none c d)) = some (.bool true) := by
    show runPure P (Sem.bind (Sem.program _) _) = _
    simp only [Sem.bind, runPure, h]
    rfl
  simp [binV, af, af1, eqPair, h1, pureV]

theorem idxSV_ok {k n off len cap : Nat} {kk : IntKind} {i : Int} (h0 : 0 ≤ i) (h1 : i < len) : idxSV k (.slice (some ⟨n, off, none⟩) len cap) (.int kk i) = some (.pointer (some ⟨n, off + i.toNat * k, none⟩)) := by
  simp [idxSV, h0, h1]
theorem idxAV_ok {k n off len : Nat} {kk : IntKind} {i : Int} (h0 : 0 ≤ i) (h1 : i < len) : idxAV len k (.pointer (some ⟨n, off, none⟩)) (.int kk i) = some (.pointer (some ⟨n, off + i.toNat * k, none⟩)) := by
  simp [idxAV, h0, h1]

theorem wrap64 {x : Int} (h0 : -9223372036854775808 ≤ x) (h1 : x < 9223372036854775808) : IntKind.wrap .i64 x = x := IntWalk.i64_in x ⟨h0, by omega⟩

/-! ## Memory -/

@[simp] theorem rowAt_of {n off k : Nat} {c : List Value} {T G : Nat} {g : Bool} (h : S.get n = some (.cells c T G g)) (hk : off + k ≤ c.length) : rowAt S n off k = some ((c.drop off).take k) := by
  simp [rowAt, h, hk]
theorem putRow_of {n off : Nat} {c vs : List Value} {T G : Nat} {g : Bool} (hb : S.base ≤ n) (h : S.get n = some (.cells c T G g)) (hk : off + vs.length ≤ c.length) (ho : ones vs = true) : putRow S n off vs = some (S.set n (some (.cells (putL c off vs) T G g))) := by
  simp [putRow, h, hk, ho, Nat.not_lt.mpr hb]
theorem storeKV_of {k n off : Nat} {v : Value} {c : List Value} {T G : Nat} {g : Bool} (hv : v.cells.size = k) (hb : S.base ≤ n) (h : S.get n = some (.cells c T G g)) (hk : off + k ≤ c.length) (ho : ones v.cells.toList = true) :
    storeKV k (.pointer (some ⟨n, off, none⟩)) v S = some (S.set n (some (.cells (putL c off v.cells.toList) T G g))) := by
  have h2 : v.cells.toList.length = k := by simpa using hv
  simp only [storeKV, hv, if_true]
  exact putRow_of hb h (by rw [h2]; exact hk) ho
/-! ## Where the run hangs on something: what is left becomes the condition -/

theorem Ok_bindE {α β : Type} {o : Option α} {f : α → Option β} {Q : β → Prop} : Ok (o.bind f) Q = Ok o fun p => Ok (f p) Q := by
  cases o <;> simp
theorem Ok_seqR (b : AC) (o : RA Rho) (Q : Ex × Rho × St → Prop) : Ok (seqR P cF lA b o) Q = Ok o fun p => Ok (seqK (runA P cF lA b) p) Q := Ok_bindE
theorem Ok_blockR (i : Nat) (o : RA Rho) (Q : Ex × Rho × St → Prop) : Ok (blockR i o) Q = Ok o fun p => Ok (blockK i p) Q := Ok_bindE
theorem Ok_endR (rs : List ResultVar) (o : RA Rho) (Q : Value × St → Prop) : Ok (endR P rs o) Q = Ok o fun p => Ok (endA P rs p) Q := Ok_bindE
theorem Ok_opsR (o : Option (Rho × St)) (Q : Ex × Rho × St → Prop) : Ok (opsR o) Q = Ok o fun p => Q (.normal, p.1, p.2) := by
  rw [opsR, Ok_bindE]; simp
theorem Ok_runL (l : List AI) (o : Option (Rho × St)) (Q : Rho × St → Prop) : Ok (runL P cF l o) Q = Ok o fun p => Ok (runAs P cF l p.1 p.2) Q := Ok_bindE
theorem Ok_runPl (l : List (AI × List AI)) (o : Option (Rho × St)) (Q : Rho × St → Prop) : Ok (runPl P cF l o) Q = Ok o fun p => Ok (runAp P cF l p.1 p.2) Q := Ok_bindE
theorem Ok_putR (ρ : Rho) (d : Option Tmp) (o : Option (Value × St)) (Q : Rho × St → Prop) : Ok (putR ρ d o) Q = Ok o fun p => Q (updO ρ d p.1, p.2) := by
  rw [putR, Ok_bindE]; simp
@[simp] theorem runAs_runL (l : List AI) (ρ : Rho) (S : St) : runAs P cF l ρ S = runL P cF l (some (ρ, S)) := Eq.trans rfl rfl
@[simp] theorem runAp_runPl (l : List (AI × List AI)) (ρ : Rho) (S : St) : runAp P cF l ρ S = runPl P cF l (some (ρ, S)) := Eq.trans rfl rfl
@[simp] theorem seqK_normal {k : Rho → St → RA Rho} {ρ : Rho} {S : St} : seqK k (.normal, ρ, S) = k ρ S := Eq.trans rfl rfl
@[simp] theorem seqK_exit {k : Rho → St → RA Rho} {ρ : Rho} {S : St} {i : Nat} : seqK k (.exit i, ρ, S) = some (.exit i, ρ, S) := Eq.trans rfl rfl
@[simp] theorem seqK_ret {k : Rho → St → RA Rho} {ρ : Rho} {S : St} : seqK k (.ret, ρ, S) = some (.ret, ρ, S) := Eq.trans rfl rfl
@[simp] theorem blockK_normal {ρ : Rho} {S : St} {i : Nat} : blockK i (.normal, ρ, S) = some (.normal, ρ, S) := Eq.trans rfl rfl
@[simp] theorem blockK_exit {ρ : Rho} {S : St} {i j : Nat} : blockK i (.exit j, ρ, S) = if j = i then some (.normal, ρ, S) else some (.exit j, ρ, S) := Eq.trans rfl rfl
@[simp] theorem blockK_ret {ρ : Rho} {S : St} {i : Nat} : blockK i (.ret, ρ, S) = some (.ret, ρ, S) := Eq.trans rfl rfl
@[simp] theorem endA_normal (rs : List ResultVar) (ρ : Rho) (S : St) : endA P rs (.normal, ρ, S) = resR S (resA P rs ρ S) := Eq.trans rfl rfl
@[simp] theorem endA_ret (rs : List ResultVar) (ρ : Rho) (S : St) : endA P rs (.ret, ρ, S) = resR S (resA P rs ρ S) := Eq.trans rfl rfl
@[simp] theorem runA_loop (c : AC) (ρ : Rho) (S : St) : runA P cF lA (.loop c) ρ S = lA (runA P cF lA c) ρ S := Eq.trans rfl rfl

/-! ## Loops -/

theorem iterA_succ {f : Rho → St → RA Rho} : ∀ {n : Nat} {ρ : Rho} {S : St} {r : Ex × Rho × St}, iterA n f ρ S = some r → iterA (n + 1) f ρ S = some r
  | 0, _, _, _, h => by cases h
  | n + 1, ρ, S, r, h => by
    simp only [iterA] at h
    rw [iterA]
    cases hx : f ρ S with
    | none => simp [hx] at h
    | some q =>
      obtain ⟨x, ρ', S'⟩ := q
      simp only [hx, Option.bind_some] at h ⊢
      cases x with
      | normal => simp only [seqK_normal] at h ⊢; exact iterA_succ h
      | exit i => exact h
      | ret => exact h
theorem iterA_le {f : Rho → St → RA Rho} {n m : Nat} (hnm : n ≤ m) {ρ : Rho} {S : St} {r : Ex × Rho × St} (h : iterA n f ρ S = some r) : iterA m f ρ S = some r := by
  induction hnm with
  | refl => exact h
  | step _ ih => exact iterA_succ ih
theorem loopA_of_iter {f : Rho → St → RA Rho} {n : Nat} {ρ : Rho} {S : St} {r : Ex × Rho × St} (h : iterA n f ρ S = some r) : loopA f ρ S = some r := by
  unfold loopA
  have hex : ∃ n, (iterA n f ρ S).isSome := ⟨n, by rw [h]; rfl⟩
  rw [dif_pos hex]
  have h2 := Classical.choose_spec hex
  obtain ⟨r', hr'⟩ := Option.isSome_iff_exists.mp h2
  have a1 := iterA_le (Nat.le_max_left n (Classical.choose hex)) h
  have a2 := iterA_le (Nat.le_max_right n (Classical.choose hex)) hr'
  rw [hr']
  rw [a1] at a2
  exact a2.symm

/-- A round that goes on has a lesser measure; one that does not is the end. -/
def After (I : Nat → Rho → St → Prop) (n : Nat) (Q : Ex × Rho × St → Prop) (p : Ex × Rho × St) : Prop :=
  match p.1 with
  | .normal => ∃ m, m < n ∧ I m p.2.1 p.2.2
  | x => Q (x, p.2.1, p.2.2)
@[simp] theorem After_normal (I : Nat → Rho → St → Prop) (n : Nat) (Q : Ex × Rho × St → Prop) (ρ : Rho) (S : St) : After I n Q (.normal, ρ, S) = ∃ m, m < n ∧ I m ρ S := Eq.trans rfl rfl
@[simp] theorem After_exit (I : Nat → Rho → St → Prop) (n i : Nat) (Q : Ex × Rho × St → Prop) (ρ : Rho) (S : St) : After I n Q (.exit i, ρ, S) = Q (.exit i, ρ, S) := Eq.trans rfl rfl
@[simp] theorem After_ret (I : Nat → Rho → St → Prop) (n : Nat) (Q : Ex × Rho × St → Prop) (ρ : Rho) (S : St) : After I n Q (.ret, ρ, S) = Q (.ret, ρ, S) := Eq.trans rfl rfl

theorem loop_ok (I : Nat → Rho → St → Prop) {f : Rho → St → RA Rho} {Q : Ex × Rho × St → Prop} (step : ∀ n ρ S, I n ρ S → Ok (f ρ S) (After I n Q)) {n : Nat} {ρ : Rho} {S : St} (h : I n ρ S) : Ok (loopA f ρ S) Q := by
  have key : ∀ n ρ S, I n ρ S → ∃ k, Ok (iterA k f ρ S) Q := by
    intro n
    induction n using Nat.strongRecOn with
    | _ n ih =>
      intro ρ S h
      obtain ⟨⟨x, ρ', S'⟩, hx, hq⟩ := step n ρ S h
      cases x with
      | normal =>
        simp only [After_normal] at hq
        obtain ⟨m, hm, hI⟩ := hq
        obtain ⟨k, r, hr, hQ⟩ := ih m hm ρ' S' hI
        exact ⟨k + 1, r, by simp only [iterA, hx, Option.bind_some, seqK_normal]; exact hr, hQ⟩
      | exit i => exact ⟨1, _, by simp only [iterA, hx, Option.bind_some, seqK_exit], hq⟩
      | ret => exact ⟨1, _, by simp only [iterA, hx, Option.bind_some, seqK_ret], hq⟩
  obtain ⟨k, r, hr, hQ⟩ := key n ρ S h
  exact ⟨r, loopA_of_iter hr, hQ⟩

end
end Go.AM
