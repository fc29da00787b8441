/- AmP: a function's text as a small code (types, guards, orders resolved), variables as a function of their numbers: for proofs by rewriting. -/
import Derived.Test.YtdfimlepfaheeaaGreatAmS
set_option linter.unusedVariables false
set_option linter.unusedSimpArgs false
namespace Go.AM

/-- Variables, however they are kept. -/
class Vars (E : Type) where
  get : E → Nat → Value
  put : E → Nat → Value → E
  get_put : ∀ e d v t, get (put e d v) t = if t = d then v else get e t

abbrev Rho := Nat → Value

def upd (ρ : Rho) (d : Nat) (v : Value) : Rho := fun t => if t = d then v else ρ t

instance : Vars Rho := ⟨fun ρ t => ρ t, upd, fun _ _ _ _ => rfl⟩

def pget (m : PM Value) (t : Nat) : Value := match m.get t with | some v => v | none => undef
instance : Vars (PM Value) := ⟨pget, fun m d v => m.set d (some v), fun e d v t => by simp only [pget, PM.get_set]; by_cases h : t = d <;> simp [h]⟩

variable {E : Type} [Vars E]

def evO (ρ : E) : Operand → Value
  | .tmp t => Vars.get ρ t
  | .const v => v
  | .func f => .func (.func f) #[] #[]
  | .global _ => undef

def updO (ρ : E) (d : Option Tmp) (v : Value) : E := match d with | none => ρ | some d => Vars.put ρ d v

inductive AOp where
  | mv (x : Operand)
  | pick (c a b : Operand)
  | load1 (a : Operand)
  | loadN (k : Nat) (a : Operand)
  | store (k : Nat) (a v : Operand)
  | fld (off : Nat) (a : Operand)
  | idxS (k : Nat) (a i : Operand)
  | idxA (len k : Nat) (a i : Operand)
  | ext (x : Operand) (i : Nat)
  | len (x : Operand)
  | nil (x : Operand)
  | not (x : Operand)
  | new (t : TypeId) (z : List Value)
  | box (t : TypeId) (x : Operand)
  | bin (op : BinOp) (t : TypeId) (x y : Operand)
  | call (f : FuncId) (args : List Operand)
  | callv (f : Operand) (args : List Operand)
  | gen (o : Op) (ty : TypeId)

structure AI where
  d : Option Tmp
  g : Option (Tmp × Bool)
  op : AOp

inductive AC where
  | ops (l : List AI)
  | plan (l : List (AI × List AI))
  | seq (a b : AC)
  | cond (c : Operand) (a b : AC)
  | block (id : Nat) (c : AC)
  | loop (c : AC)
  | exit (id : Nat)
  | ret
  | skip

/-! ## What the operations do -/

def pickV (c a b : Value) : Option Value := match c with | .bool t => some (if t then a else b) | _ => none
def load1V (a : Value) (S : St) : Option Value :=
  match a with
  | .pointer (some ⟨n, off, none⟩) => (rowAt S n off 1).bind fun l => l.head?
  | _ => none
def loadNV (k : Nat) (a : Value) (S : St) : Option Value :=
  match a with
  | .pointer (some ⟨n, off, none⟩) => (rowAt S n off k).map fun l => .agg l.toArray
  | _ => none
def storeKV (k : Nat) (a v : Value) (S : St) : Option St :=
  match a with
  | .pointer (some ⟨n, off, none⟩) => if v.cells.size = k then putRow S n off v.cells.toList else none
  | _ => none
def fldV (o : Nat) (a : Value) : Option Value :=
  match a with
  | .pointer (some ⟨n, off, none⟩) => some (.pointer (some ⟨n, off + o, none⟩))
  | _ => none
def idxSV (k : Nat) (a i : Value) : Option Value :=
  match a, i with
  | .slice (some ⟨n, off, none⟩) len _, .int _ i => if 0 ≤ i ∧ i < len then some (.pointer (some ⟨n, off + i.toNat * k, none⟩)) else none
  | _, _ => none
def idxAV (len k : Nat) (a i : Value) : Option Value :=
  match a, i with
  | .pointer (some ⟨n, off, none⟩), .int _ i => if 0 ≤ i ∧ i < len then some (.pointer (some ⟨n, off + i.toNat * k, none⟩)) else none
  | _, _ => none
def extV (x : Value) (i : Nat) : Option Value := match x with | .tuple vs => vs[i]? | _ => none
def lenV (x : Value) : Option Value := match x with | .slice _ n _ => some (goInt n) | _ => none
def nilV (x : Value) : Option Value := match x with | .pointer (some a) => some (.pointer (some a)) | _ => none
def notV (x : Value) : Option Value := match x with | .bool b => some (.bool !b) | _ => none

def intBin (op : BinOp) (k : IntKind) (a b : Int) : Option Value :=
  match op with
  | .add => some (.int k (k.wrap (a + b)))
  | .sub => some (.int k (k.wrap (a - b)))
  | .mul => some (.int k (k.wrap (a * b)))
  | .quo => if b = 0 then none else some (.int k (k.wrap (a.tdiv b)))
  | .rem => if b = 0 then none else some (.int k (a.tmod b))
  | .eql => some (.bool (a == b))
  | .neq => some (.bool (a != b))
  | .lss => some (.bool (a < b))
  | .leq => some (.bool (a ≤ b))
  | .gtr => some (.bool (a > b))
  | .geq => some (.bool (a ≥ b))
  | _ => none

/-- Values that are compared without memory. -/
def eqPair : Value → Value → Bool
  | .slice none _ _, .slice none _ _ => true
  | .pointer none, .pointer none => true
  | .map none, .map none => true
  | .nilFunc, .nilFunc => true
  | .bool _, .bool _ => true
  | .string _, .string _ => true
  | _, _ => false
def pureV (o : Option Value) : Option Value := match o with | some v => if af v then some v else none | none => none

def binV (P : Program) (op : BinOp) (t : TypeId) (x y : Value) (S : St) : Option Value :=
  match x, y with
  | .int k a, .int k' b => if k = k' then intBin op k a b else none
  | x, y =>
    if af x && af y then (if eqPair x y then pureV (runPure P (Go.binOp op t x y)) else none)
    else match op with
      | .eql => (eqV P t x y S).map .bool
      | .neq => (eqV P t x y S).map fun b => .bool !b
      | _ => none

def doA (P : Program) (cF : CF) (op : AOp) (ρ : Operand → Value) (S : St) : Option (Value × St) :=
  match op with
  | .mv x => some (ρ x, S)
  | .pick c a b => (pickV (ρ c) (ρ a) (ρ b)).map fun v => (v, S)
  | .load1 a => (load1V (ρ a) S).map fun v => (v, S)
  | .loadN k a => (loadNV k (ρ a) S).map fun v => (v, S)
  | .store k a v => (storeKV k (ρ a) (ρ v) S).map fun S' => (undef, S')
  | .fld off a => (fldV off (ρ a)).map fun v => (v, S)
  | .idxS k a i => (idxSV k (ρ a) (ρ i)).map fun v => (v, S)
  | .idxA len k a i => (idxAV len k (ρ a) (ρ i)).map fun v => (v, S)
  | .ext x i => (extV (ρ x) i).map fun v => (v, S)
  | .len x => (lenV (ρ x)).map fun v => (v, S)
  | .nil x => (nilV (ρ x)).map fun v => (v, S)
  | .not x => (notV (ρ x)).map fun v => (v, S)
  | .new t z => some (newRowV S t z)
  | .box t x => if ones (ρ x).cells.toList then some (newRowV S t (ρ x).cells.toList) else none
  | .bin op t x y => (binV P op t (ρ x) (ρ y) S).map fun v => (v, S)
  | .call f args => cF f (args.map ρ) S
  | .callv f args => callV cF (ρ f) (args.map ρ) S
  | .gen o ty => opS P ρ ⟨none, o, ty, "", #[], none⟩ S

def wantedA (g : Option (Tmp × Bool)) (ρ : E) : Bool :=
  match g with
  | none => true
  | some (t, want) => match Vars.get ρ t with | .bool b => b == want | _ => false

def stepA (P : Program) (cF : CF) (i : AI) (ρ : E) (S : St) : Option (E × St) :=
  if wantedA i.g ρ then (doA P cF i.op (evO ρ) S).bind fun p => some (updO ρ i.d p.1, p.2) else some (updO ρ i.d undef, S)

def runAs (P : Program) (cF : CF) : List AI → E → St → Option (E × St)
  | [], ρ, S => some (ρ, S)
  | i :: l, ρ, S => (stepA P cF i ρ S).bind fun p => runAs P cF l p.1 p.2

def isCall : AOp → Bool
  | .call .. | .callv .. => true
  | _ => false

def againA (P : Program) (cF : CF) (i : AI) (ρ : E) (S : St) : Bool :=
  if wantedA i.g ρ then
    !isCall i.op && match i.d, doA P cF i.op (evO ρ) S with
      | some d, some (v, _) => vsame v (Vars.get ρ d)
      | _, _ => false
  else true

def runAp (P : Program) (cF : CF) : List (AI × List AI) → E → St → Option (E × St)
  | [], ρ, S => some (ρ, S)
  | (i, rs) :: l, ρ, S => (stepA P cF i ρ S).bind fun p => if rs.all (fun r => againA P cF r p.1 p.2) then runAp P cF l p.1 p.2 else none

abbrev RA (E : Type) := Option (Ex × E × St)
abbrev LA (E : Type) := (E → St → RA E) → E → St → RA E

def seqK (k : E → St → RA E) (p : Ex × E × St) : RA E := match p.1 with | .normal => k p.2.1 p.2.2 | x => some (x, p.2.1, p.2.2)
def condK (v : Value) (a b : Unit → RA E) : RA E := match v with | .bool true => a () | .bool false => b () | _ => none
def blockK (id : Nat) (p : Ex × E × St) : RA E := match p.1 with | .exit id' => if id' = id then some (.normal, p.2.1, p.2.2) else some (.exit id', p.2.1, p.2.2) | x => some (x, p.2.1, p.2.2)

def runA (P : Program) (cF : CF) (lA : LA E) : AC → E → St → RA E
  | .ops l, ρ, S => (runAs P cF l ρ S).bind fun p => some (.normal, p.1, p.2)
  | .plan l, ρ, S => (runAp P cF l ρ S).bind fun p => some (.normal, p.1, p.2)
  | .seq a b, ρ, S => (runA P cF lA a ρ S).bind (seqK (runA P cF lA b))
  | .cond c a b, ρ, S => condK (evO ρ c) (fun _ => runA P cF lA a ρ S) (fun _ => runA P cF lA b ρ S)
  | .block id c, ρ, S => (runA P cF lA c ρ S).bind (blockK id)
  | .loop c, ρ, S => lA (runA P cF lA c) ρ S
  | .exit id, ρ, S => some (.exit id, ρ, S)
  | .ret, ρ, S => some (.ret, ρ, S)
  | .skip, ρ, S => some (.normal, ρ, S)

def iterA : Nat → LA E
  | 0, _, _, _ => none
  | n + 1, f, ρ, S => (f ρ S).bind (seqK (iterA n f))

noncomputable def loopA : LA E := fun f ρ S =>
  open Classical in if h : ∃ n, (iterA n f ρ S).isSome then iterA (Classical.choose h) f ρ S else none

/-! ## Out of the model's text -/

def okBin (P : Program) (op : BinOp) (t : TypeId) : Bool :=
  (match op with | .and | .or | .xor | .andNot | .shl | .shr => false | _ => true) &&
  (match P.underlying t with | some (.int _) | some (.pointer _) | some (.slice _) | some (.map ..) => true | _ => false)

def compOp (P : Program) (o : Oper) : Option AOp :=
  match o.op with
  | .move x | .assign x => some (.mv x)
  | .pick c a b => some (.pick c a b)
  | .load t a =>
    match aggO P t, sizeO P t with
    | some true, some k => some (.loadN k a)
    | some false, some _ => some (.load1 a)
    | _, _ => none
  | .store t a v => (sizeO P t).map fun k => .store k a v
  | .fieldAddr t x i =>
    match P.underlying t with
    | some (.struct fields) =>
      match fields[i]? with
      | some f => match sizeO P f.type with | some k => if k = 0 then none else some (.fld f.offset x) | none => none
      | none => none
    | _ => none
  | .indexAddr t x i =>
    match P.underlying t with
    | some (.array len e) => (sizeO P e).map fun k => .idxA len k x i
    | some (.slice e) => (sizeO P e).map fun k => .idxS k x i
    | _ => none
  | .extract x i => some (.ext x i)
  | .nilCheck x => some (.nil x)
  | .unOp .not t x => some (.not x)
  | .alloc t => match zeroO P t with | some z => if afs z.cells.toList then some (.new t z.cells.toList) else none | none => none
  | .box t x => some (.box t x)
  | .binOp op t x y _ => some (if okBin P op t then .bin op t x y else .gen o.op o.type)
  | .call { callee := .value (.func f), args, .. } => some (.call f args.toList)
  | .call { callee := .value x, args, .. } => some (.callv x args.toList)
  | .call { callee := .builtin .len, args, argTypes } =>
    match argTypes.toList, args.toList with
    | [t], [x] => (match P.underlying t with | some (.slice _) => some (.len x) | _ => some (.gen o.op o.type))
    | _, _ => none
  | op => some (.gen op o.type)

def dOk (n : Nat) (d : Option Tmp) : Bool := match d with | some d => Nat.blt d n | none => true

def compI (P : Program) (n : Nat) (ops : Array Oper) (o : Oper) : Option AI :=
  if dOk n o.dst = true then
    match o.guard with
    | none => (compOp P o).map fun a => ⟨o.dst, none, a⟩
    | some (j, w) =>
      match (ops[j]?).bind (·.dst) with
      | some t => (compOp P o).map fun a => ⟨o.dst, some (t, w), a⟩
      | none => none
  else none

def mapO {α β : Type} (f : α → Option β) : List α → Option (List β)
  | [] => some []
  | x :: l => (f x).bind fun y => (mapO f l).bind fun r => some (y :: r)

def compPlan (P : Program) (n : Nat) (ops : Array Oper) (p : Nat × List Nat) : Option (AI × List AI) :=
  ((ops[p.1]?).bind (compI P n ops)).bind fun i => (mapO (fun r => (ops[r]?).bind (compI P n ops)) p.2).bind fun rs => some (i, rs)

def comp (P : Program) (n : Nat) : Code → Option AC
  | .skip => some .skip
  | .label _ => some .skip
  | .region _ ops false => (mapO (compI P n ops) ops.toList).map .ops
  | .region _ ops true => (mapO (compPlan P n ops) (planOf P ops)).map .plan
  | .seq a b => (comp P n a).bind fun x => (comp P n b).bind fun y => some (.seq x y)
  | .cond c a b => (comp P n a).bind fun x => (comp P n b).bind fun y => some (.cond c x y)
  | .block id c => (comp P n c).map (.block id)
  | .loop c => (comp P n c).map .loop
  | .scope c => comp P n c
  | .exit id => some (.exit id)
  | .ret => some .ret
  | _ => none

/-! ## The small code tells what the text tells -/

structure EnvIs (n : Nat) (e : Env) (ρ : E) : Prop where
  sz : e.sz = n
  get : ∀ t, e.get t = Vars.get ρ t

theorem EnvIs.ev {n : Nat} {e : Env} {ρ : E} (h : EnvIs n e ρ) : e.ev = evO ρ := by
  funext x
  cases x with
  | tmp t => exact h.get t
  | _ => rfl

theorem EnvIs.put {n : Nat} {e : Env} {ρ : E} (h : EnvIs n e ρ) {d : Option Tmp} (hd : dOk n d = true) (v : Value) : EnvIs n (e.put d v) (updO ρ d v) := by
  refine ⟨by rw [Env.sz_put]; exact h.sz, fun t => ?_⟩
  cases d with
  | none => exact h.get t
  | some d =>
    simp only [dOk, blt_eq, decide_eq_true_eq] at hd
    rw [Env.get_put, h.sz]
    simp only [updO, Vars.get_put]
    by_cases e1 : t = d
    · simp [e1, hd]
    · simp [e1, h.get t]

theorem opS_gen (P : Program) (ρ : Operand → Value) (o : Oper) (S : St) : opS P ρ ⟨none, o.op, o.type, "", #[], none⟩ S = opS P ρ o S := by
  obtain ⟨dst, op, ty, pos, after, g⟩ := o
  cases op <;> first | rfl | skip

section
variable {P : Program} {cF : CF}

theorem eqGuard_pair {op : BinOp} {t : TypeId} {x y : Operand} {a b : Value} (h : eqPair a b = true) : eqGuard op t x y a b = Pure.pure () := by
  unfold eqPair at h
  split at h
  · unfold eqGuard; cases op <;> rfl
  · unfold eqGuard; cases op <;> rfl
  · unfold eqGuard; cases op <;> rfl
  · unfold eqGuard; cases op <;> rfl
  · unfold eqGuard; cases op <;> rfl
  · unfold eqGuard; cases op <;> rfl
  · cases h

theorem binV_opS {ρ : Operand → Value} {o : Oper} {S : St} {op : BinOp} {t yt : TypeId} {x y : Operand} (ho : o.op = .binOp op t x y yt) {v : Value} (h : binV P op t (ρ x) (ρ y) S = some v) : opS P ρ o S = some (v, S) := by
  obtain ⟨dst, op', ty, pos, after, g⟩ := o
  simp only at ho
  subst ho
  unfold binV at h
  split at h
  · rename_i k a k' b hx hy
    split at h
    · rename_i hk
      subst hk
      have key : ∀ v, (eqGuard op t x y (.int k a) (.int k b)) = Pure.pure () → runPure P (Go.binOp op t (.int k a) (.int k b)) = some v → af v = true → opS P ρ ⟨dst, .binOp op t x y yt, ty, pos, after, g⟩ S = some (v, S) := by
        intro v h1 h2 h3
        have h4 : runPure P (execOp ρ ⟨dst, .binOp op t x y yt, ty, pos, after, g⟩) = some (.value v) := by
          simp only [execOp, hx, hy, h1]
          show runPure P (Sem.bind (Sem.bind (Sem.pure ()) _) _) = _
          simp only [Sem.bind]
          generalize Go.binOp op t (.int k a) (.int k b) = s at h2
          induction s with
          | pure b => simp [runPure] at h2; subst h2; rfl
          | program k ih => exact ih P (by simpa [runPure] using h2)
          | _ => simp [runPure] at h2
        have h5 : (af (ρ x) && af (ρ y)) = true := by rw [hx, hy]; rfl
        simp only [opS]
        rw [if_pos h5]
        rw [hx, hy] at h5
        simp only [Bool.and_eq_true] at h5
        simp [fallback, Op.operands, hx, hy, h4, h3, h5.1, h5.2]
      have hg : eqGuard op t x y (.int k a) (.int k b) = Pure.pure () := by unfold eqGuard; cases op <;> rfl
      refine key v hg ?_ ?_
      · unfold intBin at h
        cases op <;> simp only at h <;> first
          | (injection h with h; subst h; simp [Go.binOp, Op.intArith, Op.intCmp, runPure]; rfl; done)
          | (cases h; done)
          | (split at h
             · cases h
             · rename_i hb; injection h with h; subst h; simp [Go.binOp, Op.intDiv, hb]; rfl)
      · unfold intBin at h
        cases op <;> simp only at h <;> first
          | (injection h with h; subst h; rfl)
          | (cases h; done)
          | (split at h
             · cases h
             · injection h with h; subst h; rfl)
    · cases h
  · split at h
    · rename_i haf
      split at h
      · rename_i hp
        unfold pureV at h
        split at h
        · rename_i u hu
          split at h
          · rename_i hau
            injection h with h
            subst h
            have hg : eqGuard op t x y (ρ x) (ρ y) = Pure.pure () := eqGuard_pair hp
            have h4 : runPure P (execOp ρ ⟨dst, .binOp op t x y yt, ty, pos, after, g⟩) = some (.value u) := by
              simp only [execOp, hg]
              show runPure P (Sem.bind (Sem.bind (Sem.pure ()) _) _) = _
              simp only [Sem.bind]
              generalize Go.binOp op t (ρ x) (ρ y) = s at hu
              clear hg
              induction s with
              | pure b => simp [runPure] at hu; subst hu; rfl
              | program k ih => exact ih P (by simpa [runPure] using hu)
              | _ => simp [runPure] at hu
            simp only [opS]
            rw [if_pos haf]
            simp only [Bool.and_eq_true] at haf
            simp [fallback, Op.operands, h4, hau, haf.1, haf.2]
          · cases h
        · cases h
      · cases h
    · rename_i haf
      simp only [opS]
      rw [if_neg haf]
      split at h
      · cases hb : eqV P t (ρ x) (ρ y) S with
        | none => simp [hb] at h
        | some b => simp [hb] at h; subst h; simp [hb]
      · cases hb : eqV P t (ρ x) (ρ y) S with
        | none => simp [hb] at h
        | some b => simp [hb] at h; subst h; simp [hb]
      · cases h

theorem genOk {o : Oper} {e : Env} {S : St} {r : Value × St} (h1 : doOp P cF o e S = opS P e.ev o S) (hd : doA P cF (.gen o.op o.type) e.ev S = some r) : doOp P cF o e S = some r := by
  rw [h1, ← opS_gen]; exact hd

theorem compOp_ok {o : Oper} {a : AOp} (h : compOp P o = some a) {e : Env} {S : St} {r : Value × St} (hd : doA P cF a e.ev S = some r) : doOp P cF o e S = some r := by
  obtain ⟨dst, op, ty, pos, after, g⟩ := o
  cases op with
  | call c =>
    obtain ⟨callee, args, ts⟩ := c
    cases callee with
    | value f =>
      cases f with
      | func f => simp only [compOp] at h; cases h; simp only [doOp, Env.ev, callV]; simpa [doA] using hd
      | _ => simp only [compOp] at h; cases h; exact hd
    | builtin b =>
      cases b with
      | len =>
        simp only [compOp] at h
        split at h
        · rename_i t x ht hx
          split at h
          · rename_i e' he
            cases h
            simp only [doA] at hd
            simp only [doOp, opS, builtinS, ht, hx, he]
            cases hv : e.ev x <;> simp_all [lenV]
          · cases h; exact genOk rfl hd
        · cases h
      | _ => simp only [compOp] at h; cases h; exact genOk rfl hd
    | _ => simp only [compOp] at h; cases h; exact genOk rfl hd
  | move x => simp only [compOp] at h; cases h; exact hd
  | assign x => simp only [compOp] at h; cases h; exact hd
  | pick c x y =>
    simp only [compOp] at h; cases h
    simp only [doA] at hd
    simp only [doOp, opS]
    cases hv : e.ev c <;> simp_all [pickV]
  | load t a =>
    simp only [compOp] at h
    split at h
    · rename_i k hk hs
      cases h
      simp only [doA] at hd
      simp only [doOp, opS, loadV, hk, hs]
      revert hd
      simp only [loadNV]
      split <;> simp_all
    · rename_i k hk hs
      cases h
      simp only [doA] at hd
      simp only [doOp, opS, loadV, hk, hs]
      revert hd
      simp only [load1V]
      split <;> simp_all
    · cases h
  | store t a v =>
    simp only [compOp] at h
    cases hs : sizeO P t with
    | none => simp [hs] at h
    | some k =>
      simp [hs] at h; subst h
      simp only [doA] at hd
      simp only [doOp, opS, storeV, hs]
      revert hd
      simp only [storeKV]
      split
      · rename_i hx; simp only [hx, Option.some.injEq, eq_comm (a := k)]; exact id
      · simp
  | fieldAddr t x i =>
    simp only [compOp] at h
    split at h
    · rename_i fields hf
      split at h
      · rename_i f hi
        split at h
        · rename_i k hk
          split at h
          · cases h
          · rename_i h0
            cases h
            simp only [doA] at hd
            simp only [doOp, opS, fieldAtV, hf]
            revert hd
            simp only [fldV]
            split
            · rename_i hx; simp [hx, hi, hk, h0]
            · simp
        · cases h
      · cases h
    · cases h
  | indexAddr t x i =>
    simp only [compOp] at h
    split at h
    · rename_i len e' hu
      cases hs : sizeO P e' with
      | none => simp [hs] at h
      | some k =>
        simp [hs] at h; subst h
        simp only [doA] at hd
        simp only [doOp, opS, indexAtV, hu]
        revert hd
        simp only [idxAV]
        split
        · rename_i hx hi; simp [hx, hi, hs]
        · simp
    · rename_i e' hu
      cases hs : sizeO P e' with
      | none => simp [hs] at h
      | some k =>
        simp [hs] at h; subst h
        simp only [doA] at hd
        simp only [doOp, opS, indexAtV, hu]
        revert hd
        simp only [idxSV]
        split
        · rename_i hx hi; simp [hx, hi, hs]
        · simp
    · cases h
  | extract x i =>
    simp only [compOp] at h; cases h
    simp only [doA] at hd
    simp only [doOp, opS]
    cases hv : e.ev x <;> simp_all [extV]
  | nilCheck x =>
    simp only [compOp] at h; cases h
    simp only [doA] at hd
    simp only [doOp, opS]
    revert hd
    simp only [nilV]
    split
    · rename_i hx; simp [hx]
    · simp
  | unOp u t x =>
    cases u with
    | not =>
      simp only [compOp] at h; cases h
      simp only [doA] at hd
      simp only [doOp, opS]
      revert hd
      simp only [notV]
      split
      · rename_i b hx
        have : runPure P (execOp e.ev ⟨dst, .unOp .not t x, ty, pos, after, g⟩) = some (.value (.bool !b)) := by
          simp only [execOp, hx]; rfl
        simp [fallback, Op.operands, hx, this, af, af1]
        done
      · simp
    | _ => simp only [compOp] at h; cases h; exact genOk rfl hd
  | alloc t =>
    simp only [compOp] at h
    split at h
    · rename_i z hz
      split at h
      · rename_i haf
        cases h
        simp only [doA] at hd
        simp only [doOp, opS, hz, haf, if_true]
        exact hd
      · cases h
    · cases h
  | box t x => simp only [compOp] at h; cases h; exact hd
  | binOp b t x y yt =>
    simp only [compOp, Option.some.injEq] at h
    split at h
    · subst h
      simp only [doA] at hd
      cases hv : binV P b t (e.ev x) (e.ev y) S with
      | none => simp [hv] at hd
      | some v => simp [hv] at hd; subst hd; exact binV_opS (o := ⟨dst, .binOp b t x y yt, ty, pos, after, g⟩) rfl hv
    · subst h; exact genOk rfl hd
  | _ => simp only [compOp] at h; cases h; exact genOk rfl hd

theorem compI_ok {n : Nat} {ops : Array Oper} {o : Oper} {i : AI} (h : compI P n ops o = some i) : dOk n o.dst = true ∧ i.d = o.dst ∧ compOp P o = some i.op ∧ ∀ (e : Env) (ρ : E), EnvIs n e ρ → wantedE ops o e = wantedA i.g ρ := by
  unfold compI at h
  split at h
  · rename_i hd
    refine ⟨hd, ?_⟩
    cases hg : o.guard with
    | none =>
      simp only [hg] at h
      cases hc : compOp P o with
      | none => simp [hc] at h
      | some a => simp [hc] at h; subst h; exact ⟨rfl, rfl, fun e ρ he => by simp [wantedE, wantedA, hg]⟩
    | some jw =>
      obtain ⟨j, w⟩ := jw
      simp only [hg] at h
      cases ht : (ops[j]?).bind (·.dst) with
      | none => simp [ht] at h
      | some t =>
        simp only [ht] at h
        cases hc : compOp P o with
        | none => simp [hc] at h
        | some a => simp [hc] at h; subst h; exact ⟨rfl, rfl, fun e ρ he => by simp only [wantedE, wantedA, hg, ht, he.get]; cases Vars.get ρ t <;> rfl⟩
  · cases h

theorem stepA_ok {n : Nat} {ops : Array Oper} {o : Oper} {i : AI} (h : compI P n ops o = some i) {e : Env} {ρ ρ' : E} {S S' : St} (he : EnvIs n e ρ) (hs : stepA P cF i ρ S = some (ρ', S')) : ∃ e', stepOp P cF ops o e S = some (e', S') ∧ EnvIs n e' ρ' := by
  obtain ⟨hd, h1, h2, h3⟩ := compI_ok (E := E) h
  unfold stepA at hs
  unfold stepOp
  rw [h3 e ρ he]
  split at hs
  · rename_i hw
    rw [if_pos hw]
    cases hx : doA P cF i.op (evO ρ) S with
    | none => simp [hx] at hs
    | some p =>
      simp [hx] at hs
      obtain ⟨rfl, rfl⟩ := hs
      rw [← he.ev] at hx
      rw [compOp_ok h2 hx, h1]
      exact ⟨_, rfl, he.put hd _⟩
  · rename_i hw
    rw [if_neg hw]
    simp at hs
    obtain ⟨rfl, rfl⟩ := hs
    rw [h1]
    exact ⟨_, rfl, he.put hd _⟩

theorem mapO_cons {α β : Type} {f : α → Option β} {x : α} {l : List α} {r : List β} (h : mapO f (x :: l) = some r) : ∃ y l', f x = some y ∧ mapO f l = some l' ∧ r = y :: l' := by
  simp only [mapO] at h
  cases h1 : f x with
  | none => simp [h1] at h
  | some y =>
    cases h2 : mapO f l with
    | none => simp [h1, h2] at h
    | some l' => simp [h1, h2] at h; exact ⟨y, l', rfl, rfl, h.symm⟩

theorem runAs_ok {n : Nat} {ops : Array Oper} : ∀ (l : List Oper) (r : List AI), mapO (compI P n ops) l = some r → ∀ {e : Env} {ρ ρ' : E} {S S' : St}, EnvIs n e ρ → runAs P cF r ρ S = some (ρ', S') → ∃ e', runOps P cF ops l e S = some (e', S') ∧ EnvIs n e' ρ'
  | [], r, h, e, ρ, ρ', S, S', he, hs => by
    simp only [mapO] at h; cases h
    simp only [runAs] at hs; cases hs
    exact ⟨e, rfl, he⟩
  | o :: l, r, h, e, ρ, ρ', S, S', he, hs => by
    obtain ⟨i, l', h1, h2, rfl⟩ := mapO_cons h
    simp only [runAs] at hs
    cases hx : stepA P cF i ρ S with
    | none => simp [hx] at hs
    | some p =>
      simp [hx] at hs
      obtain ⟨e1, h3, h4⟩ := stepA_ok h1 he hx
      obtain ⟨e2, h5, h6⟩ := runAs_ok l l' h2 h4 hs
      exact ⟨e2, by simp [runOps, h3, h5], h6⟩

theorem doOp_opS {o : Oper} {a : AOp} (h : compOp P o = some a) (hc : isCall a = false) {e : Env} {S : St} : doOp P cF o e S = opS P e.ev o S := by
  obtain ⟨dst, op, ty, pos, after, g⟩ := o
  cases op with
  | call c =>
    obtain ⟨callee, args, ts⟩ := c
    cases callee with
    | value f =>
      cases f <;> (simp only [compOp] at h; cases h; cases hc)
    | builtin b => rfl
    | invoke _ _ => rfl
  | _ => rfl

theorem againA_ok {n : Nat} {ops : Array Oper} {r : Nat} {i : AI} (h : (ops[r]?).bind (compI P n ops) = some i) {e : Env} {ρ : E} {S : St} (he : EnvIs n e ρ) (hs : againA P cF i ρ S = true) : recheck P ops e S r = true := by
  cases ho : ops[r]? with
  | none => simp [ho] at h
  | some o =>
    simp [ho] at h
    obtain ⟨hd, h1, h2, h3⟩ := compI_ok (E := E) h
    unfold againA at hs
    simp only [recheck, ho]
    rw [h3 e ρ he]
    split at hs
    · rename_i hw
      rw [if_pos hw]
      simp only [Bool.and_eq_true, Bool.not_eq_true'] at hs
      obtain ⟨hc, hs⟩ := hs
      split at hs
      · rename_i d v S2 hd' hx
        rw [← he.ev] at hx
        have hz := compOp_ok h2 hx
        rw [doOp_opS h2 hc] at hz
        rw [← h1, hd'] at hd ⊢
        rw [hz]
        simp only [Bool.and_eq_true]
        rw [he.sz, he.get]
        exact ⟨hd, hs⟩
      · cases hs
    · rename_i hw
      rw [if_neg hw]

theorem all_ok {α β : Type} {f : α → Option β} {p : β → Bool} {q : α → Bool} (hpq : ∀ x y, f x = some y → p y = true → q x = true) : ∀ (l : List α) (r : List β), mapO f l = some r → r.all p = true → l.all q = true
  | [], _, _, _ => rfl
  | x :: l, r, h, ha => by
    obtain ⟨y, l', h1, h2, rfl⟩ := mapO_cons h
    simp only [List.all_cons, Bool.and_eq_true] at ha ⊢
    exact ⟨hpq x y h1 ha.1, all_ok hpq l l' h2 ha.2⟩

theorem runAp_ok {n : Nat} {ops : Array Oper} : ∀ (l : List (Nat × List Nat)) (r : List (AI × List AI)), mapO (compPlan P n ops) l = some r → ∀ {e : Env} {ρ ρ' : E} {S S' : St}, EnvIs n e ρ → runAp P cF r ρ S = some (ρ', S') → ∃ e', runPlan P cF ops l e S = some (e', S') ∧ EnvIs n e' ρ'
  | [], r, h, e, ρ, ρ', S, S', he, hs => by
    simp only [mapO] at h; cases h
    simp only [runAp] at hs; cases hs
    exact ⟨e, rfl, he⟩
  | (p, rs) :: l, r, h, e, ρ, ρ', S, S', he, hs => by
    obtain ⟨y, l', h1, h2, rfl⟩ := mapO_cons h
    obtain ⟨i, ris⟩ := y
    simp only [compPlan] at h1
    cases ho : ops[p]? with
    | none => simp [ho] at h1
    | some o =>
      simp only [ho, Option.bind_some] at h1
      cases hi : compI P n ops o with
      | none => simp [hi] at h1
      | some i' =>
        simp only [hi, Option.bind_some] at h1
        cases hr : mapO (fun r => (ops[r]?).bind (compI P n ops)) rs with
        | none => simp [hr] at h1
        | some rr =>
          simp only [hr, Option.bind_some, Option.some.injEq, Prod.mk.injEq] at h1
          obtain ⟨rfl, rfl⟩ := h1
          simp only [runAp] at hs
          cases hx : stepA P cF i' ρ S with
          | none => simp [hx] at hs
          | some q =>
            simp only [hx, Option.bind_some] at hs
            obtain ⟨e1, h3, h4⟩ := stepA_ok hi he hx
            split at hs
            · rename_i hall
              obtain ⟨e2, h5, h6⟩ := runAp_ok l l' h2 h4 hs
              refine ⟨e2, ?_, h6⟩
              simp only [runPlan, ho, h3]
              rw [if_pos (all_ok (fun r y hy ha => againA_ok hy h4 ha) rs rr hr hall)]
              exact h5
            · cases hs

/-- A body of the small code and one of the text. -/
def Sim (n : Nat) (f : E → St → RA E) (g : Env → St → R) : Prop := ∀ ⦃e : Env⦄ ⦃ρ ρ' : E⦄ ⦃S S' : St⦄ ⦃x : Ex⦄, EnvIs n e ρ → f ρ S = some (x, ρ', S') → ∃ e', g e S = some (x, e', S') ∧ EnvIs n e' ρ'

theorem iterA_ok {n : Nat} {f : E → St → RA E} {g : Env → St → R} (h : Sim n f g) : ∀ k, Sim n (iterA k f) (iter k g) := by
  intro k
  induction k with
  | zero => intro e ρ ρ' S S' x he hs; cases hs
  | succ k ih =>
    intro e ρ ρ' S S' x he hs
    simp only [iterA] at hs
    cases hx : f ρ S with
    | none => simp [hx] at hs
    | some q =>
      obtain ⟨y, ρ1, S1⟩ := q
      simp only [hx, Option.bind_some, seqK] at hs
      obtain ⟨e1, h1, h2⟩ := h he hx
      cases y with
      | normal =>
        obtain ⟨e2, h3, h4⟩ := ih h2 hs
        exact ⟨e2, by simp [iter, h1, h3], h4⟩
      | exit id => cases hs; exact ⟨e1, by simp [iter, h1], h2⟩
      | ret => cases hs; exact ⟨e1, by simp [iter, h1], h2⟩

theorem loopA_ok {n : Nat} {f : E → St → RA E} {g : Env → St → R} (h : Sim n f g) : Sim n (loopA f) (loopS g) := by
  intro e ρ ρ' S S' x he hs
  unfold loopA at hs
  split at hs
  · rename_i hk
    obtain ⟨e', h1, h2⟩ := iterA_ok h _ he hs
    exact ⟨e', loopS_of_iter h1, h2⟩
  · cases hs

theorem runA_ok {n : Nat} {cG : CF} (hle : CLe cF cG) {lA : LA E} {lS : LF} (hl : ∀ f g, Sim n f g → Sim n (lA f) (lS g)) : ∀ (c : Code) (a : AC), comp P n c = some a → Sim (E := E) n (runA P cF lA a) (exec P cG lS c) := by
  intro c
  induction c with
  | skip => intro a h e ρ ρ' S S' x he hs; simp only [comp] at h; cases h; cases hs; exact ⟨e, rfl, he⟩
  | label l => intro a h e ρ ρ' S S' x he hs; simp only [comp] at h; cases h; cases hs; exact ⟨e, rfl, he⟩
  | region i ops d =>
    intro a h e ρ ρ' S S' x he hs
    cases d with
    | false =>
      simp only [comp] at h
      cases hm : mapO (compI P n ops) ops.toList with
      | none => simp [hm] at h
      | some l =>
        simp [hm] at h; subst h
        simp only [runA] at hs
        cases hx : runAs P cF l ρ S with
        | none => simp [hx] at hs
        | some q =>
          simp [hx] at hs
          obtain ⟨rfl, rfl, rfl⟩ := hs
          obtain ⟨e', h1, h2⟩ := runAs_ok _ l hm he hx
          exact ⟨e', by simp [exec, runOps_mono hle _ h1], h2⟩
    | true =>
      simp only [comp] at h
      cases hm : mapO (compPlan P n ops) (planOf P ops) with
      | none => simp [hm] at h
      | some l =>
        simp [hm] at h; subst h
        simp only [runA] at hs
        cases hx : runAp P cF l ρ S with
        | none => simp [hx] at hs
        | some q =>
          simp [hx] at hs
          obtain ⟨rfl, rfl, rfl⟩ := hs
          obtain ⟨e', h1, h2⟩ := runAp_ok _ l hm he hx
          exact ⟨e', by simp [exec, runPlan_mono hle _ h1], h2⟩
  | seq c d ihc ihd =>
    intro a h e ρ ρ' S S' x he hs
    simp only [comp] at h
    cases h1 : comp P n c with
    | none => simp [h1] at h
    | some ac =>
      cases h2 : comp P n d with
      | none => simp [h1, h2] at h
      | some ad =>
        simp [h1, h2] at h; subst h
        simp only [runA] at hs
        cases hx : runA P cF lA ac ρ S with
        | none => simp [hx] at hs
        | some q =>
          obtain ⟨y, ρ1, S1⟩ := q
          simp only [hx, Option.bind_some, seqK] at hs
          obtain ⟨e1, h3, h4⟩ := ihc ac h1 he hx
          cases y with
          | normal =>
            obtain ⟨e2, h5, h6⟩ := ihd ad h2 h4 hs
            exact ⟨e2, by simp [exec, h3, h5], h6⟩
          | exit id => cases hs; exact ⟨e1, by simp [exec, h3], h4⟩
          | ret => cases hs; exact ⟨e1, by simp [exec, h3], h4⟩
  | cond v c d ihc ihd =>
    intro a h e ρ ρ' S S' x he hs
    simp only [comp] at h
    cases h1 : comp P n c with
    | none => simp [h1] at h
    | some ac =>
      cases h2 : comp P n d with
      | none => simp [h1, h2] at h
      | some ad =>
        simp [h1, h2] at h; subst h
        simp only [runA, condK, ← he.ev] at hs
        split at hs
        · rename_i hv
          obtain ⟨e1, h3, h4⟩ := ihc ac h1 he hs
          exact ⟨e1, by simp [exec, hv, h3], h4⟩
        · rename_i hv
          obtain ⟨e1, h3, h4⟩ := ihd ad h2 he hs
          exact ⟨e1, by simp [exec, hv, h3], h4⟩
        · cases hs
  | block id c ih =>
    intro a h e ρ ρ' S S' x he hs
    simp only [comp] at h
    cases h1 : comp P n c with
    | none => simp [h1] at h
    | some ac =>
      simp [h1] at h; subst h
      simp only [runA] at hs
      cases hx : runA P cF lA ac ρ S with
      | none => simp [hx] at hs
      | some q =>
        obtain ⟨y, ρ1, S1⟩ := q
        simp only [hx, Option.bind_some, blockK] at hs
        obtain ⟨e1, h3, h4⟩ := ih ac h1 he hx
        cases y with
        | normal => cases hs; exact ⟨e1, by simp [exec, h3], h4⟩
        | ret => cases hs; exact ⟨e1, by simp [exec, h3], h4⟩
        | exit i =>
          simp only at hs
          split at hs
          · rename_i hi; cases hs; exact ⟨e1, by simp [exec, h3, hi], h4⟩
          · rename_i hi; cases hs; exact ⟨e1, by simp [exec, h3, hi], h4⟩
  | loop c ih =>
    intro a h e ρ ρ' S S' x he hs
    simp only [comp] at h
    cases h1 : comp P n c with
    | none => simp [h1] at h
    | some ac =>
      simp [h1] at h; subst h
      exact hl _ _ (ih ac h1) he hs
  | scope c ih => intro a h; simp only [comp] at h; exact ih a h
  | exit id => intro a h e ρ ρ' S S' x he hs; simp only [comp] at h; cases h; cases hs; exact ⟨e, rfl, he⟩
  | ret => intro a h e ρ ρ' S S' x he hs; simp only [comp] at h; cases h; cases hs; exact ⟨e, rfl, he⟩
  | _ => intro a h; simp only [comp] at h; cases h

/-! ## Functions -/

structure AFn where
  n : Nat
  code : AC
  res : List ResultVar

def resA (P : Program) (rs : List ResultVar) (ρ : E) (S : St) : Option (List Value) :=
  match rs with
  | [] => some []
  | .tmp t :: rest => (resA P rest ρ S).bind fun l => some (Vars.get ρ t :: l)
  | .cell a t :: rest => (loadV P t (Vars.get ρ a) S).bind fun v => (resA P rest ρ S).bind fun l => some (v :: l)

def endA (P : Program) (rs : List ResultVar) (p : Ex × E × St) : Option (Value × St) :=
  match p.1 with
  | .exit _ => none
  | _ => (resA P rs p.2.1 p.2.2).bind fun l => some (one l, p.2.2)

def funA (P : Program) (cF : CF) (lA : LA E) (a : AFn) (ρ : E) (S : St) : Option (Value × St) :=
  (runA P cF lA a.code ρ S).bind (endA P a.res)

/-- Is this the function's small code? -/
def isFn (P : Program) (f : FuncId) : Option AFn :=
  match P.funcs[f]? with
  | none => none
  | some fn =>
    if fnOk P fn then
      match fn.body with
      | none => none
      | some c => (comp P fn.ntmps c).bind fun a => some ⟨fn.ntmps, a, fn.results.toList⟩
    else none

theorem resA_ok {n : Nat} {e : Env} {ρ : E} {S : St} (he : EnvIs n e ρ) : ∀ (rs : List ResultVar) {l : List Value}, resA P rs ρ S = some l → resultsV P rs e S = some l
  | [], l, h => h
  | .tmp t :: rest, l, h => by
    simp only [resA] at h
    cases h1 : resA P rest ρ S with
    | none => simp [h1] at h
    | some l' => simp [h1] at h; subst h; simp [resultsV, resA_ok he rest h1, he.get]
  | .cell a t :: rest, l, h => by
    simp only [resA, ← he.get] at h
    cases h0 : loadV P t (e.get a) S with
    | none => simp [h0] at h
    | some v =>
      cases h1 : resA P rest ρ S with
      | none => simp [h0, h1] at h
      | some l' => simp [h0, h1] at h; subst h; simp [resultsV, h0, resA_ok he rest h1]

theorem funA_ok {cG : CF} (hle : CLe cF cG) {lA : LA E} {lS : LF} {f : FuncId} {a : AFn} {fn : Func} (hfn : P.funcs[f]? = some fn) (hf : isFn P f = some a) (hl : ∀ f g, Sim a.n f g → Sim a.n (lA f) (lS g))
    {args : List Value} (hn : args.length ≤ a.n) {ρ : E} (hρ : ∀ t, Vars.get ρ t = (args[t]?).getD undef) {S : St} {r : Value × St} (h : funA P cF lA a ρ S = some r) : funcF P cG lS fn args S = some r := by
  unfold isFn at hf
  simp only [hfn] at hf
  split at hf
  · split at hf
    · cases hf
    · rename_i c hb
      cases hc : comp P fn.ntmps c with
      | none => simp [hc] at hf
      | some ac =>
        simp [hc] at hf; subst hf
        have he : EnvIs fn.ntmps (Env.start fn.ntmps args) ρ := by
          refine ⟨Nat.max_eq_right hn, fun t => ?_⟩
          rw [hρ]
          simp only [Env.start, Env.get, ofArgs_get]
          by_cases ht : t < args.length
          · simp [ht]
          · simp [ht]
        simp only [funA] at h
        cases hx : runA P cF lA ac ρ S with
        | none => simp [hx] at h
        | some q =>
          obtain ⟨x, ρ1, S1⟩ := q
          simp only [hx, Option.bind_some, endA] at h
          obtain ⟨e1, h1, h2⟩ := runA_ok hle hl c ac hc he hx
          simp only [funcF, hb, h1]
          cases x with
          | exit id => cases h
          | normal =>
            simp only at h
            cases h3 : resA P fn.results.toList ρ1 S1 with
            | none => simp [h3] at h
            | some l => simp [h3] at h; subst h; simp [resA_ok h2 _ h3]
          | ret =>
            simp only at h
            cases h3 : resA P fn.results.toList ρ1 S1 with
            | none => simp [h3] at h
            | some l => simp [h3] at h; subst h; simp [resA_ok h2 _ h3]
  · cases hf

theorem isFn_ok {f : FuncId} {a : AFn} (hf : isFn P f = some a) : ∃ fn, P.funcs[f]? = some fn ∧ fnOk P fn = true := by
  unfold isFn at hf
  cases hfn : P.funcs[f]? with
  | none => simp [hfn] at hf
  | some fn =>
    simp only [hfn] at hf
    split at hf
    · exact ⟨fn, rfl, by assumption⟩
    · cases hf

/-- The variables as a call begins. -/
def startR (args : List Value) : Rho := fun t => (args[t]?).getD undef

/-- A call comes to what its function's small code comes to. -/
theorem callA {H : HK} {f : FuncId} {a : AFn} (hf : isFn P f = some a) (hH : H f = none) {args : List Value} (hn : args.length ≤ a.n) {S : St} {r : Value × St}
    (h : funA P (callS P H) loopA a (startR args) S = some r) : callS P H f args S = some r := by
  obtain ⟨fn, h1, h2⟩ := isFn_ok hf
  exact callS_of h1 h2 hH (funA_ok (fun _ _ _ _ h => h) h1 hf (fun _ _ h => loopA_ok h) hn (fun t => rfl) h)

/-! ## Runs, by the kernel -/

def startM (args : List Value) : PM Value := Env.ofArgs 0 args

def callP (P : Program) (H : HK) (cp : Nat → Option AFn) (rounds : Nat) : Nat → CF
  | 0, _, _, _ => none
  | n + 1, f, args, S =>
    match H f with
    | some h => h args S
    | none =>
      match cp f with
      | none => none
      | some a => if Nat.ble args.length a.n then funA P (callP P H cp rounds n) (iterA rounds) a (startM args) S else none

theorem callP_ok {H : HK} {cp : Nat → Option AFn} (hcp : ∀ f a, cp f = some a → isFn P f = some a) {rounds : Nat} : ∀ n, CLe (callP P H cp rounds n) (callS P H) := by
  intro n
  induction n with
  | zero => intro f args S r h; cases h
  | succ n ih =>
    intro f args S r h
    simp only [callP] at h
    cases hH : H f with
    | some k => simp only [hH] at h; exact callS_hook hH h
    | none =>
      simp only [hH] at h
      cases hc : cp f with
      | none => simp [hc] at h
      | some a =>
        simp only [hc] at h
        split at h
        · rename_i hn
          obtain ⟨fn, h1, h2⟩ := isFn_ok (hcp f a hc)
          refine callS_of h1 h2 hH (funA_ok ih h1 (hcp f a hc) (fun f g hs => ?_) (by simpa using hn) (fun t => ?_) h)
          · intro e ρ ρ' S S' x he hx
            obtain ⟨e', h3, h4⟩ := iterA_ok hs _ he hx
            exact ⟨e', loopS_of_iter h3, h4⟩
          · simp only [Vars.get, pget, startM, ofArgs_get]
            by_cases ht : t < args.length
            · simp [ht]
            · simp [ht]
        · cases h

end
end Go.AM
