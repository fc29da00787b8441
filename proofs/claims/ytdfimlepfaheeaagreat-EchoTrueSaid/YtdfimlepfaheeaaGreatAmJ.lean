/- AmJ: the abstract machine itself: variables, regions, statements, functions, calls. -/
import Derived.Test.YtdfimlepfaheeaaGreatAmI
import Derived.Scope
set_option linter.unusedVariables false
set_option linter.unusedSimpArgs false
namespace Go.AM

/-! ## Variables -/

structure Env where
  sz : Nat
  m : PM Value

def Env.get (e : Env) (t : Nat) : Value := match e.m.get t with | some v => v | none => undef
def Env.put (e : Env) (d : Option Tmp) (v : Value) : Env := match d with | none => e | some d => cond (Nat.blt d e.sz) { e with m := e.m.set d (some v) } e
def Env.ev (e : Env) : Operand → Value
  | .tmp t => e.get t
  | .const v => v
  | .func f => .func (.func f) #[] #[]
  | .global _ => undef

def Env.ofArgs : Nat → List Value → PM Value
  | _, [] => .leaf
  | i, v :: l => (Env.ofArgs (i + 1) l).set i (some v)

def Env.start (n : Nat) (args : List Value) : Env := ⟨max args.length n, Env.ofArgs 0 args⟩

def okX : Operand → Bool
  | .tmp _ => true
  | .const v => af v
  | .func _ => true
  | .global _ => false

def okOps (o : Oper) : Bool := o.op.operands.toList.all okX

/-! ## Regions -/

def wantedE (ops : Array Oper) (o : Oper) (e : Env) : Bool :=
  match o.guard with
  | none => true
  | some (j, want) =>
    match (ops[j]?).bind (·.dst) with
    | none => false
    | some t => match e.get t with | .bool b => b == want | _ => false

/-- A call's callee and arguments. -/
def callV (callF : FuncId → List Value → St → Option (Value × St)) (f : Value) (args : List Value) (S : St) : Option (Value × St) :=
  match f with
  | .func (.func g) first captured => callF g (first.toList ++ args ++ captured.toList) S
  | _ => none

def doOp (P : Program) (callF : FuncId → List Value → St → Option (Value × St)) (o : Oper) (e : Env) (S : St) : Option (Value × St) :=
  match o.op with
  | .call { callee := .value f, args, .. } => callV callF (e.ev f) (args.toList.map e.ev) S
  | _ => opS P e.ev o S

def stepOp (P : Program) (callF : FuncId → List Value → St → Option (Value × St)) (ops : Array Oper) (o : Oper) (e : Env) (S : St) : Option (Env × St) :=
  if wantedE ops o e then
    match doOp P callF o e S with
    | some (v, S') => some (e.put o.dst v, S')
    | none => none
  else some (e.put o.dst undef, S)

def runOps (P : Program) (callF : FuncId → List Value → St → Option (Value × St)) (ops : Array Oper) : List Oper → Env → St → Option (Env × St)
  | [], e, S => some (e, S)
  | o :: rest, e, S =>
    match stepOp P callF ops o e S with
    | some (e', S') => runOps P callF ops rest e' S'
    | none => none

/-! ## Regions whose order is open -/

def vbeq : Value → Value → Bool
  | .bool a, .bool b => a == b
  | .int j a, .int k b => j == k && a == b
  | .string a, .string b => a.data.toList == b.data.toList
  | .pointer a, .pointer b => a == b
  | .slice a l c, .slice b m d => a == b && l == m && c == d
  | .map a, .map b => a == b
  | .nilFunc, .nilFunc => true
  | .nilIface, .nilIface => true
  | _, _ => false

def vbeqL : List Value → List Value → Bool
  | [], [] => true
  | a :: l, b :: m => vbeq a b && vbeqL l m
  | _, _ => false

/-- Are values the same? (If they are aggregates, cell by cell.) -/
def vsame : Value → Value → Bool
  | .agg a, .agg b => vbeqL a.toList b.toList
  | .tuple a, .tuple b => vbeqL a.toList b.toList
  | a, b => vbeq a b

def recheck (P : Program) (ops : Array Oper) (e : Env) (S : St) (r : Nat) : Bool :=
  match ops[r]? with
  | none => false
  | some o =>
    if wantedE ops o e then
      match o.dst, opS P e.ev o S with
      | some d, some (v, _) => Nat.blt d e.sz && vsame v (e.get d)
      | _, _ => false
    else true

def runPlan (P : Program) (callF : FuncId → List Value → St → Option (Value × St)) (ops : Array Oper) : List (Nat × List Nat) → Env → St → Option (Env × St)
  | [], e, S => some (e, S)
  | (i, rs) :: rest, e, S =>
    match ops[i]? with
    | none => none
    | some o =>
      match stepOp P callF ops o e S with
      | none => none
      | some (e', S') => if rs.all (recheck P ops e' S') then runPlan P callF ops rest e' S' else none

def edges (o : Oper) : List Nat := o.after.toList.filterMap fun e => if Region.binds .any e then some e.on else none

/-- The operations that must come ahead of each. -/
def ancsOf : List Oper → List (List Nat) → List (List Nat)
  | [], acc => acc
  | o :: rest, acc => ancsOf rest (acc ++ [(edges o).foldl (fun s d => if s.contains d then s else (acc.getD d []).foldl (fun s x => if s.contains x then s else x :: s) (d :: s)) []])

def ancs (ops : Array Oper) : List (List Nat) := ancsOf ops.toList []

/-- Does an operation do more than to tell a value? -/
def isEff (P : Program) (o : Oper) : Bool :=
  match o.op with
  | .alloc _ | .box .. | .buildSlice .. | .store .. | .makeMap .. | .makeSlice .. | .mapUpdate .. => true
  | .convert a b _ => (match P.underlying b with | some (.slice _) => true | _ => false)
  | .call { callee := .builtin b, .. } => (match b with | .len | .cap | .min | .max => false | _ => true)
  | .call _ => true
  | _ => false

/-- Does what an operation tells hang on memory? -/
def isMem (P : Program) (o : Oper) : Bool :=
  match o.op with
  | .move _ | .assign _ | .pick .. | .build .. | .nilCheck _ | .makeFunc .. | .fieldAddr .. | .field .. | .indexAddr .. | .extract .. | .index .. | .unOp .. => false
  | .binOp op .. => (match op with | .eql | .neq => true | _ => false)
  | .convert a b _ => (match P.underlying a with | some (.int _) => false | _ => true)
  | .call { callee := .builtin b, argTypes, .. } => (match b, (argTypes.toList.head?).bind P.underlying with | .len, some (.slice _) | .len, some .string | .min, _ | .max, _ => false | _, _ => true)
  | _ => true

def namesOf (ops : Array Oper) (o : Oper) : List Nat :=
  o.op.operands.toList.filterMap (fun | .tmp t => some t | _ => none) ++ (match o.guard with | some (g, _) => ((ops[g]?).bind (·.dst)).toList | none => [])

/-- The order: the quiet ones as soon as they can be, each effect as late as it can be; behind each effect those that might have come behind it are looked at again. -/
def planOf (P : Program) (ops : Array Oper) : List (Nat × List Nat) :=
  let an := ancs ops
  let idx := List.range ops.size
  let isE := fun i => ((ops[i]?).map (isEff P)).getD false
  let isM := fun i => ((ops[i]?).map fun o => !isEff P o && isMem P o).getD false
  let effs := idx.filter isE
  let lvl := fun i => ((an.getD i []).filter isE).length
  let quiet := fun k => ((idx.filter fun i => !isE i && lvl i == k).map fun i => (i, ([] : List Nat)))
  (effs.zipIdx.flatMap fun (f, k) =>
    quiet k ++ [(f, idx.filter fun i => isM i && Nat.ble (lvl i) k && !(an.getD f []).contains i)]) ++ quiet effs.length

def before (l : List Nat) (i j : Nat) : Bool := (l.takeWhile (· != j)).contains i

/-- May the plan be followed? -/
def planOk (P : Program) (ops : Array Oper) (plan : List (Nat × List Nat)) : Bool :=
  let an := ancs ops
  let ord := plan.map (·.1)
  let idx := List.range ops.size
  let isA := fun i j => (an.getD j []).contains i
  ord.length == ops.size && (ord.all fun i => Nat.blt i ops.size) && decide ord.Nodup && (idx.all fun i => ord.contains i) &&
  (idx.all fun i => (an.getD i []).all fun j => ((ops[i]?).map fun o => (edges o).any fun d => d == j || (an.getD d []).contains j).getD false) &&
  (idx.all fun i => ((ops[i]?).map fun o => (edges o).all fun d => Nat.blt d i && before ord d i).getD false) &&
  (idx.all fun i => ((ops[i]?).map fun o => (namesOf ops o ++ o.dst.toList).all fun t => idx.all fun j => i == j || ((ops[j]?).bind (·.dst)) != some t || isA j i || isA i j).getD false) &&
  (idx.all fun i => idx.all fun j => i == j || !((ops[i]?).map (isEff P)).getD false || !((ops[j]?).map (isEff P)).getD false || isA j i || isA i j) &&
  (plan.all fun (f, rs) =>
    (idx.all fun r => !((ops[f]?).map (isEff P)).getD false || !((ops[r]?).map fun o => !isEff P o && isMem P o).getD false || isA f r || isA r f || (rs.contains r && before ord r f)) &&
    (rs.all fun r => ((ops[r]?).map fun o => (o.dst.isSome && !isEff P o && before ord r f) &&
      (namesOf ops o).all (fun t => idx.all fun j => ((ops[j]?).bind (·.dst)) != some t || isA j r) &&
      (idx.all fun j => r == j || ((ops[j]?).bind (·.dst)) != o.dst)).getD false))

/-! ## Statements -/

inductive Ex where
  | normal
  | exit (id : Nat)
  | ret

abbrev R := Option (Ex × Env × St)

def codeOk (P : Program) : Code → Bool
  | .region _ ops draw => ops.toList.all okOps && (!draw || planOk P ops (planOf P ops))
  | .seq a b => codeOk P a && codeOk P b
  | .cond c a b => okX c && codeOk P a && codeOk P b
  | .block _ c | .loop c | .scope c => codeOk P c
  | .skip | .label _ | .exit _ | .ret => true
  | _ => false

def exec (P : Program) (callF : FuncId → List Value → St → Option (Value × St)) (loopF : (Env → St → R) → Env → St → R) : Code → Env → St → R
  | .skip, e, S => some (.normal, e, S)
  | .label _, e, S => some (.normal, e, S)
  | .region _ ops false, e, S => (runOps P callF ops ops.toList e S).map fun (e, S) => (.normal, e, S)
  | .region _ ops true, e, S => (runPlan P callF ops (planOf P ops) e S).map fun (e, S) => (.normal, e, S)
  | .seq a b, e, S =>
    match exec P callF loopF a e S with
    | some (.normal, e', S') => exec P callF loopF b e' S'
    | r => r
  | .cond c a b, e, S =>
    match e.ev c with
    | .bool true => exec P callF loopF a e S
    | .bool false => exec P callF loopF b e S
    | _ => none
  | .block id c, e, S =>
    match exec P callF loopF c e S with
    | some (.exit id', e', S') => if id' = id then some (.normal, e', S') else some (.exit id', e', S')
    | r => r
  | .loop c, e, S => loopF (exec P callF loopF c) e S
  | .scope c, e, S => exec P callF loopF c e S
  | .exit id, e, S => some (.exit id, e, S)
  | .ret, e, S => some (.ret, e, S)
  | _, _, _ => none

/-! ## Functions -/

def resultsV (P : Program) (rs : List ResultVar) (e : Env) (S : St) : Option (List Value) :=
  match rs with
  | [] => some []
  | .tmp t :: rest => (resultsV P rest e S).map fun l => e.get t :: l
  | .cell a t :: rest => (loadV P t (e.get a) S).bind fun v => (resultsV P rest e S).map fun l => v :: l

def one : List Value → Value
  | [v] => v
  | l => .tuple l.toArray

def funcF (P : Program) (callF : FuncId → List Value → St → Option (Value × St)) (loopF : (Env → St → R) → Env → St → R) (fn : Func) (args : List Value) (S : St) : Option (Value × St) :=
  match fn.body with
  | none => none
  | some c =>
    match exec P callF loopF c (Env.start fn.ntmps args) S with
    | some (.normal, e, S') | some (.ret, e, S') => (resultsV P fn.results.toList e S').map fun l => (one l, S')
    | _ => none

def fnOk (P : Program) (fn : Func) : Bool := fn.name != "runtime.NumGoroutine" && (match fn.body with | some c => codeOk P c | none => false)

/-- So many rounds at most. -/
def iter : Nat → (Env → St → R) → Env → St → R
  | 0, _, _, _ => none
  | n + 1, f, e, S =>
    match f e S with
    | some (.normal, e', S') => iter n f e' S'
    | r => r

/-- Calls, so deep at most, with so many rounds at most; some functions are taken by what is known of them. -/
def callK (P : Program) (H : FuncId → Option (List Value → St → Option (Value × St))) (rounds : Nat) : Nat → FuncId → List Value → St → Option (Value × St)
  | 0, _, _, _ => none
  | n + 1, f, args, S =>
    match H f with
    | some h => h args S
    | none =>
      match P.funcs[f]? with
      | none => none
      | some fn => if fnOk P fn then funcF P (callK P H rounds n) (iter rounds) fn args S else none

end Go.AM
