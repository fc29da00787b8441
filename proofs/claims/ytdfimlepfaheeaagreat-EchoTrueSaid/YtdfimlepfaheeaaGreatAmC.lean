/- AmC: what the abstract machine's operations do. -/
import Derived.Test.YtdfimlepfaheeaaGreatAmB
import Derived.Deep.AppendSrc
set_option linter.unusedVariables false
set_option linter.unusedSimpArgs false
namespace Go.AM

/-! ## Operations that ask the program alone -/

def runPure {α : Type} (P : Program) : Sem α → Option α
  | .pure a => some a
  | .program k => runPure P (k P)
  | _ => none

theorem runPure_run {α : Type} {P : Program} {s : Sem α} {a : α} (h : runPure P s = some a) (w : World) : s.run P w = .ok a w := by
  induction s with
  | pure b => simp [runPure] at h; subst h; rfl
  | program k ih => exact ih P (by simpa [runPure] using h)
  | _ => simp [runPure] at h

def sizeO (P : Program) (t : TypeId) : Option Nat := (P.info? t).map (·.size)
def aggO (P : Program) (t : TypeId) : Option Bool :=
  match P.underlying t with
  | some (.struct _) | some (.array _ _) => some true
  | some _ => some false
  | none => none
def zeroO (P : Program) (t : TypeId) : Option Value := (P.info? t).bind (·.zero)

def ones : List Value → Bool
  | [] => true
  | v :: l => v.oneCell' && ones l

/-! ## Memory -/

def rowAt (S : St) (n off k : Nat) : Option (List Value) :=
  match S.get n with
  | some (.cells c _ _ _) => if off + k ≤ c.length then some ((c.drop off).take k) else none
  | some (.old c) => if off + k ≤ c.length ∧ ones ((c.drop off).take k) = true then some ((c.drop off).take k) else none
  | _ => none

def putRow (S : St) (n off : Nat) (vs : List Value) : Option St :=
  if n < S.base then none else
  match S.get n with
  | some (.cells c e g s) => if off + vs.length ≤ c.length ∧ ones vs = true then some (S.set n (some (.cells (putL c off vs) e g s))) else none
  | _ => none

def loadV (P : Program) (t : TypeId) (a : Value) (S : St) : Option Value :=
  match a with
  | .pointer (some ⟨n, off, none⟩) =>
    match aggO P t, sizeO P t with
    | some true, some k => (rowAt S n off k).map fun l => .agg l.toArray
    | some false, some _ => (rowAt S n off 1).bind fun l => l.head?
    | _, _ => none
  | _ => none

def storeV (P : Program) (t : TypeId) (a v : Value) (S : St) : Option St :=
  match a with
  | .pointer (some ⟨n, off, none⟩) => if sizeO P t = some v.cells.size then putRow S n off v.cells.toList else none
  | _ => none

/-- A new row of known capacity. -/
def newRowV (S : St) (t : TypeId) (vs : List Value) : Value × St := (.pointer (some ⟨S.cnt, 0, none⟩), S.push (.cells vs t 0 false))

def fillL (place : Nat → Option (Nat × Nat)) (cells : List Value) : List (Nat × Value) → Option (List Value)
  | [] => some cells
  | (i, v) :: rest =>
    match place i with
    | none => none
    | some (off, size) => if v.cells.size = size ∧ off + size ≤ cells.length then fillL place (putL cells off v.cells.toList) rest else none

def placesO (P : Program) (fields : Array Field) : Option (Array (Nat × Nat)) :=
  runPure P (fields.mapM fun f => do pure (f.offset, ← sizeOf f.type))

def buildV (P : Program) (t : TypeId) (ps : List (Nat × Value)) : Option Value :=
  match zeroO P t, P.underlying t with
  | some z, some (.struct fields) =>
    match placesO P fields with
    | some places => if afs z.cells.toList then (fillL (fun i => places[i]?) z.cells.toList ps).map fun l => .agg l.toArray else none
    | none => none
  | some z, some (.array _ elem) =>
    match sizeO P elem with
    | some size => if afs z.cells.toList then (fillL (fun i => some (i * size, size)) z.cells.toList ps).map fun l => .agg l.toArray else none
    | none => none
  | _, _ => none

def buildSliceV (P : Program) (t : TypeId) (len : Nat) (ps : List (Nat × Value)) (S : St) : Option (Value × St) :=
  match P.underlying t with
  | some (.slice elem) =>
    match sizeO P elem, zeroO P elem with
    | some size, some z =>
      if len * size ≤ 2 ^ 24 ∧ z.cells.size = size ∧ afs z.cells.toList = true ∧ len < capx then
        (fillL (fun i => some (i * size, size)) ((List.replicate len z.cells.toList).flatten) ps).map fun l =>
          (.slice (some ⟨S.cnt, 0, none⟩) len len, S.push (.cells l elem 0 false))
      else none
    | _, _ => none
  | _ => none

/-! ## Addresses -/

def fieldAtV (P : Program) (s : TypeId) (a : Value) (i : Nat) : Option Value :=
  match P.underlying s, a with
  | some (.struct fields), .pointer (some ⟨n, off, none⟩) =>
    match fields[i]? with
    | some f =>
      match sizeO P f.type with
      | some k => if k = 0 then none else some (.pointer (some ⟨n, off + f.offset, none⟩))
      | none => none
    | none => none
  | _, _ => none

def fieldV (P : Program) (s : TypeId) (x : Value) (i : Nat) : Option Value :=
  match P.underlying s, x with
  | some (.struct fields), .agg cs =>
    match fields[i]? with
    | some f =>
      match aggO P f.type, sizeO P f.type with
      | some true, some k => some (.agg (cs.extract f.offset (f.offset + k)))
      | some false, some _ => cs[f.offset]?
      | _, _ => none
    | none => none
  | _, _ => none

def indexAtV (P : Program) (t : TypeId) (x i : Value) : Option Value :=
  match P.underlying t, x, i with
  | some (.array len elem), .pointer (some ⟨n, off, none⟩), .int _ i =>
    match sizeO P elem with
    | some k => if 0 ≤ i ∧ i < len then some (.pointer (some ⟨n, off + i.toNat * k, none⟩)) else none
    | none => none
  | some (.slice elem), .slice (some ⟨n, off, none⟩) len _, .int _ i =>
    match sizeO P elem with
    | some k => if 0 ≤ i ∧ i < len then some (.pointer (some ⟨n, off + i.toNat * k, none⟩)) else none
    | none => none
  | _, _, _ => none

def indexV (P : Program) (t : TypeId) (x i : Value) : Option Value :=
  match P.underlying t, x, i with
  | some (.array len elem), .agg cs, .int _ i =>
    match aggO P elem, sizeO P elem with
    | some true, some k => if 0 ≤ i ∧ i < len then some (.agg (cs.extract (i.toNat * k) (i.toNat * k + k))) else none
    | some false, some k => if 0 ≤ i ∧ i < len then cs[i.toNat * k]? else none
    | _, _ => none
  | _, _, _ => none

/-- A slice expression's bound: missing, or a number. -/
def boundV : Option Value → Option (Option Nat)
  | none => some none
  | some (.int _ i) => if 0 ≤ i then some (some i.toNat) else none
  | _ => none

/-- What a slice expression comes to, of the three numbers. -/
def cutS (b off k l h m : Nat) : Value := if m = l then .slice (some ⟨b, off, none⟩) 0 0 else .slice (some ⟨b, off + l * k, none⟩) (h - l) (m - l)

def sliceV (P : Program) (t : TypeId) (x : Value) (lo hi mx : Option Value) (S : St) : Option Value :=
  match boundV lo, boundV hi, boundV mx with
  | some lo, some hi, some mx =>
    if mx.isSome ∧ hi.isNone then none else
    match P.underlying t, x with
    | some (.array n elem), .pointer (some ⟨b, off, none⟩) =>
      match sizeO P elem with
      | some k =>
        if lo.getD 0 ≤ hi.getD n ∧ hi.getD n ≤ mx.getD n ∧ mx.getD n ≤ n ∧ n < capx then some (cutS b off k (lo.getD 0) (hi.getD n) (mx.getD n)) else none
      | none => none
    | some (.slice elem), .slice none len cap =>
      match sizeO P elem with
      | some k => if lo.getD 0 ≤ hi.getD len ∧ hi.getD len ≤ mx.getD cap ∧ mx.getD cap ≤ cap then some (.slice none (hi.getD len - lo.getD 0) (mx.getD cap - lo.getD 0)) else none
      | none => none
    | some (.slice elem), .slice (some ⟨b, off, none⟩) len cap =>
      match sizeO P elem with
      | some k =>
        if cap = capx then
          match S.get b with
          | some (.cells _ _ gr _) =>
            if gr = k ∧ gr ≠ 0 then
              match mx with
              | none => if lo.getD 0 ≤ hi.getD len ∧ hi.getD len ≤ len then some (.slice (some ⟨b, off + lo.getD 0 * k, none⟩) (hi.getD len - lo.getD 0) capx) else none
              | some m => if lo.getD 0 ≤ hi.getD len ∧ hi.getD len ≤ m ∧ m ≤ len ∧ len < capx then some (cutS b off k (lo.getD 0) (hi.getD len) m) else none
            else none
          | _ => none
        else if lo.getD 0 ≤ hi.getD len ∧ hi.getD len ≤ mx.getD cap ∧ mx.getD cap ≤ cap ∧ len ≤ cap then some (cutS b off k (lo.getD 0) (hi.getD len) (mx.getD cap)) else none
      | none => none
    | _, _ => none
  | _, _, _ => none

/-! ## Comparing -/

/-- x == y, where one of the two may lead to memory. -/
def eqV (P : Program) (t : TypeId) (x y : Value) (S : St) : Option Bool :=
  match P.underlying t, x, y with
  | some (.pointer _), .pointer none, .pointer b => some b.isNone
  | some (.pointer _), .pointer (some _), .pointer none => some false
  | some (.pointer e), .pointer (some ⟨n, i, none⟩), .pointer (some ⟨m, j, none⟩) =>
    match sizeO P e with
    | some k =>
      if k = 0 then none
      else if n = m then some (i == j)
      else
        match S.get n, S.get m with
        | some (.cells _ _ _ false), some (.cells _ _ _ false) => some false
        | _, _ => none
    | none => none
  | some (.slice _), .slice none _ _, .slice b _ _ => some b.isNone
  | some (.slice _), .slice (some _) _ _, .slice none _ _ => some false
  | some (.map _ _), .map none, .map b => some b.isNone
  | some (.map _ _), .map (some _), .map none => some false
  | some (.func _ _ _), .nilFunc, .func _ _ _ => some false
  | some (.func _ _ _), .func _ _ _, .nilFunc => some false
  | some (.interface _), .nilIface, .iface _ _ => some false
  | some (.interface _), .iface _ _, .nilIface => some false
  | _, _, _ => none

/-! ## Built-in functions -/

/-- The elements that append and copy take: how many, and their cells. -/
def srcV (P : Program) (tx : TypeId) (size : Nat) (x : Value) (S : St) : Option (Nat × List Value) :=
  match P.underlying tx, x with
  | some .string, .string s => if size = 1 then some (s.size, byteCells s) else none
  | some (.slice _), .slice none 0 _ => some (0, [])
  | some (.slice _), .slice (some ⟨n, off, none⟩) len _ =>
    if len = 0 then some (0, []) else (rowAt S n off (len * size)).bind fun l => if ones l then some (len, l) else none
  | _, _ => none

def freshRow (S : St) (e : TypeId) (size bytes n : Nat) (vs : List Value) : Option (Value × St) :=
  if (2 * n + 256) * bytes ≤ 2 ^ 48 ∧ n < 2 ^ 60 ∧ size ≠ 0 then some (.slice (some ⟨S.cnt, 0, none⟩) n capx, S.push (.cells vs e size false)) else none

def appendV (P : Program) (t tx : TypeId) (s x : Value) (S : St) : Option (Value × St) :=
  match P.underlying t with
  | some (.slice e) =>
    match P.info? e with
    | some i =>
      match i.zero with
      | some z =>
        if z.cells.size = i.size ∧ afs z.cells.toList = true then
          match srcV P tx i.size x S with
          | some (n, news) =>
            match s with
            | .slice none 0 0 => if n = 0 then some (s, S) else freshRow S e i.size i.bytes n news
            | .slice (some ⟨b, off, none⟩) len cap =>
              if n = 0 then (if len ≤ cap then some (s, S) else none)
              else if cap = capx then
                match S.get b with
                | some (.cells c e' gr st) =>
                  if b < S.base then none
                  else if off + (len + n) * i.size ≤ c.length ∧ gr = i.size ∧ gr ≠ 0 then
                    (putRow S b (off + len * i.size) news).map fun S' => (.slice (some ⟨b, off, none⟩) (len + n) capx, S')
                  else if off = 0 ∧ len * i.size = c.length ∧ gr = i.size ∧ gr ≠ 0 ∧ e' = e ∧ ones news = true ∧ ones c = true ∧ (2 * (len + n) + 256) * i.bytes ≤ 2 ^ 48 ∧ len + n < 2 ^ 60 then
                    some (.slice (some ⟨S.cnt, 0, none⟩) (len + n) capx, (S.set b none).push (.cells (c ++ news) e gr st))
                  else none
                | _ => none
              else if len + n ≤ cap then
                (putRow S b (off + len * i.size) news).map fun S' => (.slice (some ⟨b, off, none⟩) (len + n) cap, S')
              else (rowAt S b off (len * i.size)).bind fun olds => freshRow S e i.size i.bytes (len + n) (olds ++ news)
            | _ => none
          | none => none
        else none
      | none => none
    | none => none
  | _ => none

def copyV (P : Program) (t tx : TypeId) (d x : Value) (S : St) : Option (Value × St) :=
  match P.underlying t with
  | some (.slice e) =>
    match sizeO P e with
    | some size =>
      match d, x with
      | .slice none dl _, .slice none sl _ => if Nat.min sl dl = 0 then some (goInt 0, S) else none
      | .slice none dl _, .slice (some ⟨_, _, none⟩) sl _ => if Nat.min sl dl = 0 then some (goInt 0, S) else none
      | .slice (some ⟨_, _, none⟩) dl _, .slice none sl _ => if Nat.min sl dl = 0 then some (goInt 0, S) else none
      | .slice (some ⟨b, o, none⟩) dl _, .slice (some ⟨m, off, none⟩) sl _ =>
        let n := Nat.min sl dl
        if n = 0 then some (goInt 0, S)
        else (rowAt S m off (n * size)).bind fun l => (putRow S b o l).map fun S' => (goInt n, S')
      | .slice (some ⟨b, o, none⟩) dl _, .string s =>
        let n := Nat.min s.size dl
        if size = 1 then (if n = 0 then some (goInt 0, S) else (putRow S b o ((byteCells s).take n)).map fun S' => (goInt n, S')) else none
      | _, _ => none
    | none => none
  | _ => none

def makeSliceV (P : Program) (t : TypeId) (l c : Value) (S : St) : Option (Value × St) :=
  match P.underlying t, l, c with
  | some (.slice e), .int .i64 l, .int .i64 c =>
    match P.info? e with
    | some i =>
      match i.zero with
      | some z =>
        if 0 ≤ l ∧ l ≤ c ∧ c < 2 ^ 47 ∧ (i.bytes : Int) * c ≤ 2 ^ 47 ∧ z.cells.size = i.size ∧ afs z.cells.toList = true then
          some (.slice (some ⟨S.cnt, 0, none⟩) l.toNat c.toNat, S.push (.cells ((List.replicate c.toNat z.cells.toList).flatten) e 0 false))
        else none
      | none => none
    | none => none
  | _, _, _ => none

/-- A text's bytes, in memory of their own. -/
def bytesV (P : Program) (e : TypeId) (s : ByteArray) (S : St) : Option (Value × St) :=
  if s.size < 2 ^ 47 then some (.slice (some ⟨S.cnt, 0, none⟩) s.size capx, S.push (.cells (byteCells s) e 1 true)) else none

def toBytes : List Value → Option (List UInt8)
  | [] => some []
  | .int .u8 n :: l => (toBytes l).map fun r => UInt8.ofNat n.toNat :: r
  | _ => none

def toRunes : List Value → Option (List Int)
  | [] => some []
  | .int .i32 n :: l => (toRunes l).map fun r => n :: r
  | _ => none

def convertV (P : Program) (src dst : TypeId) (x : Value) (S : St) : Option (Value × St) :=
  match P.underlying src, P.underlying dst, x with
  | some .string, some (.slice e), .string s =>
    match P.underlying e with
    | some (.int .u8) => bytesV P e s S
    | _ => none
  | some (.slice _), some (.slice e), .slice (some ⟨n, off, none⟩) len cap =>
    match P.underlying e, S.get n with
    | some (.int .u8), some (.cells c t gr false) =>
      if src = dst ∧ S.base ≤ n ∧ cap ≠ 0 ∧ cap ≠ capx then some (.slice (some ⟨n, off, none⟩) len cap, S.set n (some (.cells c t gr true))) else none
    | _, _ => none
  | some (.slice e), some .string, .slice none _ _ =>
    match P.underlying e with
    | some (.int .u8) | some (.int .i32) => some (.string .empty, S)
    | _ => none
  | some (.slice e), some .string, .slice (some ⟨n, off, none⟩) len _ =>
    match P.underlying e with
    | some (.int .u8) => (if len = 0 then some [] else (rowAt S n off len).bind toBytes).map fun l => (.string ⟨l.toArray⟩, S)
    | some (.int .i32) => (if len = 0 then some [] else (rowAt S n off len).bind toRunes).map fun l => (.string (l.foldl (fun s n => s ++ Utf8.encode n) ByteArray.empty), S)
    | _ => none
  | _, _, _ => none

/-! ## Maps -/

def lookupV (P : Program) (t : TypeId) (m k : Value) (ok : Bool) (S : St) : Option Value :=
  match P.underlying t with
  | some (.map kt e) =>
    match P.underlying kt, zeroO P e, af1 k with
    | some (.int ik), some z, true =>
      if afs z.cells.toList then
        let es? : Option (List MapEntry) := match m with
          | .map none => some []
          | .map (some r) => match S.get r with
            | some (.map es _) => some es
            | _ => none
          | _ => none
        match es? with
        | some es =>
          match Instr.findNow (.int ik) k es 0 with
          | some (some (_, v)) => some (if ok then .tuple #[v, .bool true] else v)
          | some none => some (if ok then .tuple #[z, .bool false] else z)
          | none => none
        | none => none
      else none
    | _, _, _ => none
  | _ => none

def mapUpdateV (P : Program) (t : TypeId) (m k v : Value) (S : St) : Option St :=
  match P.underlying t, m, k with
  | some (.map kt _), .map (some r), .int kk n =>
    match P.underlying kt, S.get r with
    | some (.int ik), some (.map es clock) =>
      if r < S.base then none else
      match Instr.findNow (.int ik) k es 0 with
      | some (some (i, _)) => some (S.set r (some (.map (es.modify i fun e => { e with key := k, val := v }) clock)))
      | some none => some (S.set r (some (.map (es ++ [{ key := k, val := v, born := clock }]) (clock + 1))))
      | none => none
    | _, _ => none
  | _, _, _ => none

def deleteV (P : Program) (t : TypeId) (m k : Value) (S : St) : Option St :=
  match P.underlying t, m, k with
  | some (.map kt _), .map (some r), .int kk n =>
    match P.underlying kt, S.get r with
    | some (.int ik), some (.map es clock) =>
      if r < S.base then none else
      match Instr.findNow (.int ik) k es 0 with
      | some (some (i, _)) => some (S.set r (some (.map (es.eraseIdx i) clock)))
      | some none => some (S.set r (some (.map es clock)))
      | none => none
    | _, _ => none
  | _, _, _ => none

/-! ## One operation -/

def fallback (P : Program) (ρ : Operand → Value) (o : Oper) (S : St) : Option (Value × St) :=
  if o.op.operands.toList.all fun x => af (ρ x) then
    match runPure P (execOp ρ o) with
    | some (.value v) => if af v then some (v, S) else none
    | _ => none
  else none

def builtinS (P : Program) (ρ : Operand → Value) (o : Oper) (b : Builtin) (ts : Array TypeId) (args : Array Operand) (S : St) : Option (Value × St) :=
  match b, ts.toList, args.toList with
  | .append, [t, tx], [s, x] => appendV P t tx (ρ s) (ρ x) S
  | .copy, [t, tx], [d, x] => copyV P t tx (ρ d) (ρ x) S
  | .len, [t], [x] =>
    match P.underlying t, ρ x with
    | some (.slice _), .slice _ n _ => some (goInt n, S)
    | some (.map _ _), .map (some r) =>
      match S.get r with
      | some (.map es _) => some (goInt es.length, S)
      | _ => none
    | _, _ => fallback P ρ o S
  | .cap, [t], [x] =>
    match P.underlying t, ρ x with
    | some (.slice _), .slice _ _ n => if n = capx then none else some (goInt n, S)
    | _, _ => none
  | .delete, [t, tk], [m, k] => (deleteV P t (ρ m) (ρ k) S).map fun S' => (.tuple #[], S')
  | _, _, _ => fallback P ρ o S

def opS (P : Program) (ρ : Operand → Value) (o : Oper) (S : St) : Option (Value × St) :=
  match o.op with
  | .move x | .assign x => some (ρ x, S)
  | .pick c a b => match ρ c with | .bool t => some (if t then ρ a else ρ b, S) | _ => none
  | .alloc t => match zeroO P t with
    | some z => if afs z.cells.toList then some (newRowV S t z.cells.toList) else none
    | none => none
  | .box t x => if ones (ρ x).cells.toList then some (newRowV S t (ρ x).cells.toList) else none
  | .build t ps => (buildV P t (ps.toList.map fun (i, x) => (i, ρ x))).map fun v => (v, S)
  | .buildSlice t n ps => buildSliceV P t n (ps.toList.map fun (i, x) => (i, ρ x)) S
  | .load t a => (loadV P t (ρ a) S).map fun v => (v, S)
  | .store t a x => (storeV P t (ρ a) (ρ x) S).map fun S' => (undef, S')
  | .nilCheck x => match ρ x with
    | .pointer (some a) => some (.pointer (some a), S)
    | .func (.func f) a b => some (.func (.func f) a b, S)
    | _ => none
  | .binOp op t x y _ =>
    if af (ρ x) && af (ρ y) then fallback P ρ o S
    else match op with
      | .eql => (eqV P t (ρ x) (ρ y) S).map fun b => (.bool b, S)
      | .neq => (eqV P t (ρ x) (ρ y) S).map fun b => (.bool !b, S)
      | _ => none
  | .makeFunc fn a b => some (.func fn (a.map ρ) (b.map ρ), S)
  | .makeMap t none => some (.map (some S.cnt), S.push (.map [] 0))
  | .makeSlice t l c => makeSliceV P t (ρ l) (ρ c) S
  | .slice t x lo hi mx =>
    match ρ x with
    | .string _ => fallback P ρ o S
    | v => (sliceV P t v (lo.map ρ) (hi.map ρ) (mx.map ρ) S).map fun v => (v, S)
  | .fieldAddr t x i => (fieldAtV P t (ρ x) i).map fun v => (v, S)
  | .field t x i => (fieldV P t (ρ x) i).map fun v => (v, S)
  | .indexAddr t x i => (indexAtV P t (ρ x) (ρ i)).map fun v => (v, S)
  | .index t x i =>
    match ρ x with
    | .string _ => fallback P ρ o S
    | v => (indexV P t v (ρ i)).map fun v => (v, S)
  | .lookup t m k ok => (lookupV P t (ρ m) (ρ k) ok S).map fun v => (v, S)
  | .mapUpdate t m k v => (mapUpdateV P t (ρ m) (ρ k) (ρ v) S).map fun S' => (undef, S')
  | .extract x i => match ρ x with
    | .tuple vs => vs[i]?.map fun v => (v, S)
    | _ => none
  | .convert a b x =>
    match convertV P a b (ρ x) S with
    | some r => some r
    | none => fallback P ρ o S
  | .unOp .. => fallback P ρ o S
  | .call { callee := .builtin b, args, argTypes } => builtinS P ρ o b argTypes args S
  | _ => none

end Go.AM
