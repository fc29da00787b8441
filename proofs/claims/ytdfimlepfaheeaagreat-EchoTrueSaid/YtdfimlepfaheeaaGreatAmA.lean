/- AmA: the abstract machine's store: maps by number, objects, states, and how a state stands to a world of the model. -/
import GoSem.Claims
import Derived.Below
import Derived.Calls
import Derived.Orders
import Derived.Laws.IdiomCopy
set_option linter.unusedVariables false
set_option linter.unusedSimpArgs false
namespace Go.AM
open Go.RowKit (Below)

/-! ## Maps by number -/

inductive PM (α : Type) where
  | leaf
  | node (l : PM α) (v : Option α) (r : PM α)

def PM.get {α : Type} : PM α → Nat → Option α
  | .leaf, _ => none
  | .node l v r, n => cond (Nat.beq n 0) v (cond (Nat.beq (n % 2) 1) (l.get (n / 2)) (r.get (n / 2 - 1)))

def PM.put {α : Type} : Nat → PM α → Nat → Option α → PM α
  | 0, t, _, _ => t
  | f + 1, .leaf, n, a => cond (Nat.beq n 0) (.node .leaf a .leaf) (cond (Nat.beq (n % 2) 1) (.node (PM.put f .leaf (n / 2) a) none .leaf) (.node .leaf none (PM.put f .leaf (n / 2 - 1) a)))
  | f + 1, .node l v r, n, a => cond (Nat.beq n 0) (.node l a r) (cond (Nat.beq (n % 2) 1) (.node (PM.put f l (n / 2) a) v r) (.node l v (PM.put f r (n / 2 - 1) a)))

def PM.set {α : Type} (t : PM α) (n : Nat) (a : Option α) : PM α := PM.put (n + 1) t n a

@[simp] theorem PM.get_leaf {α : Type} (n : Nat) : (PM.leaf : PM α).get n = none := rfl

theorem cond_beq {α : Type} (a b : Nat) (x y : α) : cond (Nat.beq a b) x y = if a = b then x else y := by
  by_cases h : a = b
  · subst h; simp
  · have : Nat.beq a b = false := by rw [← Bool.not_eq_true, Nat.beq_eq]; exact h
    simp [this, h]

theorem PM.get_put {α : Type} : ∀ (f : Nat) (t : PM α) (n m : Nat) (a : Option α), n < f → (PM.put f t n a).get m = if m = n then a else t.get m := by
  intro f
  induction f with
  | zero => intro t n m a h; omega
  | succ f ih =>
    intro t n m a h
    cases t with
    | leaf =>
      simp only [PM.put, cond_beq]
      by_cases h0 : n = 0
      · subst h0
        simp only [if_true, PM.get, cond_beq]
        by_cases hm : m = 0 <;> simp [hm]
      · rw [if_neg h0]
        by_cases h1 : n % 2 = 1
        · rw [if_pos h1]
          simp only [PM.get, cond_beq, ih _ _ _ _ (show n / 2 < f by omega)]
          by_cases hm : m = 0
          · subst hm; simp [Ne.symm h0]
          · rw [if_neg hm]
            by_cases hm1 : m % 2 = 1
            · rw [if_pos hm1]
              by_cases e : m = n
              · subst e; simp
              · rw [if_neg e, if_neg (by omega)]
            · rw [if_neg hm1, if_neg (by omega)]
        · rw [if_neg h1]
          simp only [PM.get, cond_beq, ih _ _ _ _ (show n / 2 - 1 < f by omega)]
          by_cases hm : m = 0
          · subst hm; simp [Ne.symm h0]
          · rw [if_neg hm]
            by_cases hm1 : m % 2 = 1
            · rw [if_pos hm1, if_neg (by omega)]
            · rw [if_neg hm1]
              by_cases e : m = n
              · subst e; simp
              · rw [if_neg e, if_neg (by omega)]
    | node l v r =>
      simp only [PM.put, cond_beq]
      by_cases h0 : n = 0
      · subst h0
        simp only [if_true, PM.get, cond_beq]
        by_cases hm : m = 0 <;> simp [hm]
      · rw [if_neg h0]
        by_cases h1 : n % 2 = 1
        · rw [if_pos h1]
          simp only [PM.get, cond_beq, ih _ _ _ _ (show n / 2 < f by omega)]
          by_cases hm : m = 0
          · subst hm; simp [Ne.symm h0]
          · rw [if_neg hm]
            by_cases hm1 : m % 2 = 1
            · rw [if_pos hm1]
              by_cases e : m = n
              · subst e; simp
              · rw [if_neg e, if_neg (by omega), if_neg hm, if_pos hm1]
            · rw [if_neg hm1, if_neg (by omega), if_neg hm, if_neg hm1]
        · rw [if_neg h1]
          simp only [PM.get, cond_beq, ih _ _ _ _ (show n / 2 - 1 < f by omega)]
          by_cases hm : m = 0
          · subst hm; simp [Ne.symm h0]
          · rw [if_neg hm]
            by_cases hm1 : m % 2 = 1
            · rw [if_pos hm1, if_neg (by omega), if_neg hm, if_pos hm1]
            · rw [if_neg hm1]
              by_cases e : m = n
              · subst e; simp
              · rw [if_neg e, if_neg (by omega), if_neg hm, if_neg hm1]

@[simp] theorem PM.get_set {α : Type} (t : PM α) (n m : Nat) (a : Option α) : (t.set n a).get m = if m = n then a else t.get m :=
  PM.get_put _ _ _ _ _ (by omega)

/-! ## Objects, states -/

/-- An object: a row of cells (of an element type; 0, or, where its capacity is unknown, how many cells an element has; may a text share it?), a map, a walk over a text, a row of old cells (a cell that is an empty aggregate is not known). -/
inductive AObj where
  | cells (c : List Value) (elem : TypeId) (gr : Nat) (str : Bool)
  | map (es : List MapEntry) (clock : Nat)
  | iter (s : ByteArray) (pos : Nat)
  | old (c : List Value)

structure St where
  base : Nat
  old : Nat → Option AObj
  new : PM AObj
  cnt : Nat

def St.get (S : St) (n : Nat) : Option AObj := cond (Nat.blt n S.base) (S.old n) (S.new.get (n - S.base))
def St.set (S : St) (n : Nat) (o : Option AObj) : St := { S with new := S.new.set (n - S.base) o }
/-- A new object, of the next name. -/
def St.push (S : St) (o : AObj) : St := { S with new := S.new.set (S.cnt - S.base) (some o), cnt := S.cnt + 1 }

theorem St.get_eq (S : St) (n : Nat) : S.get n = if n < S.base then S.old n else S.new.get (n - S.base) := by
  unfold St.get
  by_cases h : n < S.base
  · have : Nat.blt n S.base = true := by simpa [Nat.blt_eq] using h
    simp [this, h]
  · have : Nat.blt n S.base = false := by rw [← Bool.not_eq_true, Nat.blt_eq]; exact h
    simp [this, h]

theorem St.get_set (S : St) (n m : Nat) (o : Option AObj) (h : S.base ≤ n) : (S.set n o).get m = if m = n then o else S.get m := by
  simp only [St.get_eq, St.set, PM.get_set]
  by_cases hm : m < S.base
  · rw [if_pos hm, if_neg (by omega), if_pos hm]
  · rw [if_neg hm, if_neg hm]
    by_cases e : m = n
    · subst e; simp
    · rw [if_neg (by omega), if_neg e]

theorem St.get_push (S : St) (m : Nat) (o : AObj) (h : S.base ≤ S.cnt) : (S.push o).get m = if m = S.cnt then some o else S.get m := by
  simp only [St.get_eq, St.push, PM.get_set]
  by_cases hm : m < S.base
  · rw [if_pos hm, if_neg (by omega), if_pos hm]
  · rw [if_neg hm, if_neg hm]
    by_cases e : m = S.cnt
    · subst e; simp
    · rw [if_neg (by omega), if_neg e]

@[simp] theorem St.set_base (S : St) (n : Nat) (o : Option AObj) : (S.set n o).base = S.base := rfl
@[simp] theorem St.set_cnt (S : St) (n : Nat) (o : Option AObj) : (S.set n o).cnt = S.cnt := rfl
@[simp] theorem St.push_base (S : St) (o : AObj) : (S.push o).base = S.base := rfl
@[simp] theorem St.push_cnt (S : St) (o : AObj) : (S.push o).cnt = S.cnt + 1 := rfl

/-! ## How values stand to each other -/

/-- The unknown capacity. -/
def capx : Nat := 18446744073709551616

/-- Names of blocks: how many, which block each is, its capacity and its elements' cells where it grows. -/
structure Mu where
  n : Nat
  blk : Nat → Nat
  cap : Nat → Nat
  esz : Nat → Nat

structure Mu.le (μ ν : Mu) : Prop where
  n : μ.n ≤ ν.n
  blk : ∀ i, i < μ.n → ν.blk i = μ.blk i
  cap : ∀ i, i < μ.n → ν.cap i = μ.cap i
  esz : ∀ i, i < μ.n → ν.esz i = μ.esz i

theorem Mu.le_refl (μ : Mu) : μ.le μ := ⟨Nat.le_refl _, fun _ _ => rfl, fun _ _ => rfl, fun _ _ => rfl⟩
theorem Mu.le.le_trans {a b c : Mu} (h : a.le b) (k : b.le c) : a.le c :=
  ⟨Nat.le_trans h.n k.n, fun i hi => (k.blk i (Nat.lt_of_lt_of_le hi h.n)).trans (h.blk i hi), fun i hi => (k.cap i (Nat.lt_of_lt_of_le hi h.n)).trans (h.cap i hi),
    fun i hi => (k.esz i (Nat.lt_of_lt_of_le hi h.n)).trans (h.esz i hi)⟩

inductive VR (μ : Mu) : Value → Value → Prop
  | bool (b : Bool) : VR μ (.bool b) (.bool b)
  | int (k : IntKind) (n : Int) : VR μ (.int k n) (.int k n)
  | float (k : FloatKind) (n : Nat) : VR μ (.float k n) (.float k n)
  | complex (k : FloatKind) (n m : Nat) : VR μ (.complex k n m) (.complex k n m)
  | string (s : ByteArray) : VR μ (.string s) (.string s)
  | ptr0 : VR μ (.pointer none) (.pointer none)
  | ptr (n off : Nat) (h : n < μ.n) : VR μ (.pointer (some ⟨n, off, none⟩)) (.pointer (some ⟨μ.blk n, off, none⟩))
  | sl0 (l c : Nat) : VR μ (.slice none l c) (.slice none l c)
  | sl (n off l c : Nat) (h : n < μ.n) (hc : c < capx) : VR μ (.slice (some ⟨n, off, none⟩) l c) (.slice (some ⟨μ.blk n, off, none⟩) l c)
  | sl00 (n off m ofg : Nat) (h : n < μ.n) : VR μ (.slice (some ⟨n, off, none⟩) 0 0) (.slice (some ⟨m, ofg, none⟩) 0 0)
  | slx (n off l c d : Nat) (h : n < μ.n) (hd : off = d * μ.esz n) (hc : c + d = μ.cap n) (hl : l ≤ c) :
      VR μ (.slice (some ⟨n, off, none⟩) l capx) (.slice (some ⟨μ.blk n, off, none⟩) l c)
  | sle (n off m ofg : Nat) (h : n < μ.n) (ho : off = μ.cap n * μ.esz n) : VR μ (.slice (some ⟨n, off, none⟩) 0 capx) (.slice (some ⟨m, ofg, none⟩) 0 0)
  | map0 : VR μ (.map none) (.map none)
  | map (n : Nat) (h : n < μ.n) : VR μ (.map (some n)) (.map (some (μ.blk n)))
  | func (fn : Fn) (a a' b b' : Array Value) (ha : a.size = a'.size) (hb : b.size = b'.size)
      (ea : ∀ i, i < a.size → VR μ (a.getD i undef) (a'.getD i undef)) (eb : ∀ i, i < b.size → VR μ (b.getD i undef) (b'.getD i undef)) : VR μ (.func fn a b) (.func fn a' b')
  | nilFunc : VR μ .nilFunc .nilFunc
  | iface (t : TypeId) (v v' : Value) (h : VR μ v v') : VR μ (.iface t v) (.iface t v')
  | nilIface : VR μ .nilIface .nilIface
  | agg (a a' : Array Value) (ha : a.size = a'.size) (ea : ∀ i, i < a.size → VR μ (a.getD i undef) (a'.getD i undef)) : VR μ (.agg a) (.agg a')
  | tuple (a a' : Array Value) (ha : a.size = a'.size) (ea : ∀ i, i < a.size → VR μ (a.getD i undef) (a'.getD i undef)) : VR μ (.tuple a) (.tuple a')

theorem VR.mono {μ ν : Mu} (hm : μ.le ν) {v v' : Value} (h : VR μ v v') : VR ν v v' := by
  induction h with
  | bool b => exact .bool b
  | int k n => exact .int k n
  | float k n => exact .float k n
  | complex k n m => exact .complex k n m
  | string s => exact .string s
  | ptr0 => exact .ptr0
  | ptr n off h => rw [← hm.blk n h]; exact .ptr n off (Nat.lt_of_lt_of_le h hm.n)
  | sl0 l c => exact .sl0 l c
  | sl n off l c h hc => rw [← hm.blk n h]; exact .sl n off l c (Nat.lt_of_lt_of_le h hm.n) hc
  | slx n off l c d h hd hc hl => rw [← hm.blk n h]; exact .slx n off l c d (Nat.lt_of_lt_of_le h hm.n) (by rw [hm.esz n h]; exact hd) (by rw [hm.cap n h]; exact hc) hl
  | sl00 n off m ofg h => exact .sl00 n off m ofg (Nat.lt_of_lt_of_le h hm.n)
  | sle n off m ofg h ho => exact .sle n off m ofg (Nat.lt_of_lt_of_le h hm.n) (by rw [hm.cap n h, hm.esz n h]; exact ho)
  | map0 => exact .map0
  | map n h => rw [← hm.blk n h]; exact .map n (Nat.lt_of_lt_of_le h hm.n)
  | func fn a a' b b' ha hb _ _ ea eb => exact .func fn a a' b b' ha hb ea eb
  | nilFunc => exact .nilFunc
  | iface t v v' _ ih => exact .iface t v v' ih
  | nilIface => exact .nilIface
  | agg a a' ha _ ea => exact .agg a a' ha ea
  | tuple a a' ha _ ea => exact .tuple a a' ha ea

theorem VR.undef (μ : Mu) : VR μ undef undef := .tuple _ _ rfl (fun i hi => by simp at hi)

/-- Lists of values, one by one. -/
def LR (μ : Mu) (a b : List Value) : Prop := a.length = b.length ∧ ∀ i, i < a.length → VR μ (a.getD i Go.undef) (b.getD i Go.undef)

theorem LR.mono {μ ν : Mu} (hm : μ.le ν) {a b : List Value} (h : LR μ a b) : LR ν a b := ⟨h.1, fun i hi => (h.2 i hi).mono hm⟩
theorem LR.nil (μ : Mu) : LR μ [] [] := ⟨rfl, fun i hi => by simp at hi⟩
theorem LR.cons {μ : Mu} {x y : Value} {a b : List Value} (h : VR μ x y) (k : LR μ a b) : LR μ (x :: a) (y :: b) :=
  ⟨by simp [k.1], fun i hi => by
    cases i with
    | zero => simpa using h
    | succ i => simpa using k.2 i (by simpa using hi)⟩
theorem LR.head {μ : Mu} {x y : Value} {a b : List Value} (h : LR μ (x :: a) (y :: b)) : VR μ x y := by simpa using h.2 0 (by simp)
theorem LR.tail {μ : Mu} {x y : Value} {a b : List Value} (h : LR μ (x :: a) (y :: b)) : LR μ a b :=
  ⟨by simpa using h.1, fun i hi => by simpa using h.2 (i + 1) (by simpa using hi)⟩
theorem LR.cases_nil {μ : Mu} {b : List Value} (h : LR μ [] b) : b = [] := by
  have := h.1; simp at this; exact List.eq_nil_of_length_eq_zero this.symm
theorem LR.cases_cons {μ : Mu} {x : Value} {a b : List Value} (h : LR μ (x :: a) b) : ∃ y b', b = y :: b' ∧ VR μ x y ∧ LR μ a b' := by
  cases b with
  | nil => have := h.1; simp at this
  | cons y b' => exact ⟨y, b', rfl, h.head, h.tail⟩
theorem LR.append {μ : Mu} : ∀ {a b c d : List Value}, LR μ a b → LR μ c d → LR μ (a ++ c) (b ++ d)
  | [], b, c, d, h, k => by obtain rfl := h.cases_nil; simpa using k
  | x :: a, b, c, d, h, k => by
    obtain ⟨y, b', rfl, hx, ht⟩ := h.cases_cons
    exact LR.cons hx (LR.append ht k)
theorem LR.take {μ : Mu} : ∀ (n : Nat) {a b : List Value}, LR μ a b → LR μ (a.take n) (b.take n)
  | 0, a, b, h => by simpa using LR.nil μ
  | n + 1, [], b, h => by obtain rfl := h.cases_nil; simpa using LR.nil μ
  | n + 1, x :: a, b, h => by
    obtain ⟨y, b', rfl, hx, ht⟩ := h.cases_cons
    exact LR.cons hx (LR.take n ht)
theorem LR.drop {μ : Mu} : ∀ (n : Nat) {a b : List Value}, LR μ a b → LR μ (a.drop n) (b.drop n)
  | 0, a, b, h => by simpa using h
  | n + 1, [], b, h => by obtain rfl := h.cases_nil; simpa using LR.nil μ
  | n + 1, x :: a, b, h => by
    obtain ⟨y, b', rfl, hx, ht⟩ := h.cases_cons
    simpa using LR.drop n ht
theorem LR.get {μ : Mu} {a b : List Value} (h : LR μ a b) {i : Nat} {v : Value} (hi : a[i]? = some v) : ∃ v', b[i]? = some v' ∧ VR μ v v' := by
  have hlt : i < a.length := by
    rcases Nat.lt_or_ge i a.length with h | h
    · exact h
    · rw [List.getElem?_eq_none h] at hi; cases hi
  have hlt' : i < b.length := h.1 ▸ hlt
  have := h.2 i hlt
  have e : v = a[i] := by rw [List.getElem?_eq_getElem hlt] at hi; injection hi with hi; exact hi.symm
  refine ⟨b[i], by simp [hlt'], ?_⟩
  simpa [List.getD, hlt, hlt', e] using this
theorem LR.of_get {μ : Mu} {a b : List Value} (hl : a.length = b.length) (h : ∀ (i : Nat) (v v' : Value), a[i]? = some v → b[i]? = some v' → VR μ v v') : LR μ a b :=
  ⟨hl, fun i hi => by
    have hi' : i < b.length := hl ▸ hi
    have := h i a[i] b[i] (by simp [hi]) (by simp [hi'])
    simpa [List.getD, hi, hi'] using this⟩
theorem LR.map {μ : Mu} {α : Type} (f g : α → Value) (h : ∀ x, VR μ (f x) (g x)) : ∀ (l : List α), LR μ (l.map f) (l.map g)
  | [] => LR.nil μ
  | x :: l => LR.cons (h x) (LR.map f g h l)
theorem LR.map_mem {μ : Mu} {α : Type} (f g : α → Value) : ∀ (l : List α), (∀ x ∈ l, VR μ (f x) (g x)) → LR μ (l.map f) (l.map g)
  | [], _ => LR.nil μ
  | x :: l, h => LR.cons (h x (by simp)) (LR.map_mem f g l (fun y hy => h y (by simp [hy])))

/-- What the two lists of an aggregate's cells are. -/
theorem LR.of_array {μ : Mu} {a a' : Array Value} (ha : a.size = a'.size) (ea : ∀ i, i < a.size → VR μ (a.getD i undef) (a'.getD i undef)) : LR μ a.toList a'.toList :=
  ⟨by simpa using ha, fun i hi => by simpa [List.getD, Array.getD_eq_getD_getElem?] using ea i (by simpa using hi)⟩
theorem LR.to_agg {μ : Mu} {a a' : Array Value} (h : LR μ a.toList a'.toList) : VR μ (.agg a) (.agg a') :=
  .agg a a' (by simpa using h.1) (fun i hi => by simpa [List.getD, Array.getD_eq_getD_getElem?] using h.2 i (by simpa using hi))
theorem LR.to_tuple {μ : Mu} {a a' : Array Value} (h : LR μ a.toList a'.toList) : VR μ (.tuple a) (.tuple a') :=
  .tuple a a' (by simpa using h.1) (fun i hi => by simpa [List.getD, Array.getD_eq_getD_getElem?] using h.2 i (by simpa using hi))

theorem VR.agg_inv {μ : Mu} {a : Array Value} {v' : Value} (h : VR μ (.agg a) v') : ∃ a', v' = .agg a' ∧ LR μ a.toList a'.toList := by
  cases h with
  | agg a a' ha ea => exact ⟨a', rfl, LR.of_array ha ea⟩
theorem VR.tuple_inv {μ : Mu} {a : Array Value} {v' : Value} (h : VR μ (.tuple a) v') : ∃ a', v' = .tuple a' ∧ LR μ a.toList a'.toList := by
  cases h with
  | tuple a a' ha ea => exact ⟨a', rfl, LR.of_array ha ea⟩

/-- The cells of a value. -/
theorem VR.cells {μ : Mu} {v v' : Value} (h : VR μ v v') : LR μ v.cells.toList v'.cells.toList := by
  cases h with
  | agg a a' ha ea => exact LR.of_array ha ea
  | bool b => exact LR.cons (.bool b) (LR.nil μ)
  | int k n => exact LR.cons (.int k n) (LR.nil μ)
  | float k n => exact LR.cons (.float k n) (LR.nil μ)
  | complex k n m => exact LR.cons (.complex k n m) (LR.nil μ)
  | string s => exact LR.cons (.string s) (LR.nil μ)
  | ptr0 => exact LR.cons .ptr0 (LR.nil μ)
  | ptr n off h => exact LR.cons (.ptr n off h) (LR.nil μ)
  | sl0 l c => exact LR.cons (.sl0 l c) (LR.nil μ)
  | sl n off l c h hc => exact LR.cons (.sl n off l c h hc) (LR.nil μ)
  | slx n off l c d h hd hc hl => exact LR.cons (.slx n off l c d h hd hc hl) (LR.nil μ)
  | sl00 n off m ofg h => exact LR.cons (.sl00 n off m ofg h) (LR.nil μ)
  | sle n off m ofg h ho => exact LR.cons (.sle n off m ofg h ho) (LR.nil μ)
  | map0 => exact LR.cons .map0 (LR.nil μ)
  | map n h => exact LR.cons (.map n h) (LR.nil μ)
  | func fn a a' b b' ha hb ea eb => exact LR.cons (.func fn a a' b b' ha hb ea eb) (LR.nil μ)
  | nilFunc => exact LR.cons .nilFunc (LR.nil μ)
  | iface t v v' h => exact LR.cons (.iface t v v' h) (LR.nil μ)
  | nilIface => exact LR.cons .nilIface (LR.nil μ)
  | tuple a a' ha ea => exact LR.cons (.tuple a a' ha ea) (LR.nil μ)

/-- A value of one cell that leads to no memory. -/
def af1 : Value → Bool
  | .bool _ | .int .. | .float .. | .complex .. | .string _ | .pointer none | .slice none .. | .map none | .nilFunc | .nilIface => true
  | _ => false
def afs : List Value → Bool
  | [] => true
  | v :: l => af1 v && afs l
/-- A value that leads to no memory. -/
def af : Value → Bool
  | .agg a => afs a.toList
  | v => af1 v

theorem af1_eq {μ : Mu} {v v' : Value} (h : VR μ v v') (ha : af1 v = true) : v' = v := by
  cases h <;> simp [af1] at ha <;> rfl
theorem afs_eq {μ : Mu} : ∀ {a b : List Value}, LR μ a b → afs a = true → b = a
  | [], b, h, _ => h.cases_nil
  | x :: a, b, h, ha => by
    obtain ⟨y, b', rfl, hx, ht⟩ := h.cases_cons
    simp [afs] at ha
    rw [af1_eq hx ha.1, afs_eq ht ha.2]
theorem af_eq {μ : Mu} {v v' : Value} (h : VR μ v v') (ha : af v = true) : v' = v := by
  by_cases hg : ∃ a, v = .agg a
  · obtain ⟨a, rfl⟩ := hg
    obtain ⟨a', rfl, hl⟩ := h.agg_inv
    have := afs_eq hl ha
    congr 1
    exact Array.ext' this
  · refine af1_eq h ?_
    cases v <;> first | exact ha | exact absurd ⟨_, rfl⟩ hg
theorem af1_refl (μ : Mu) {v : Value} (ha : af1 v = true) : VR μ v v := by
  cases v with
  | bool b => exact .bool b
  | int k n => exact .int k n
  | float k n => exact .float k n
  | complex k n m => exact .complex k n m
  | string s => exact .string s
  | pointer a => cases a with
    | none => exact .ptr0
    | some a => simp [af1] at ha
  | slice a l c => cases a with
    | none => exact .sl0 l c
    | some a => simp [af1] at ha
  | map r => cases r with
    | none => exact .map0
    | some a => simp [af1] at ha
  | nilFunc => exact .nilFunc
  | nilIface => exact .nilIface
  | _ => simp [af1] at ha
theorem afs_refl (μ : Mu) : ∀ {a : List Value}, afs a = true → LR μ a a
  | [], _ => LR.nil μ
  | x :: a, h => by
    simp [afs] at h
    exact LR.cons (af1_refl μ h.1) (afs_refl μ h.2)
theorem af_refl (μ : Mu) {v : Value} (ha : af v = true) : VR μ v v := by
  cases v with
  | agg a => exact LR.to_agg (afs_refl μ ha)
  | _ => exact af1_refl μ (by simpa [af] using ha)

/-- One cell's value: neither an aggregate nor a tuple. -/
theorem VR.oneCell {μ : Mu} {v v' : Value} (h : VR μ v v') (h1 : v.oneCell' = true) : v'.oneCell' = true := by
  cases h <;> first | rfl | simp [Value.oneCell'] at h1

end Go.AM
