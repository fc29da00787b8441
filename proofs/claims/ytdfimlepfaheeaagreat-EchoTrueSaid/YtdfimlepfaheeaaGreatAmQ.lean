/- AmQ: blocks of single cells, and memory by rewriting. -/
import Derived.Test.YtdfimlepfaheeaaGreatAmW
set_option linter.unusedVariables false
set_option linter.unusedSimpArgs false
namespace Go.AM

def againQ (o : Option (Value × St)) (w : Value) : Bool := match o with | some (v, _) => vsame v w | none => false
def wantQ (v : Value) (w : Bool) : Bool := match v with | .bool b => b == w | _ => false
theorem PM.put_put {α : Type} : ∀ (f : Nat) (t : PM α) (n : Nat) (a b : Option α), n < f → PM.put f (PM.put f t n a) n b = PM.put f t n b := by
  intro f
  induction f with
  | zero => intro t n a b h; omega
  | succ f ih =>
    intro t n a b h
    cases t with
    | leaf =>
      by_cases h0 : n = 0
      · subst h0; simp [PM.put, cond_beq]
      · by_cases h1 : n % 2 = 1
        · simp only [PM.put, cond_beq, if_neg h0, if_pos h1]; rw [ih _ _ _ _ (by omega)]
        · simp only [PM.put, cond_beq, if_neg h0, if_neg h1]; rw [ih _ _ _ _ (by omega)]
    | node l v r =>
      by_cases h0 : n = 0
      · subst h0; simp [PM.put, cond_beq]
      · by_cases h1 : n % 2 = 1
        · simp only [PM.put, cond_beq, if_neg h0, if_pos h1]; rw [ih _ _ _ _ (by omega)]
        · simp only [PM.put, cond_beq, if_neg h0, if_neg h1]; rw [ih _ _ _ _ (by omega)]

@[simp] theorem St.set_set (S : St) (n : Nat) (a b : Option AObj) : (S.set n a).set n b = S.set n b := by
  simp only [St.set, PM.set]
  rw [PM.put_put _ _ _ _ _ (Nat.lt_succ_self _)]
@[simp] theorem St.push_set (S : St) (a b : AObj) : (S.push a).set S.cnt (some b) = S.push b := by
  simp only [St.set, St.push, PM.set]
  rw [PM.put_put _ _ _ _ _ (Nat.lt_succ_self _)]

/-! ## Rows of an object -/

def rowO (o : Option AObj) (off k : Nat) : Option (List Value) :=
  match o with
  | some (.cells c _ _ _) => if off + k ≤ c.length then some ((c.drop off).take k) else none
  | some (.old c) => if off + k ≤ c.length ∧ ones ((c.drop off).take k) = true then some ((c.drop off).take k) else none
  | _ => none
theorem rowAt_O (S : St) (n off k : Nat) : rowAt S n off k = rowO (S.get n) off k := by
  unfold rowAt rowO; rfl

/-- A block of n single cells. -/
def recO (n ty : Nat) (c : Nat → Value) : AObj := .cells (flat n fun i => [c i]) ty 0 false

theorem flat_len1 (n : Nat) (c : Nat → Value) : (flat n fun i => [c i]).length = n := by
  have := flat_length (n := n) (k := 1) (f := fun i => [c i]) (fun _ _ => rfl); omega
theorem flat_get1 (n : Nat) (c : Nat → Value) (i : Nat) : (flat n fun i => [c i])[i]? = if i < n then some (c i) else none := by
  induction n with
  | zero => simp [flat]
  | succ n ih =>
    simp only [flat, List.getElem?_append, flat_len1, ih]
    by_cases h : i < n
    · rw [if_pos h, if_pos h, if_pos (by omega)]
    · rw [if_neg h]
      by_cases h2 : i = n
      · subst h2; simp
      · rw [if_neg (by omega)]
        have : i - n ≠ 0 := by omega
        simp [this]

theorem rowO_rec {n ty off k : Nat} (c : Nat → Value) (h : off + k ≤ n) : rowO (some (recO n ty c)) off k = some (flat k fun j => [c (off + j)]) := by
  simp only [rowO, recO]
  rw [if_pos (by rw [flat_len1]; exact h)]
  have := flat_rows (n := n) (k := 1) (a := off) (m := k) (f := fun i => [c i]) (fun _ _ => rfl) h
  simpa using this

@[simp] theorem flat_0 (f : Nat → List Value) : flat 0 f = [] := Eq.trans rfl rfl
@[simp] theorem flat_1 (f : Nat → List Value) : flat 1 f = f 0 := by simp [flat]
@[simp] theorem flat_2 (f : Nat → List Value) : flat 2 f = f 0 ++ f 1 := by simp [flat]
@[simp] theorem flat_3 (f : Nat → List Value) : flat 3 f = f 0 ++ (f 1 ++ f 2) := by simp [flat]
@[simp] theorem flat_4 (f : Nat → List Value) : flat 4 f = f 0 ++ (f 1 ++ (f 2 ++ f 3)) := by simp [flat]
@[simp] theorem flat_5 (f : Nat → List Value) : flat 5 f = f 0 ++ (f 1 ++ (f 2 ++ (f 3 ++ f 4))) := by simp [flat]
@[simp] theorem flat_6 (f : Nat → List Value) : flat 6 f = f 0 ++ (f 1 ++ (f 2 ++ (f 3 ++ (f 4 ++ f 5)))) := by simp [flat]
@[simp] theorem flat_7 (f : Nat → List Value) : flat 7 f = f 0 ++ (f 1 ++ (f 2 ++ (f 3 ++ (f 4 ++ (f 5 ++ f 6))))) := by simp [flat]
@[simp] theorem flat_10 (f : Nat → List Value) : flat 10 f = f 0 ++ (f 1 ++ (f 2 ++ (f 3 ++ (f 4 ++ (f 5 ++ (f 6 ++ (f 7 ++ (f 8 ++ f 9)))))))) := by simp [flat]

/-! ## Stores -/

def updN (c : Nat → Value) (off : Nat) : List Value → Nat → Value
  | [] => c
  | v :: vs => updN (upd c off v) (off + 1) vs
@[simp] theorem updN_nil (c : Nat → Value) (off : Nat) : updN c off [] = c := Eq.trans rfl rfl
@[simp] theorem updN_cons (c : Nat → Value) (off : Nat) (v : Value) (vs : List Value) : updN c off (v :: vs) = updN (upd c off v) (off + 1) vs := Eq.trans rfl rfl
theorem updN_get (c : Nat → Value) (off : Nat) (vs : List Value) (i : Nat) (h : i < off + vs.length) : some (updN c off vs i) = if off ≤ i then vs[i - off]? else some (c i) := by
  induction vs generalizing c off with
  | nil => rw [if_neg (by simp at h; omega)]; rfl
  | cons v vs ih =>
    rw [updN_cons, ih _ _ (by simp at h; omega)]
    by_cases h1 : off + 1 ≤ i
    · rw [if_pos h1, if_pos (by omega)]
      obtain ⟨d, hd⟩ : ∃ d, i - off = d + 1 := ⟨i - off - 1, by omega⟩
      rw [hd, List.getElem?_cons_succ]; congr 1; omega
    · rw [if_neg h1]
      by_cases h2 : i = off
      · subst h2; simp
      · rw [if_neg (by omega)]; simp [h2]
theorem updN_out (c : Nat → Value) (off : Nat) (vs : List Value) (i : Nat) (h : off + vs.length ≤ i) : updN c off vs i = c i := by
  induction vs generalizing c off with
  | nil => rfl
  | cons v vs ih =>
    simp at h
    rw [updN_cons, ih _ _ (by omega)]
    simp; omega
theorem putL_rec {n off : Nat} {c : Nat → Value} {vs : List Value} (h : off + vs.length ≤ n) : putL (flat n fun i => [c i]) off vs = flat n fun i => [updN c off vs i] := by
  apply List.ext_getElem?
  intro i
  rw [putL_get _ _ _ (by rw [flat_len1]; exact h), flat_get1, flat_get1]
  by_cases h1 : i < off + vs.length
  · by_cases h2 : off ≤ i
    · rw [if_pos ⟨h2, h1⟩, if_pos (by omega), updN_get _ _ _ _ h1, if_pos h2]
    · rw [if_neg (by omega), if_pos (by omega), if_pos (by omega), updN_get _ _ _ _ h1, if_neg h2]
  · rw [if_neg (by omega), updN_out _ _ _ _ (by omega)]

def storeO (S : St) (m off : Nat) (vs : List Value) (o : Option AObj) : Option St :=
  match o with
  | some (.cells c e g s) => if off + vs.length ≤ c.length ∧ ones vs = true then some (S.set m (some (.cells (putL c off vs) e g s))) else none
  | _ => none
theorem storeKV_O {S : St} {m off k : Nat} {v : Value} (hb : S.base ≤ m) (hv : v.cells.size = k) : storeKV k (.pointer (some ⟨m, off, none⟩)) v S = storeO S m off v.cells.toList (S.get m) := by
  simp only [storeKV, hv, if_true, putRow, if_neg (Nat.not_lt.mpr hb)]
  unfold storeO; rfl
theorem storeO_rec {S : St} {m off n ty : Nat} {c : Nat → Value} {vs : List Value} (h : off + vs.length ≤ n) (ho : ones vs = true) : storeO S m off vs (some (recO n ty c)) = some (S.set m (some (recO n ty (updN c off vs)))) := by
  simp only [storeO, recO]
  rw [if_pos ⟨by rw [flat_len1]; exact h, ho⟩, putL_rec h]

@[simp] theorem one_str (s : ByteArray) : (Value.string s).oneCell' = true := Eq.trans rfl rfl
@[simp] theorem cells_str (s : ByteArray) : (Value.string s).cells = #[.string s] := Eq.trans rfl rfl
@[simp] theorem ones_nil : ones [] = true := Eq.trans rfl rfl
@[simp] theorem ones_cons (v : Value) (l : List Value) : ones (v :: l) = (v.oneCell' && ones l) := Eq.trans rfl rfl
@[simp] theorem one_int (k : IntKind) (n : Int) : (Value.int k n).oneCell' = true := Eq.trans rfl rfl
@[simp] theorem one_bool (b : Bool) : (Value.bool b).oneCell' = true := Eq.trans rfl rfl
@[simp] theorem one_ptr (a : Option Addr) : (Value.pointer a).oneCell' = true := Eq.trans rfl rfl
@[simp] theorem one_slice (a : Option Addr) (l c : Nat) : (Value.slice a l c).oneCell' = true := Eq.trans rfl rfl
@[simp] theorem cells_int (k : IntKind) (n : Int) : (Value.int k n).cells = #[.int k n] := Eq.trans rfl rfl
@[simp] theorem cells_bool (b : Bool) : (Value.bool b).cells = #[.bool b] := Eq.trans rfl rfl
@[simp] theorem cells_ptr (a : Option Addr) : (Value.pointer a).cells = #[.pointer a] := Eq.trans rfl rfl
@[simp] theorem cells_slice (a : Option Addr) (l c : Nat) : (Value.slice a l c).cells = #[.slice a l c] := Eq.trans rfl rfl
@[simp] theorem cells_agg (l : Array Value) : (Value.agg l).cells = l := Eq.trans rfl rfl

theorem rowO_cells {c : List Value} {e g : Nat} {s : Bool} {off k : Nat} (h : off + k ≤ c.length) : rowO (some (.cells c e g s)) off k = some ((c.drop off).take k) := by
  simp only [rowO]; rw [if_pos h]
theorem storeO_cells {S : St} {m off e g : Nat} {s : Bool} {c vs : List Value} (h : off + vs.length ≤ c.length) (ho : ones vs = true) : storeO S m off vs (some (.cells c e g s)) = some (S.set m (some (.cells (putL c off vs) e g s))) := by
  simp only [storeO]; rw [if_pos ⟨h, ho⟩]

@[simp high] theorem St.set_baseQ (S : St) (n : Nat) (o : Option AObj) : (S.set n o).base = S.base := Eq.trans rfl rfl
@[simp high] theorem St.set_cntQ (S : St) (n : Nat) (o : Option AObj) : (S.set n o).cnt = S.cnt := Eq.trans rfl rfl
@[simp high] theorem St.push_baseQ (S : St) (o : AObj) : (S.push o).base = S.base := Eq.trans rfl rfl
@[simp high] theorem St.push_cntQ (S : St) (o : AObj) : (S.push o).cnt = S.cnt + 1 := Eq.trans rfl rfl
attribute [simp] newRowV rowAt_O rowO_cells rowO_rec storeKV_O storeO_cells storeO_rec St.get_set St.get_push
@[simp] theorem guardR_undef {P : Program} {cF : CF} (w : Bool) (d : Option Tmp) (op : AOp) (ρ : Rho) (S : St) : guardR P cF undef w d op ρ S = some (updO ρ d undef, S) := Eq.trans rfl rfl

/-! ## An array's element -/

def indexW (P : Program) (t : TypeId) (v i : Value) (S : St) (o : Option (Value × St)) : Option (Value × St) :=
  match v with
  | .agg cs => valR S (indexV P t (.agg cs) i)
  | _ => o
@[simp] theorem indexW_agg (P : Program) (t : Nat) (cs : Array Value) (i : Value) (S : St) (o : Option (Value × St)) : indexW P t (.agg cs) i S o = valR S (indexV P t (.agg cs) i) := Eq.trans rfl rfl
@[simp] theorem gen_index {P : Program} {ρ : Operand → Value} {S : St} (t : Nat) (x i : Operand) (ty : Nat) : opS P ρ ⟨none, .index t x i, ty, "", #[], none⟩ S = indexW P t (ρ x) (ρ i) S (opSk P ρ ⟨none, .index t x i, ty, "", #[], none⟩ S) := by
  unfold indexW
  split
  · rename_i cs h
    simp only [opS, h]
    rfl
  · rfl
theorem indexV_agg {P : Program} {t e len : Nat} (hu : P.underlying t = some (.array len e)) (hg : aggO P e = some false) (hs : sizeO P e = some 1) {cs : Array Value} {k : IntKind} {i : Int} (h0 : 0 ≤ i) (h1 : i < len) : indexV P t (.agg cs) (.int k i) = cs[i.toNat]? := by
  simp [indexV, hu, hg, hs, h0, h1]

/-! ## Looked at again -/

theorem againA_any {P : Program} {cF : CF} (d : Nat) (g : Option (Tmp × Bool)) (op : AOp) (ρ : Rho) (S : St) (hc : isCall op = false) : againA P cF ⟨some d, g, op⟩ ρ S = if wantedA g ρ = true then againQ (doA P cF op (evO ρ) S) (ρ d) else true := by
  unfold againA againQ
  rw [hc]
  simp only [Bool.not_false, Bool.true_and, get_rho]
  split
  · cases doA P cF op (evO ρ) S <;> rfl
  · rfl
@[simp] theorem wantedA_none (ρ : Rho) : wantedA none ρ = true := Eq.trans rfl rfl
theorem wantedA_eq (t : Nat) (w : Bool) (ρ : Rho) : wantedA (some (t, w)) ρ = wantQ (ρ t) w := Eq.trans rfl rfl
attribute [simp] wantedA_eq
@[simp] theorem wantQ_bool (b w : Bool) : wantQ (.bool b) w = (b == w) := Eq.trans rfl rfl
@[simp] theorem wantQ_undef (w : Bool) : wantQ undef w = false := Eq.trans rfl rfl
@[simp] theorem againQ_some (v w : Value) (S : St) : againQ (some (v, S)) w = vsame v w := Eq.trans rfl rfl
@[simp] theorem againA_1 {P : Program} {cF : CF} (d : Nat) (g : Option (Tmp × Bool)) (a : Operand) (ρ : Rho) (S : St) : againA P cF ⟨some d, g, .load1 a⟩ ρ S = if wantedA g ρ = true then againQ (doA P cF (.load1 a) (evO ρ) S) (ρ d) else true := againA_any _ _ _ _ _ rfl
@[simp] theorem againA_N {P : Program} {cF : CF} (d k : Nat) (g : Option (Tmp × Bool)) (a : Operand) (ρ : Rho) (S : St) : againA P cF ⟨some d, g, .loadN k a⟩ ρ S = if wantedA g ρ = true then againQ (doA P cF (.loadN k a) (evO ρ) S) (ρ d) else true := againA_any _ _ _ _ _ rfl
@[simp] theorem vsame_int (k : IntKind) (a : Int) : vsame (.int k a) (.int k a) = true := by simp [vsame, vbeq]
@[simp] theorem vsame_bool (a : Bool) : vsame (.bool a) (.bool a) = true := by simp [vsame, vbeq]
@[simp] theorem vsame_ptr (a : Option Addr) : vsame (.pointer a) (.pointer a) = true := by simp [vsame, vbeq]
@[simp] theorem vsame_str (a : ByteArray) : vsame (.string a) (.string a) = true := by simp [vsame, vbeq]
@[simp] theorem vsame_sl (a : Option Addr) (l c : Nat) : vsame (.slice a l c) (.slice a l c) = true := vsame_slice a l c
@[simp] theorem vsame_agg (a b : Array Value) : vsame (.agg a) (.agg b) = vbeqL a.toList b.toList := Eq.trans rfl rfl
@[simp] theorem vbeqL_nil : vbeqL [] [] = true := Eq.trans rfl rfl
@[simp] theorem vbeqL_cons (a b : Value) (l m : List Value) : vbeqL (a :: l) (b :: m) = (vbeq a b && vbeqL l m) := Eq.trans rfl rfl
@[simp] theorem vbeq_int (k : IntKind) (a : Int) : vbeq (.int k a) (.int k a) = true := by simp [vbeq]
@[simp] theorem vbeq_bool (a : Bool) : vbeq (.bool a) (.bool a) = true := by simp [vbeq]
@[simp] theorem vbeq_ptr (a : Option Addr) : vbeq (.pointer a) (.pointer a) = true := by simp [vbeq]
@[simp] theorem vbeq_str (a : ByteArray) : vbeq (.string a) (.string a) = true := by simp [vbeq]
@[simp] theorem vbeq_sl (a : Option Addr) (l c : Nat) : vbeq (.slice a l c) (.slice a l c) = true := by simp [vbeq]

/-! ## Loops, round by round -/

noncomputable def loopR (f : Rho → St → RA Rho) (o : RA Rho) : RA Rho := o.bind (seqK (loopA f))
@[simp] theorem loopR_normal (f : Rho → St → RA Rho) (ρ : Rho) (S : St) : loopR f (some (.normal, ρ, S)) = loopA f ρ S := Eq.trans rfl rfl
@[simp] theorem loopR_exit (f : Rho → St → RA Rho) (i : Nat) (ρ : Rho) (S : St) : loopR f (some (.exit i, ρ, S)) = some (.exit i, ρ, S) := Eq.trans rfl rfl
@[simp] theorem loopR_ret (f : Rho → St → RA Rho) (ρ : Rho) (S : St) : loopR f (some (.ret, ρ, S)) = some (.ret, ρ, S) := Eq.trans rfl rfl
@[simp] theorem loopR_none (f : Rho → St → RA Rho) : loopR f none = none := Eq.trans rfl rfl
theorem Ok_loopR (f : Rho → St → RA Rho) (o : RA Rho) (Q : Ex × Rho × St → Prop) : Ok (loopR f o) Q = Ok o fun p => Ok (seqK (loopA f) p) Q := Ok_bindE
theorem loopA_step (f : Rho → St → RA Rho) (ρ : Rho) (S : St) : loopA f ρ S = loopR f (f ρ S) := by
  cases hx : f ρ S with
  | none =>
    unfold loopA
    rw [dif_neg]
    · rfl
    · rintro ⟨n, hn⟩
      cases n with
      | zero => simp [iterA] at hn
      | succ n => simp [iterA, hx] at hn
  | some q =>
    obtain ⟨x, ρ', S'⟩ := q
    cases x with
    | exit i => exact loopA_of_iter (n := 1) (by simp only [iterA, hx, Option.bind_some, seqK_exit])
    | ret => exact loopA_of_iter (n := 1) (by simp only [iterA, hx, Option.bind_some, seqK_ret])
    | normal =>
      rw [loopR_normal]
      by_cases h : ∃ n, (iterA n f ρ' S').isSome
      · obtain ⟨n, hn⟩ := h
        obtain ⟨r, hr⟩ := Option.isSome_iff_exists.mp hn
        rw [loopA_of_iter hr]
        exact loopA_of_iter (n := n + 1) (by simp only [iterA, hx, Option.bind_some, seqK_normal]; exact hr)
      · have h2 : ¬ ∃ n, (iterA n f ρ S).isSome := by
          rintro ⟨n, hn⟩
          cases n with
          | zero => simp [iterA] at hn
          | succ n => simp only [iterA, hx, Option.bind_some, seqK_normal] at hn; exact h ⟨n, hn⟩
        unfold loopA
        rw [dif_neg h, dif_neg h2]

end Go.AM
