/- AmB: how a state of the abstract machine stands to a world, and what becomes of it behind a store, a new block, a block that grows. -/
import Derived.Test.YtdfimlepfaheeaaGreatAmA
set_option linter.unusedVariables false
set_option linter.unusedSimpArgs false
namespace Go.AM
open Go.RowKit (Below)

def ER (μ : Mu) (a b : List MapEntry) : Prop :=
  a.length = b.length ∧ ∀ (i : Nat) (x y : MapEntry), a[i]? = some x → b[i]? = some y → VR μ x.key y.key ∧ VR μ x.val y.val ∧ x.born = y.born

theorem ER.mono {μ ν : Mu} (hm : μ.le ν) {a b : List MapEntry} (h : ER μ a b) : ER ν a b :=
  ⟨h.1, fun i x y hx hy => let ⟨p, q, r⟩ := h.2 i x y hx hy; ⟨p.mono hm, q.mono hm, r⟩⟩

/-- Old cells, as far as they are known. -/
def OLR (μ : Mu) (c l : List Value) : Prop := c.length = l.length ∧ ∀ (i : Nat) (v v' : Value), c[i]? = some v → l[i]? = some v' → v.oneCell' = true → VR μ v v'
theorem OLR.mono {μ ν : Mu} (hm : μ.le ν) {a b : List Value} (h : OLR μ a b) : OLR ν a b := ⟨h.1, fun i v v' h1 h2 h3 => (h.2 i v v' h1 h2 h3).mono hm⟩

def ORel (μ : Mu) (w : World) (n : Nat) : AObj → Prop
  | .cells c e gr str => ∃ (cs : Array Value) (fr : Nat × Nat), w.heap[μ.blk n]? = some (.cells cs e fr) ∧ LR μ c (cs.toList.take c.length) ∧ c.length ≤ cs.size ∧
      (gr = 0 → c.length = cs.size) ∧ (gr ≠ 0 → cs.size = μ.cap n * gr ∧ μ.esz n = gr) ∧ (str = false → fr = (0, 0))
  | .map es clock => ∃ es' : Array MapEntry, w.heap[μ.blk n]? = some (.map es' clock) ∧ ER μ es es'.toList
  | .iter s pos => w.heap[μ.blk n]? = some (.stringIter s pos)
  | .old c => ∃ (cs : Array Value) (e : TypeId) (fr : Nat × Nat), w.heap[μ.blk n]? = some (.cells cs e fr) ∧ OLR μ c cs.toList

theorem ORel.mono {μ ν : Mu} (hm : μ.le ν) {w : World} {n : Nat} (hn : n < μ.n) {o : AObj} (h : ORel μ w n o) : ORel ν w n o := by
  cases o with
  | cells c e grow str =>
    obtain ⟨cs, fr, h1, h2, h3, h4, h5, h6⟩ := h
    exact ⟨cs, fr, by rw [hm.blk n hn]; exact h1, h2.mono hm, h3, h4, by rw [hm.cap n hn, hm.esz n hn]; exact h5, h6⟩
  | map es clock =>
    obtain ⟨es', h1, h2⟩ := h
    exact ⟨es', by rw [hm.blk n hn]; exact h1, h2.mono hm⟩
  | iter s pos => unfold ORel at *; rw [hm.blk n hn]; exact h
  | old c =>
    obtain ⟨cs, e, fr, h1, h2⟩ := h
    exact ⟨cs, e, fr, by rw [hm.blk n hn]; exact h1, h2.mono hm⟩

theorem ORel.congr {μ : Mu} {w w' : World} {n : Nat} {o : AObj} (h : ORel μ w n o) (e : w'.heap[μ.blk n]? = w.heap[μ.blk n]?) : ORel μ w' n o := by
  cases o <;> (unfold ORel at *; rw [e]; exact h)

theorem ORel.lt {μ : Mu} {w : World} {n : Nat} {o : AObj} (h : ORel μ w n o) : μ.blk n < w.heap.size := by
  have : ∃ x, w.heap[μ.blk n]? = some x := by
    cases o with
    | cells c e grow str => obtain ⟨cs, fr, h1, _⟩ := h; exact ⟨_, h1⟩
    | map es clock => obtain ⟨es', h1, _⟩ := h; exact ⟨_, h1⟩
    | iter s pos => exact ⟨_, h⟩
    | old c => obtain ⟨cs, e, fr, h1, _⟩ := h; exact ⟨_, h1⟩
  obtain ⟨x, hx⟩ := this
  rcases Nat.lt_or_ge (μ.blk n) w.heap.size with h' | h'
  · exact h'
  · rw [Array.getElem?_eq_none h'] at hx; cases hx

structure Rel (lo : Nat) (μ : Mu) (S : St) (w : World) : Prop where
  n : μ.n = S.cnt
  bc : S.base ≤ S.cnt
  lw : lo ≤ w.heap.size
  lt : ∀ i o, S.get i = some o → i < S.cnt
  obj : ∀ i o, S.get i = some o → ORel μ w i o
  inj : ∀ i j oi oj, S.get i = some oi → S.get j = some oj → μ.blk i = μ.blk j → i = j
  own : ∀ i o, S.base ≤ i → S.get i = some o → lo ≤ μ.blk i
  wr : ∀ i o, S.base ≤ i → S.get i = some o → ∀ off, (w.cell? ⟨μ.blk i, off, none⟩).isSome = true → w.frozen? ⟨μ.blk i, off, none⟩ = false

structure Post (lo : Nat) (μ : Mu) (w : World) (S' : St) (μ' : Mu) (w' : World) : Prop where
  le : μ.le μ'
  rel : Rel lo μ' S' w'
  below : Below lo w w'

theorem Post.refl {lo : Nat} {μ : Mu} {S : St} {w : World} (h : Rel lo μ S w) : Post lo μ w S μ w := ⟨μ.le_refl, h, Below.refl _ _⟩
theorem Post.trans {lo : Nat} {μ μ₁ μ₂ : Mu} {S₁ S₂ : St} {w w₁ w₂ : World} (h : Post lo μ w S₁ μ₁ w₁) (k : Post lo μ₁ w₁ S₂ μ₂ w₂) : Post lo μ w S₂ μ₂ w₂ :=
  ⟨h.le.le_trans k.le, k.rel, h.below.trans k.below⟩

/-- A world whose blocks that the state names are as they were. -/
theorem Rel.congr {lo : Nat} {μ : Mu} {S : St} {w w' : World} (h : Rel lo μ S w) (hl : lo ≤ w'.heap.size) (e : ∀ i o, S.get i = some o → w'.heap[μ.blk i]? = w.heap[μ.blk i]?) : Rel lo μ S w' where
  n := h.n
  bc := h.bc
  lw := hl
  lt := h.lt
  obj i o hi := (h.obj i o hi).congr (e i o hi)
  inj := h.inj
  own := h.own
  wr i o hb hi off hc := by
    have he := e i o hi
    rw [World.frozen?_of_block (w := w) he]
    exact h.wr i o hb hi off (by rw [World.cell?_of_block (w := w) he] at hc; exact hc)

theorem Rel.heap_eq {lo : Nat} {μ : Mu} {S : St} {w w' : World} (h : Rel lo μ S w) (e : w'.heap = w.heap) : Rel lo μ S w' :=
  h.congr (by rw [e]; exact h.lw) (fun _ _ _ => by rw [e])

theorem Rel.drew {lo : Nat} {μ : Mu} {S : St} {w : World} (h : Rel lo μ S w) : Rel lo μ S w.drew := h.heap_eq rfl

theorem Rel.below {lo : Nat} {μ : Mu} {S : St} {w w' : World} (h : Rel lo μ S w) (hb : Below w.heap.size w w') : Rel lo μ S w' :=
  h.congr (Nat.le_trans h.lw hb.size) (fun i o hi => hb.block _ (h.obj i o hi).lt)

theorem Post.drew {lo : Nat} {μ : Mu} {S : St} {w : World} (h : Rel lo μ S w) : Post lo μ w S μ w.drew := ⟨μ.le_refl, h.drew, (Below.refl _ _).drew⟩

/-- A name that is given up. -/
theorem Rel.kill {lo : Nat} {μ : Mu} {S : St} {w : World} (h : Rel lo μ S w) {n : Nat} (hn : S.base ≤ n) : Rel lo μ (S.set n none) w where
  n := h.n
  bc := h.bc
  lw := h.lw
  lt i o hi := by
    rw [St.get_set _ _ _ _ hn] at hi
    split at hi
    · cases hi
    · exact h.lt i o hi
  obj i o hi := by
    rw [St.get_set _ _ _ _ hn] at hi
    split at hi
    · cases hi
    · exact h.obj i o hi
  inj i j oi oj hi hj := by
    rw [St.get_set _ _ _ _ hn] at hi hj
    split at hi
    · cases hi
    · split at hj
      · cases hj
      · exact h.inj i j oi oj hi hj
  own i o hb hi := by
    rw [St.get_set _ _ _ _ hn] at hi
    split at hi
    · cases hi
    · exact h.own i o hb hi
  wr i o hb hi := by
    rw [St.get_set _ _ _ _ hn] at hi
    split at hi
    · cases hi
    · exact h.wr i o hb hi

def Mu.ext (μ : Mu) (b cp ez : Nat) : Mu :=
  ⟨μ.n + 1, fun i => if i = μ.n then b else μ.blk i, fun i => if i = μ.n then cp else μ.cap i, fun i => if i = μ.n then ez else μ.esz i⟩

theorem Mu.le_ext (μ : Mu) (b cp ez : Nat) : μ.le (μ.ext b cp ez) :=
  ⟨Nat.le_succ _, fun i hi => if_neg (Nat.ne_of_lt hi), fun i hi => if_neg (Nat.ne_of_lt hi), fun i hi => if_neg (Nat.ne_of_lt hi)⟩
@[simp] theorem Mu.ext_n (μ : Mu) (b cp ez : Nat) : (μ.ext b cp ez).n = μ.n + 1 := rfl
@[simp] theorem Mu.ext_blk (μ : Mu) (b cp ez : Nat) : (μ.ext b cp ez).blk μ.n = b := if_pos rfl
@[simp] theorem Mu.ext_cap (μ : Mu) (b cp ez : Nat) : (μ.ext b cp ez).cap μ.n = cp := if_pos rfl
@[simp] theorem Mu.ext_esz (μ : Mu) (b cp ez : Nat) : (μ.ext b cp ez).esz μ.n = ez := if_pos rfl

/-- A name more, of a block that no name had. -/
theorem Rel.name {lo : Nat} {μ : Mu} {S : St} {w : World} (h : Rel lo μ S w) (o : AObj) (b cp ez : Nat) (hb : lo ≤ b)
    (hf : ∀ i oi, S.get i = some oi → μ.blk i ≠ b) (ho : ORel (μ.ext b cp ez) w μ.n o)
    (hw : ∀ off, (w.cell? ⟨b, off, none⟩).isSome = true → w.frozen? ⟨b, off, none⟩ = false) : Rel lo (μ.ext b cp ez) (S.push o) w where
  n := by simp [h.n]
  bc := by have := h.bc; simp; omega
  lw := h.lw
  lt i o' hi := by
    rw [St.get_push _ _ _ h.bc] at hi
    split at hi
    · rename_i e; simp [e]
    · have := h.lt i o' hi; simp; omega
  obj i o' hi := by
    rw [St.get_push _ _ _ h.bc] at hi
    split at hi
    · rename_i e
      injection hi with hi
      subst hi
      rw [e, ← h.n]; exact ho
    · have := h.lt i o' hi
      exact (h.obj i o' hi).mono (Mu.le_ext _ _ _ _) (by rw [h.n]; exact this)
  inj i j oi oj hi hj e := by
    rw [St.get_push _ _ _ h.bc] at hi hj
    split at hi
    · rename_i ei
      split at hj
      · rename_i ej; rw [ei, ej]
      · have hlt := h.lt j oj hj
        rw [ei, ← h.n, Mu.ext_blk, (Mu.le_ext μ b cp ez).blk j (by rw [h.n]; exact hlt)] at e
        exact absurd e.symm (hf j oj hj)
    · have hlt := h.lt i oi hi
      split at hj
      · rename_i ej
        rw [ej, ← h.n, Mu.ext_blk, (Mu.le_ext μ b cp ez).blk i (by rw [h.n]; exact hlt)] at e
        exact absurd e (hf i oi hi)
      · have hlt' := h.lt j oj hj
        rw [(Mu.le_ext μ b cp ez).blk j (by rw [h.n]; exact hlt'), (Mu.le_ext μ b cp ez).blk i (by rw [h.n]; exact hlt)] at e
        exact h.inj i j oi oj hi hj e
  own i o' hbi hi := by
    rw [St.get_push _ _ _ h.bc] at hi
    split at hi
    · rename_i ei; rw [ei, ← h.n, Mu.ext_blk]; exact hb
    · have hlt := h.lt i o' hi
      rw [(Mu.le_ext μ b cp ez).blk i (by rw [h.n]; exact hlt)]
      exact h.own i o' hbi hi
  wr i o' hbi hi := by
    rw [St.get_push _ _ _ h.bc] at hi
    split at hi
    · rename_i ei; rw [ei, ← h.n, Mu.ext_blk]; exact hw
    · have hlt := h.lt i o' hi
      rw [(Mu.le_ext μ b cp ez).blk i (by rw [h.n]; exact hlt)]
      exact h.wr i o' hbi hi

theorem heap_alloc_old (w : World) (o : Obj) (k : Nat) (h : k < w.heap.size) : (w.alloc o).heap[k]? = w.heap[k]? := Below.heap_alloc w o k h
theorem heap_alloc_new (w : World) (o : Obj) : (w.alloc o).heap[w.heap.size]? = some o := by
  show (w.heap.push o)[w.heap.size]? = _
  simp

/-- A new block. -/
theorem Rel.alloc {lo : Nat} {μ : Mu} {S : St} {w : World} (h : Rel lo μ S w) (o : AObj) (o' : Obj) (cp ez : Nat)
    (ho : ORel (μ.ext w.heap.size cp ez) (w.alloc o') μ.n o)
    (hw : ∀ off, ((w.alloc o').cell? ⟨w.heap.size, off, none⟩).isSome = true → (w.alloc o').frozen? ⟨w.heap.size, off, none⟩ = false) :
    Post lo μ w (S.push o) (μ.ext w.heap.size cp ez) (w.alloc o') := by
  have h' : Rel lo μ S (w.alloc o') := h.congr (by have := h.lw; simp; omega) (fun i oi hi => heap_alloc_old _ _ _ (h.obj i oi hi).lt)
  refine ⟨Mu.le_ext _ _ _ _, h'.name o _ cp ez h.lw (fun i oi hi => Nat.ne_of_lt (h.obj i oi hi).lt) ho hw, (Below.refl _ _).alloc h.lw _⟩

/-- A new row of cells. -/
theorem Rel.alloc_cells {lo : Nat} {μ : Mu} {S : St} {w : World} (h : Rel lo μ S w) (c : List Value) (e : TypeId) (gr : Nat) (cs : Array Value) (cp : Nat)
    (hc : LR μ c (cs.toList.take c.length)) (hl : c.length ≤ cs.size) (hg : gr = 0 → c.length = cs.size) (hg' : gr ≠ 0 → cs.size = cp * gr) (st : Bool := false) :
    Post lo μ w (S.push (.cells c e gr st)) (μ.ext w.heap.size cp gr) (w.alloc (.cells cs e)) := by
  refine h.alloc _ _ cp gr ?_ ?_
  · refine ⟨cs, (0, 0), ?_, hc.mono (Mu.le_ext _ _ _ _), hl, hg, ?_, fun _ => rfl⟩
    · rw [Mu.ext_blk]; exact heap_alloc_new _ _
    · rw [Mu.ext_cap, Mu.ext_esz]; exact fun h => ⟨hg' h, rfl⟩
  · intro off _
    exact World.frozen?_alloc_new _ _ _ _

/-! ## Stores -/

def putL (c : List Value) (off : Nat) (vs : List Value) : List Value := c.take off ++ vs ++ c.drop (off + vs.length)

theorem putL_length (c : List Value) (off : Nat) (vs : List Value) (h : off + vs.length ≤ c.length) : (putL c off vs).length = c.length := by
  simp [putL]; omega

theorem putL_get (c : List Value) (off : Nat) (vs : List Value) (h : off + vs.length ≤ c.length) (i : Nat) :
    (putL c off vs)[i]? = if off ≤ i ∧ i < off + vs.length then vs[i - off]? else c[i]? := by
  unfold putL
  have hl : (c.take off).length = off := by simp; omega
  rw [List.append_assoc]
  by_cases h1 : i < off
  · rw [List.getElem?_append_left (by omega), if_neg (by omega), List.getElem?_take_of_lt h1]
  · rw [List.getElem?_append_right (by omega), hl]
    by_cases h2 : i < off + vs.length
    · rw [List.getElem?_append_left (by omega), if_pos ⟨by omega, h2⟩]
    · rw [List.getElem?_append_right (by omega), if_neg (by omega), List.getElem?_drop]
      congr 1; omega

theorem LR.putL {μ : Mu} {c c' vs vs' : List Value} (h : LR μ c c') (hv : LR μ vs vs') (off : Nat) : LR μ (putL c off vs) (putL c' off vs') := by
  unfold AM.putL
  rw [← hv.1]
  exact ((h.take off).append hv).append (h.drop _)

theorem heap_setCell_other (w : World) (a : Addr) (v : Value) (k : Nat) (h : k ≠ a.block) : (w.setCell a v).heap[k]? = w.heap[k]? := Below.heap_setCell w a v k h

theorem setCells_size (b : Nat) : ∀ (vs : List Value) (o : Nat) (w : World), (w.setCells b o vs).heap.size = w.heap.size
  | [], _, _ => rfl
  | v :: r, o, w => by rw [World.setCells, setCells_size b r]; simp
theorem setCells_other (b : Nat) : ∀ (vs : List Value) (o : Nat) (w : World) (k : Nat), k ≠ b → (w.setCells b o vs).heap[k]? = w.heap[k]?
  | [], _, _, _, _ => rfl
  | v :: r, o, w, k, h => by rw [World.setCells, setCells_other b r _ _ k h, heap_setCell_other _ _ _ _ h]
theorem setCells_below {lo b : Nat} (hb : lo ≤ b) : ∀ (vs : List Value) (o : Nat) (w : World), Below lo w (w.setCells b o vs)
  | [], _, w => Below.refl _ _
  | v :: r, o, w => ((Below.refl lo w).setCell (p := ⟨b, o, none⟩) hb v).trans (setCells_below hb r (o + 1) _)

theorem setCells_block (b : Nat) (e : TypeId) (fr : Nat × Nat) : ∀ (vs : List Value) (o : Nat) (w : World) (cs : Array Value), w.heap[b]? = some (.cells cs e fr) → o + vs.length ≤ cs.size →
    ∃ cs' : Array Value, (w.setCells b o vs).heap[b]? = some (.cells cs' e fr) ∧ cs'.toList = putL cs.toList o vs
  | [], o, w, cs, h, _ => ⟨cs, h, by simp [putL]⟩
  | v :: r, o, w, cs, h, hl => by
    have h1 : (w.setCell ⟨b, o, none⟩ v).heap[b]? = some (.cells (cs.setIfInBounds o v) e fr) := by
      simp only [World.setCell, Array.getElem?_modify, if_true, h, Option.map_some]
      simp
    obtain ⟨cs', h2, h3⟩ := setCells_block b e fr r (o + 1) _ _ h1 (by simp at hl ⊢; omega)
    refine ⟨cs', by rw [World.setCells]; exact h2, ?_⟩
    rw [h3]
    simp at hl
    apply List.ext_getElem?
    intro i
    rw [putL_get _ _ _ (by simp; omega), putL_get _ _ _ (by simp; omega)]
    simp only [Array.toList_setIfInBounds, List.length_cons]
    by_cases e1 : o + 1 ≤ i ∧ i < o + 1 + r.length
    · rw [if_pos e1, if_pos (by omega)]
      rw [show i - o = (i - (o + 1)) + 1 by omega]
      simp
    · rw [if_neg e1]
      by_cases e2 : i = o
      · subst e2
        rw [if_pos (by omega)]
        have hlt : i < cs.size := by omega
        simp [hlt]
      · rw [if_neg (by omega), List.getElem?_set_ne (Ne.symm e2)]

theorem setCells_cell_isSome (b : Nat) (vs : List Value) (o : Nat) (w : World) (e : TypeId) (fr : Nat × Nat) (cs : Array Value) (h : w.heap[b]? = some (.cells cs e fr)) (hl : o + vs.length ≤ cs.size) (off : Nat) :
    ((w.setCells b o vs).cell? ⟨b, off, none⟩).isSome = (w.cell? ⟨b, off, none⟩).isSome := by
  obtain ⟨cs', h2, h3⟩ := setCells_block b e fr vs o w cs h hl
  have hs : cs'.size = cs.size := by
    have := congrArg List.length h3
    rw [putL_length _ _ _ (by simpa using hl)] at this
    simpa using this
  have : cs'[off]?.isSome = cs[off]?.isSome := by
    rw [Bool.eq_iff_iff]; simp [hs]
  simp [World.cell?, h, h2, this]

/-- A store into a row. -/
theorem Rel.store {lo : Nat} {μ : Mu} {S : St} {w : World} (h : Rel lo μ S w) {n : Nat} {c : List Value} {e : TypeId} {g : Nat} {s : Bool} (hn : S.get n = some (.cells c e g s)) (hb : S.base ≤ n)
    {off : Nat} {vs vs' : List Value} (hv : LR μ vs vs') (hl : off + vs.length ≤ c.length) :
    Post lo μ w (S.set n (some (.cells (putL c off vs) e g s))) μ (w.setCells (μ.blk n) off vs') := by
  obtain ⟨cs, fr, h1, h2, h3, h4, h5, h6⟩ := h.obj n _ hn
  have hl' : off + vs'.length ≤ cs.size := by rw [← hv.1]; omega
  obtain ⟨cs', g1, g2⟩ := setCells_block (μ.blk n) e fr vs' off w cs h1 hl'
  have gs : cs'.size = cs.size := by
    have := congrArg List.length g2
    rw [putL_length _ _ _ (by simpa using hl')] at this
    simpa using this
  have hoth : ∀ i o, i ≠ n → S.get i = some o → (w.setCells (μ.blk n) off vs').heap[μ.blk i]? = w.heap[μ.blk i]? := fun i o hi hg =>
    setCells_other _ _ _ _ _ (fun e => hi (h.inj i n _ _ hg hn e))
  refine ⟨μ.le_refl, ?_, setCells_below (h.own n _ hb hn) _ _ _⟩
  refine ⟨h.n, h.bc, by rw [setCells_size]; exact h.lw, ?_, ?_, ?_, ?_, ?_⟩
  · intro i o hi
    rw [St.get_set _ _ _ _ hb] at hi
    split at hi
    · rename_i e; rw [e]; exact h.lt n _ hn
    · exact h.lt i o hi
  · intro i o hi
    rw [St.get_set _ _ _ _ hb] at hi
    split at hi
    · rename_i ei
      injection hi with hi
      subst hi; subst ei
      refine ⟨cs', fr, g1, ?_, ?_, ?_, ?_, h6⟩
      · rw [putL_length _ _ _ hl, g2]
        have : (putL cs.toList off vs').take c.length = putL (cs.toList.take c.length) off vs' := by
          apply List.ext_getElem?
          intro j
          by_cases hj : j < c.length
          · rw [List.getElem?_take_of_lt hj, putL_get _ _ _ (by simpa using hl'), putL_get _ _ _ (by rw [← hv.1]; simp; omega), List.getElem?_take_of_lt hj]
          · rw [List.getElem?_eq_none (by simp; omega), List.getElem?_eq_none (by rw [putL_length _ _ _ (by rw [← hv.1]; simp; omega)]; simp; omega)]
        rw [this]
        exact h2.putL hv off
      · rw [putL_length _ _ _ hl]; omega
      · rw [putL_length _ _ _ hl, gs]; exact h4
      · rw [gs]; exact h5
    · rename_i ei
      exact (h.obj i o hi).congr (hoth i o ei hi)
  · intro i j oi oj hi hj
    rw [St.get_set _ _ _ _ hb] at hi hj
    split at hi
    · rename_i ei
      split at hj
      · rename_i ej; rw [ei, ej]; simp
      · rw [ei]; exact h.inj n j _ oj hn hj
    · split at hj
      · rename_i ej; rw [ej]; exact h.inj i n oi _ hi hn
      · exact h.inj i j oi oj hi hj
  · intro i o hbi hi
    rw [St.get_set _ _ _ _ hb] at hi
    split at hi
    · rename_i ei; rw [ei]; exact h.own n _ hb hn
    · exact h.own i o hbi hi
  · intro i o hbi hi off' hc
    rw [St.get_set _ _ _ _ hb] at hi
    rw [World.frozen?_setCells]
    split at hi
    · rename_i ei
      subst ei
      rw [setCells_cell_isSome _ _ _ _ e fr cs h1 hl'] at hc
      exact h.wr i _ hb hn off' hc
    · rename_i ei
      rw [World.cell?_of_block (w := w) (hoth i o ei hi)] at hc
      exact h.wr i o hbi hi off' hc

/-- A row that grows where it lies: the elder name is given up, the new one is of the same block. -/
theorem Rel.grow {lo : Nat} {μ : Mu} {S : St} {w : World} (h : Rel lo μ S w) {n : Nat} {c : List Value} {e : TypeId} {g : Nat} {s : Bool} (hn : S.get n = some (.cells c e g s)) (hg0 : g ≠ 0) (hb : S.base ≤ n)
    {vs vs' : List Value} (hv : LR μ vs vs') (hroom : c.length + vs.length ≤ μ.cap n * g) :
    Post lo μ w ((S.set n none).push (.cells (c ++ vs) e g s)) (μ.ext (μ.blk n) (μ.cap n) g) (w.setCells (μ.blk n) c.length vs') := by
  obtain ⟨cs, fr, h1, h2, h3, h4, h5, h6⟩ := h.obj n _ hn
  have hsz := (h5 hg0).1
  have hl' : c.length + vs'.length ≤ cs.size := by rw [← hv.1]; omega
  obtain ⟨cs', g1, g2⟩ := setCells_block (μ.blk n) e fr vs' c.length w cs h1 hl'
  have gs : cs'.size = cs.size := by
    have := congrArg List.length g2
    rw [putL_length _ _ _ (by simpa using hl')] at this
    simpa using this
  have hk := h.kill (n := n) hb
  have hne : ∀ i o, (S.set n none).get i = some o → μ.blk i ≠ μ.blk n := fun i o hi e => by
    rw [St.get_set _ _ _ _ hb] at hi
    split at hi
    · cases hi
    · rename_i ei; exact ei (h.inj i n _ _ hi hn e)
  have hk' : Rel lo μ (S.set n none) (w.setCells (μ.blk n) c.length vs') :=
    hk.congr (by rw [setCells_size]; exact h.lw) (fun i o hi => setCells_other _ _ _ _ _ (hne i o hi))
  refine ⟨Mu.le_ext _ _ _ _, hk'.name _ _ _ _ (h.own n _ hb hn) hne ?_ ?_, setCells_below (h.own n _ hb hn) _ _ _⟩
  · refine ⟨cs', fr, by rw [Mu.ext_blk]; exact g1, ?_, ?_, fun hf => absurd hf hg0, fun _ => by rw [Mu.ext_cap, Mu.ext_esz, gs]; exact ⟨hsz, rfl⟩, h6⟩
    · have : cs'.toList.take (c ++ vs).length = cs.toList.take c.length ++ vs' := by
        rw [g2]
        unfold AM.putL
        rw [List.length_append, hv.1]
        rw [List.take_append_of_le_length (by simp; omega), List.take_of_length_le (by simp; omega)]
      rw [this]
      exact (h2.append hv).mono (Mu.le_ext _ _ _ _)
    · rw [gs, List.length_append]; omega
  · intro off hc
    rw [World.frozen?_setCells]
    rw [setCells_cell_isSome _ _ _ _ e fr cs h1 hl'] at hc
    exact h.wr n _ hb hn off hc

/-- The cells of a row, as they are in memory. -/
theorem Rel.cells {lo : Nat} {μ : Mu} {S : St} {w : World} (h : Rel lo μ S w) {n : Nat} {c : List Value} {e : TypeId} {g : Nat} {s : Bool} (hn : S.get n = some (.cells c e g s)) :
    ∃ c' : List Value, LR μ c c' ∧ ∀ i v', c'[i]? = some v' → w.cell? ⟨μ.blk n, i, none⟩ = some v' := by
  obtain ⟨cs, fr, h1, h2, h3, _⟩ := h.obj n _ hn
  refine ⟨_, h2, fun i v' hv => ?_⟩
  have hi : i < c.length := by
    rcases Nat.lt_or_ge i c.length with h | h
    · exact h
    · rw [List.getElem?_eq_none (by simp; omega)] at hv; cases hv
  rw [List.getElem?_take_of_lt hi] at hv
  simp [World.cell?, h1]
  simpa using hv

end Go.AM
