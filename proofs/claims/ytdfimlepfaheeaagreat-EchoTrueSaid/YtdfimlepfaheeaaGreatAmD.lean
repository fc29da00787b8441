/- AmD: each operation of the abstract machine is sound: loads, stores, aggregates, addresses, slices, comparisons. -/
import Derived.Test.YtdfimlepfaheeaaGreatAmC
set_option linter.unusedVariables false
set_option linter.unusedSimpArgs false
namespace Go.AM
open Go.RowKit (Below)

/-- What an operation comes to. -/
def Out (P : Program) (lo : Nat) (μ : Mu) (w : World) (s : Sem Next) (v : Value) (S' : St) : Prop :=
  ∃ (nx : Next) (v' : Value) (μ' : Mu) (w' : World), s.run P w = .ok nx w' ∧ (nx = .value v' ∨ (nx = .skip ∧ v' = undef)) ∧ VR μ' v v' ∧ Post lo μ w S' μ' w'

section
variable {P : Program} {lo : Nat} {μ : Mu} {S : St} {w : World}

theorem Out.value {s : Sem Value} {v v' : Value} {S' : St} {μ' : Mu} {w' : World} (h : s.run P w = .ok v' w') (hv : VR μ' v v') (hp : Post lo μ w S' μ' w') :
    Out P lo μ w (do pure (.value (← s))) v S' :=
  ⟨.value v', v', μ', w', by simp [h], .inl rfl, hv, hp⟩
theorem Out.unit {s : Sem Unit} {S' : St} {μ' : Mu} {w' : World} (h : s.run P w = .ok () w') (hp : Post lo μ w S' μ' w') : Out P lo μ w (do s; pure .skip) undef S' :=
  ⟨.skip, undef, μ', w', by simp [h], .inr ⟨rfl, rfl⟩, VR.undef _, hp⟩
theorem Out.pure (hR : Rel lo μ S w) {v v' : Value} (hv : VR μ v v') : Out P lo μ w (Pure.pure (.value v')) v S :=
  ⟨.value v', v', μ, w, rfl, .inl rfl, hv, Post.refl hR⟩

theorem underlying_run {t : TypeId} {d : TypeDesc} (h : P.underlying t = some d) (w : World) : (underlying t).run P w = .ok d w := by simp [underlying, h]
theorem sizeO_run {t : TypeId} {k : Nat} (h : sizeO P t = some k) (w : World) : (sizeOf t).run P w = .ok k w := by
  unfold sizeO at h
  cases hi : P.info? t with
  | none => simp [hi] at h
  | some i => simp [hi] at h; simp [sizeOf, typeInfo, hi, h]
theorem aggO_run {t : TypeId} {b : Bool} (h : aggO P t = some b) (w : World) : (isAgg t).run P w = .ok b w := by
  unfold aggO at h
  split at h <;> first
    | (rename_i hu; injection h with h; subst h; simp [isAgg, underlying, hu])
    | (rename_i hne hne' hu; injection h with h; subst h
       cases hd : P.underlying t with
       | none => simp [hd] at hu
       | some d =>
         rw [hd] at hu
         injection hu with hu
         subst hu
         simp only [isAgg, underlying, run_program, Sem.run_bind, Result.andThen, hd, Sem.run_pure]
         cases d <;> first | rfl | (exact absurd hd (by simp_all)) )
    | cases h
theorem zeroO_run {t : TypeId} {z : Value} (h : zeroO P t = some z) (w : World) : (zeroValue t).run P w = .ok z w := by
  unfold zeroO at h
  cases hi : P.info? t with
  | none => simp [hi] at h
  | some i => simp [hi] at h; simp [zeroValue, typeInfo, hi, h]

theorem ones_spec {l : List Value} (h : ones l = true) : ∀ v ∈ l, v.oneCell' = true := by
  induction l with
  | nil => simp
  | cons x l ih =>
    simp [ones] at h
    intro v hv
    rcases List.mem_cons.1 hv with rfl | hv
    · exact h.1
    · exact ih h.2 v hv
theorem LR.ones {a b : List Value} (h : LR μ a b) (ha : ones a = true) : AM.ones b = true := by
  induction a generalizing b with
  | nil => obtain rfl := h.cases_nil; rfl
  | cons x a ih =>
    obtain ⟨y, b', rfl, hx, ht⟩ := h.cases_cons
    simp [AM.ones] at ha ⊢
    exact ⟨hx.oneCell ha.1, ih ht ha.2⟩
theorem afs_ones {l : List Value} (h : afs l = true) : ones l = true := by
  induction l with
  | nil => rfl
  | cons x l ih =>
    simp [afs] at h
    simp [ones]
    refine ⟨?_, ih h.2⟩
    cases x <;> first | rfl | simp [af1] at h

/-! ## Rows -/

theorem ones_get {l : List Value} (h : ones l = true) {i : Nat} {v : Value} (hv : l[i]? = some v) : v.oneCell' = true := by
  induction l generalizing i with
  | nil => simp at hv
  | cons x l ih =>
    simp only [ones, Bool.and_eq_true] at h
    cases i with
    | zero => simp at hv; subst hv; exact h.1
    | succ i => exact ih h.2 (by simpa using hv)

theorem rowAt_spec {n off k : Nat} {l : List Value} (h : rowAt S n off k = some l) :
    (∃ c e g s, S.get n = some (.cells c e g s) ∧ off + k ≤ c.length ∧ l = (c.drop off).take k) ∨ (∃ c, S.get n = some (.old c) ∧ off + k ≤ c.length ∧ ones ((c.drop off).take k) = true ∧ l = (c.drop off).take k) := by
  unfold rowAt at h
  split at h
  · rename_i c e g s hg
    split at h
    · rename_i hle; injection h with h; exact Or.inl ⟨c, e, g, s, hg, hle, h.symm⟩
    · cases h
  · rename_i c hg
    split at h
    · rename_i hle; injection h with h; exact Or.inr ⟨c, hg, hle.1, hle.2, h.symm⟩
    · cases h
  · cases h
theorem rowAt_length {n off k : Nat} {l : List Value} (h : rowAt S n off k = some l) : l.length = k := by
  rcases rowAt_spec h with ⟨c, e, g, s, hg, hle, rfl⟩ | ⟨c, hg, hle, ho, rfl⟩
  · simp; omega
  · simp; omega

/-- A row's cells, in memory. -/
theorem rowAt_mem (hR : Rel lo μ S w) {n off k : Nat} {l : List Value} (h : rowAt S n off k = some l) :
    ∃ l' : List Value, LR μ l l' ∧ l'.length = k ∧ (∀ j v, l'[j]? = some v → w.cell? ⟨μ.blk n, off + j, none⟩ = some v) ∧ n < μ.n := by
  have hlen := rowAt_length h
  rcases rowAt_spec h with ⟨c, e, g, s, hg, hle, rfl⟩ | ⟨c, hg, hle, ho, rfl⟩
  · obtain ⟨c', h1, h2⟩ := hR.cells hg
    refine ⟨(c'.drop off).take k, (h1.drop off).take k, ?_, ?_, by rw [hR.n]; exact hR.lt _ _ hg⟩
    · have := ((h1.drop off).take k).1
      rw [← this]; exact hlen
    · intro j v hv
      refine h2 _ _ ?_
      have hj : j < k := by
        rcases Nat.lt_or_ge j k with h | h
        · exact h
        · rw [List.getElem?_eq_none (by simp; omega)] at hv; cases hv
      rw [List.getElem?_take_of_lt hj, List.getElem?_drop] at hv
      exact hv
  · obtain ⟨cs, e, fr, h1, h2, h3⟩ := hR.obj n _ hg
    have hlk : ((cs.toList.drop off).take k).length = k := by rw [List.length_take, List.length_drop]; omega
    have cut : ∀ (x : List Value) (j : Nat) (v : Value), ((x.drop off).take k)[j]? = some v → x[off + j]? = some v := by
      intro x j v hv
      have hj : j < k := by
        rcases Nat.lt_or_ge j k with h | h
        · exact h
        · rw [List.getElem?_eq_none (by rw [List.length_take]; omega)] at hv; cases hv
      rw [List.getElem?_take_of_lt hj, List.getElem?_drop] at hv
      exact hv
    refine ⟨(cs.toList.drop off).take k, LR.of_get (by rw [hlk]; exact hlen) (fun i v v' hv hv' => ?_), hlk, fun j v hv => ?_, by rw [hR.n]; exact hR.lt _ _ hg⟩
    · exact h3 _ v v' (cut _ _ _ hv) (cut _ _ _ hv') (ones_get ho hv)
    · have := cut _ _ _ hv
      simp [World.cell?, h1]
      simpa using this

theorem loadCells_run {b off : Nat} {l : List Value} (h : ∀ (j : Nat) v, l[j]? = some v → w.cell? ⟨b, off + j, none⟩ = some v) :
    (loadCells ⟨b, off, none⟩ l.length).run P w = .ok l.toArray w :=
  run_loadCells_list (P := P) w ⟨b, off, none⟩ l (fun j v hv => by rw [Addr.add_lit]; exact h j v hv)

theorem putRow_spec {n off : Nat} {vs : List Value} {S' : St} (h : putRow S n off vs = some S') :
    ∃ c e g s, S.base ≤ n ∧ S.get n = some (.cells c e g s) ∧ off + vs.length ≤ c.length ∧ ones vs = true ∧ S' = S.set n (some (.cells (putL c off vs) e g s)) := by
  unfold putRow at h
  split at h
  · cases h
  · rename_i hb
    split at h
    · rename_i c e g s hg
      split at h
      · rename_i hc; injection h with h; exact ⟨c, e, g, s, by omega, hg, hc.1, hc.2, h.symm⟩
      · cases h
    · cases h

/-- The cells of a row may be written. -/
theorem row_cell (hR : Rel lo μ S w) {n : Nat} {c : List Value} {e : TypeId} {g : Nat} {s : Bool} (hn : S.get n = some (.cells c e g s)) {i : Nat} (hi : i < c.length) : (w.cell? ⟨μ.blk n, i, none⟩).isSome = true := by
  obtain ⟨c', h1, h2⟩ := hR.cells hn
  have hi' : i < c'.length := h1.1 ▸ hi
  rw [h2 i c'[i] (by simp [hi'])]
  rfl

theorem putRow_run (hR : Rel lo μ S w) {n off : Nat} {vs vs' : List Value} {S' : St} (h : putRow S n off vs = some S') (hv : LR μ vs vs') :
    n < μ.n ∧ (∀ j, j < vs'.length → (w.cell? ⟨μ.blk n, off + j, none⟩).isSome = true) ∧ (∀ j, j < vs'.length → w.frozen? ⟨μ.blk n, off + j, none⟩ = false) ∧ (∀ v ∈ vs', v.oneCell' = true) ∧
      Post lo μ w S' μ (w.setCells (μ.blk n) off vs') := by
  obtain ⟨c, e, g, s, hb, hg, hl, ho, rfl⟩ := putRow_spec h
  have h1 : ∀ j, j < vs'.length → (w.cell? ⟨μ.blk n, off + j, none⟩).isSome = true := fun j hj => row_cell hR hg (by rw [← hv.1] at hj; omega)
  exact ⟨by rw [hR.n]; exact hR.lt _ _ hg, h1, fun j hj => hR.wr n _ hb hg _ (h1 j hj), ones_spec (hv.ones ho), hR.store hg hb hv hl⟩

theorem storeCells_run {b off : Nat} {vs : List Value} (h1 : ∀ j, j < vs.length → (w.cell? ⟨b, off + j, none⟩).isSome = true) (h2 : ∀ j, j < vs.length → w.frozen? ⟨b, off + j, none⟩ = false) (h3 : ∀ v ∈ vs, v.oneCell' = true) :
    (storeCells ⟨b, off, none⟩ vs).run P w = .ok () (w.setCells b off vs) := by
  have := run_storeCells_cells (P := P) b off vs 0 w (by simpa using h1) (by simpa using h2) h3
  simpa using this

/-! ## Loads and stores -/

theorem loadV_ok (hR : Rel lo μ S w) {t : TypeId} {a a' v : Value} (ha : VR μ a a') (h : loadV P t a S = some v) : ∃ v', (Instr.loadAt t a').run P w = .ok v' w ∧ VR μ v v' := by
  unfold loadV at h
  split at h
  · rename_i n off
    cases ha with
    | ptr _ _ hn =>
      split at h
      · rename_i k hagg hsz
        cases hr : rowAt S n off k with
        | none => simp [hr] at h
        | some l =>
          simp [hr] at h
          subst h
          obtain ⟨l', h1, h2, h3, _⟩ := rowAt_mem hR hr
          refine ⟨.agg l'.toArray, ?_, LR.to_agg (by simpa using h1)⟩
          have := loadCells_run (P := P) (b := μ.blk n) (off := off) h3
          rw [h2] at this
          simp [Instr.loadAt, Instr.sureAddr, loadVar, aggO_run hagg, sizeO_run hsz, this]
      · rename_i k hagg hsz
        cases hr : rowAt S n off 1 with
        | none => simp [hr] at h
        | some l =>
          simp [hr] at h
          obtain ⟨l', h1, h2, h3, _⟩ := rowAt_mem hR hr
          cases l with
          | nil => simp at h
          | cons x l =>
            obtain ⟨y, b', rfl, hx, ht⟩ := h1.cases_cons
            simp at h
            subst h
            refine ⟨y, ?_, hx⟩
            have := h3 0 y (by simp)
            simp at this
            simp [Instr.loadAt, Instr.sureAddr, loadVar, aggO_run hagg, this]
      · cases h
  · cases h

theorem storeV_ok (hR : Rel lo μ S w) {t : TypeId} {a a' v v' : Value} {S' : St} (ha : VR μ a a') (hv : VR μ v v') (h : storeV P t a v S = some S') :
    ∃ w', (Instr.storeAt t a' v').run P w = .ok () w' ∧ Post lo μ w S' μ w' := by
  unfold storeV at h
  split at h
  · rename_i n off
    cases ha with
    | ptr _ _ hn =>
      split at h
      · rename_i hsz
        obtain ⟨_, h1, h2, h3, hp⟩ := putRow_run hR h hv.cells
        have hs : v.cells.size = v'.cells.size := by simpa using hv.cells.1
        refine ⟨_, ?_, hp⟩
        have := storeCells_run (P := P) h1 h2 h3
        rw [hs] at hsz
        simp [Instr.storeAt, Instr.sureAddr, storeVar, sizeO_run hsz, this]
      · cases h
  · cases h

/-! ## New memory -/

theorem take_self {α : Type} (l : List α) (n : Nat) (h : n = l.length) : l.take n = l := by subst h; simp

theorem newRowV_ok (hR : Rel lo μ S w) {t : TypeId} {vs vs' : List Value} (hv : LR μ vs vs') :
    VR (μ.ext w.heap.size 0 0) (newRowV S t vs).1 (.pointer (some ⟨w.heap.size, 0, none⟩)) ∧
      Post lo μ w (newRowV S t vs).2 (μ.ext w.heap.size 0 0) (w.alloc (.cells vs'.toArray t)) := by
  have hp := hR.alloc_cells vs t 0 vs'.toArray 0 (by rw [take_self _ _ (by simpa using hv.1)]; simpa using hv) (by simp [hv.1]) (fun _ => by simp [hv.1]) (fun h => absurd rfl h)
  refine ⟨?_, hp⟩
  have := VR.ptr (μ := μ.ext w.heap.size 0 0) μ.n 0 (by simp)
  rw [Mu.ext_blk] at this
  simpa [newRowV, hR.n] using this

theorem newVar_run (t : TypeId) (v : Value) : (newVar t v).run P w = .ok ⟨w.heap.size, 0, none⟩ (w.alloc (.cells v.cells t)) := by
  simp [newVar, newRow]

/-! ## Aggregates -/

theorem fold_put (off : Nat) : ∀ (vs : List Value) (k : Nat) (cs : Array Value), off + k + vs.length ≤ cs.size →
    ((vs.zipIdx k).foldl (fun (cs : Array Value) (p : Value × Nat) => cs.setIfInBounds (off + p.2) p.1) cs).toList = putL cs.toList (off + k) vs
  | [], k, cs, h => by simp [putL]
  | v :: r, k, cs, h => by
    rw [List.zipIdx_cons, List.foldl_cons, fold_put off r (k + 1) _ (by simp at h ⊢; omega)]
    simp at h
    apply List.ext_getElem?
    intro i
    rw [putL_get _ _ _ (by simp; omega), putL_get _ _ _ (by simp; omega)]
    simp only [Array.toList_setIfInBounds, List.length_cons]
    by_cases e1 : off + (k + 1) ≤ i ∧ i < off + (k + 1) + r.length
    · rw [if_pos e1, if_pos (by omega), show i - (off + k) = (i - (off + (k + 1))) + 1 by omega]
      simp
    · rw [if_neg e1]
      by_cases e2 : i = off + k
      · subst e2
        rw [if_pos (by omega)]
        have hlt : off + k < cs.size := by omega
        simp [hlt]
      · rw [if_neg (by omega), List.getElem?_set_ne (Ne.symm e2)]

theorem fillL_ok {place : Nat → Option (Nat × Nat)} : ∀ (ps ps' : List (Nat × Value)) (c : List Value) (cs : Array Value) (r : List Value), LR μ c cs.toList → ps.length = ps'.length →
    (∀ (i : Nat) (x y : Nat × Value), ps[i]? = some x → ps'[i]? = some y → x.1 = y.1 ∧ VR μ x.2 y.2) → fillL place c ps = some r → ∃ r' : Array Value, Instr.fill place cs ps' = some r' ∧ LR μ r r'.toList
  | [], ps', c, cs, r, hc, hl, _, h => by
    have : ps' = [] := List.eq_nil_of_length_eq_zero (by simpa using hl.symm)
    subst this
    simp [fillL] at h
    subst h
    exact ⟨cs, rfl, hc⟩
  | (i, v) :: rest, [], c, cs, r, hc, hl, _, h => by simp at hl
  | (i, v) :: rest, (j, v') :: rest', c, cs, r, hc, hl, hp, h => by
    obtain ⟨e1, hv⟩ := hp 0 (i, v) (j, v') (by simp) (by simp)
    simp at e1 hv
    subst e1
    simp only [fillL] at h
    cases hpl : place i with
    | none => simp [hpl] at h
    | some os =>
      obtain ⟨off, size⟩ := os
      simp only [hpl] at h
      split at h
      · rename_i hc1
        have hvs := hv.cells
        have hsz : v'.cells.size = size := by have := hvs.1; simp at this; omega
        have hcs : c.length = cs.size := by simpa using hc.1
        have hfold := fold_put off v'.cells.toList 0 cs (by simp; omega)
        obtain ⟨r', h1, h2⟩ := fillL_ok rest rest' _ (v'.cells.zipIdx.foldl (fun (cs : Array Value) (p : Value × Nat) => cs.setIfInBounds (off + p.2) p.1) cs) r (by
            have : (v'.cells.zipIdx.foldl (fun (cs : Array Value) (p : Value × Nat) => cs.setIfInBounds (off + p.2) p.1) cs).toList = putL cs.toList off v'.cells.toList := by
              rw [← Array.foldl_toList, Array.toList_zipIdx]
              simpa using hfold
            rw [this]
            exact hc.putL hvs off) (by simpa using hl) (fun k x y hx hy => hp (k + 1) x y (by simpa using hx) (by simpa using hy)) h
        refine ⟨r', ?_, h2⟩
        have hg : (decide (v'.cells.size ≠ size) || decide (off + v'.cells.size > cs.size)) = false := by
          rw [Bool.or_eq_false_iff]
          refine ⟨by simp [hsz], ?_⟩
          rw [decide_eq_false_iff_not]
          omega
        simp only [Instr.fill, hpl, hg, Bool.false_eq_true, if_false]
        exact h1
      · cases h

theorem rel_parts {ρ ρ' : Operand → Value} {ps : List (Nat × Operand)} (hρ : ∀ x ∈ ps.map (·.2), VR μ (ρ x) (ρ' x)) :
    ∀ (i : Nat) (x y : Nat × Value), (ps.map fun p => (p.1, ρ p.2))[i]? = some x → (ps.map fun p => (p.1, ρ' p.2))[i]? = some y → x.1 = y.1 ∧ VR μ x.2 y.2 := by
  intro i x y hx hy
  simp only [List.getElem?_map, Option.map_eq_some_iff] at hx hy
  obtain ⟨p, hp, rfl⟩ := hx
  obtain ⟨q, hq, rfl⟩ := hy
  rw [hp] at hq; injection hq with hq; subst hq
  exact ⟨rfl, hρ _ (List.mem_map.2 ⟨p, List.mem_of_getElem? hp, rfl⟩)⟩

theorem build_ok {t : TypeId} {ps ps' : List (Nat × Value)} {v : Value} (hl : ps.length = ps'.length)
    (hp : ∀ (i : Nat) (x y : Nat × Value), ps[i]? = some x → ps'[i]? = some y → x.1 = y.1 ∧ VR μ x.2 y.2) (h : buildV P t ps = some v) :
    ∃ v', (Instr.build t ps'.toArray).run P w = .ok v' w ∧ VR μ v v' := by
  unfold buildV at h
  split at h
  · rename_i z fields hz hu
    split at h
    · rename_i places hpl
      split at h
      · rename_i haf
        cases hf : fillL (fun i => places[i]?) z.cells.toList ps with
        | none => simp [hf] at h
        | some r =>
          simp [hf] at h
          subst h
          obtain ⟨r', h1, h2⟩ := fillL_ok (μ := μ) ps ps' _ z.cells r (afs_refl μ haf) hl hp hf
          have hrun := runPure_run hpl w
          refine ⟨.agg r', ?_, LR.to_agg (by simpa using h2)⟩
          have h1' : Instr.fill (fun i => places[i]?) z.cells ps' = some r' := h1
          unfold Instr.build
          simp only [Sem.run_bind, zeroO_run hz, Result.andThen, underlying_run hu]
          simp only [Sem.run_bind, hrun, Result.andThen]
          simp [h1']
      · cases h
    · cases h
  · rename_i z n elem hz hu
    split at h
    · rename_i size hsz
      split at h
      · rename_i haf
        cases hf : fillL (fun i => some (i * size, size)) z.cells.toList ps with
        | none => simp [hf] at h
        | some r =>
          simp [hf] at h
          subst h
          obtain ⟨r', h1, h2⟩ := fillL_ok (μ := μ) ps ps' _ z.cells r (afs_refl μ haf) hl hp hf
          refine ⟨.agg r', ?_, LR.to_agg (by simpa using h2)⟩
          simp [Instr.build, zeroO_run hz, underlying_run hu, sizeO_run hsz, h1]
      · cases h
    · cases h
  · cases h

theorem replicate_range (z : Array Value) (n : Nat) : ((Array.range (n * z.size)).map (fun i => z[i % z.size]!)).toList = (List.replicate n z.toList).flatten := by
  induction n with
  | zero => simp
  | succ n ih =>
    rw [List.replicate_succ', List.flatten_append, ← ih]
    apply List.ext_getElem?
    intro i
    simp only [Array.toList_map, Array.toList_range, List.flatten_cons, List.flatten_nil, List.append_nil]
    by_cases h1 : i < n * z.size
    · rw [List.getElem?_append_left (by simpa using h1)]
      have h2 : i < (n + 1) * z.size := by rw [Nat.succ_mul]; omega
      simp [h1, h2]
    · rw [List.getElem?_append_right (by simpa using h1)]
      by_cases h2 : i < (n + 1) * z.size
      · have h3 : i - n * z.size < z.size := by rw [Nat.succ_mul] at h2; omega
        have h4 : i % z.size = i - n * z.size := by
          have : i = (i - n * z.size) + n * z.size := by omega
          rw [this, Nat.add_mul_mod_self_right, Nat.mod_eq_of_lt h3]
          omega
        simp [h2, h4, h3]
      · have h3 : ¬ (i - n * z.size < z.size) := by rw [Nat.succ_mul] at h2; omega
        have h5 : (n + 1) * z.size ≤ i := by omega
        simp [h2]
        omega

theorem buildSlice_ok (hR : Rel lo μ S w) {t : TypeId} {len : Nat} {ps ps' : List (Nat × Value)} {v : Value} {S' : St} (hl : ps.length = ps'.length)
    (hp : ∀ (i : Nat) (x y : Nat × Value), ps[i]? = some x → ps'[i]? = some y → x.1 = y.1 ∧ VR μ x.2 y.2) (h : buildSliceV P t len ps S = some (v, S')) :
    ∃ v' μ' w', (Instr.buildSlice t len ps'.toArray).run P w = .ok v' w' ∧ VR μ' v v' ∧ Post lo μ w S' μ' w' := by
  unfold buildSliceV at h
  split at h
  · rename_i elem hu
    split at h
    · rename_i size z hsz hz
      split at h
      · rename_i hc
        obtain ⟨c1, c2, c3, c4⟩ := hc
        cases hf : fillL (fun i => some (i * size, size)) (List.replicate len z.cells.toList).flatten ps with
        | none => simp [hf] at h
        | some r =>
          simp [hf] at h
          obtain ⟨rfl, rfl⟩ := h
          have hrange : ∀ zz : Array Value, (len * size = 0 ∨ zz = z.cells) → ((Array.range (len * size)).map (fun i => zz[i % zz.size]!)).toList = (List.replicate len z.cells.toList).flatten := by
            intro zz hzz
            rcases hzz with h0 | rfl
            · rw [h0]
              have : (List.replicate len z.cells.toList).flatten.length = 0 := by
                simp [c2, h0]
              rw [List.eq_nil_of_length_eq_zero this]; simp
            · rw [← c2]; exact replicate_range _ _
          have key : ∀ zz : Array Value, (len * size = 0 ∨ zz = z.cells) → ∃ r' : Array Value, Instr.fill (fun i => some (i * size, size)) ((Array.range (len * size)).map (fun i => zz[i % zz.size]!)) ps' = some r' ∧ LR μ r r'.toList := fun zz hzz =>
            fillL_ok (μ := μ) ps ps' _ _ r (by
              rw [hrange zz hzz]
              have : afs (List.replicate len z.cells.toList).flatten = true := by
                clear hf hrange c1 c4 hzz
                induction len with
                | zero => rfl
                | succ n ih =>
                  rw [List.replicate_succ, List.flatten_cons]
                  have app : ∀ a b : List Value, afs a = true → afs b = true → afs (a ++ b) = true := by
                    intro a b ha hb
                    induction a with
                    | nil => exact hb
                    | cons x a iha => simp [afs] at ha ⊢; exact ⟨ha.1, iha ha.2⟩
                  exact app _ _ c3 ih
              exact afs_refl μ this) hl hp hf
          have hnew : ∀ r' : Array Value, LR μ r r'.toList → VR (μ.ext w.heap.size 0 0) (.slice (some ⟨S.cnt, 0, none⟩) len len) (.slice (some ⟨w.heap.size, 0, none⟩) len len) ∧
              Post lo μ w (S.push (.cells r elem 0 false)) (μ.ext w.heap.size 0 0) (w.alloc (.cells r' elem)) := by
            intro r' h2
            have := newRowV_ok hR (t := elem) h2
            refine ⟨?_, by simpa [newRowV] using this.2⟩
            have h3 := VR.sl (μ := μ.ext w.heap.size 0 0) μ.n 0 len len (by simp) c4
            rw [Mu.ext_blk] at h3
            simpa [hR.n] using h3
          by_cases h0 : len * size = 0
          · obtain ⟨r', h1, h2⟩ := key #[] (.inl h0)
            obtain ⟨h3, h4⟩ := hnew r' h2
            refine ⟨_, _, _, ?_, h3, h4⟩
            rw [h0] at h1
            simp [Instr.buildSlice, underlying_run hu, sizeO_run hsz, h0, newRow] at h1 ⊢
            simp [h1]
          · obtain ⟨r', h1, h2⟩ := key z.cells (.inr rfl)
            obtain ⟨h3, h4⟩ := hnew r' h2
            refine ⟨_, _, _, ?_, h3, h4⟩
            have c1' : ¬ (2 ^ 24 < len * size) := by omega
            simp [Instr.buildSlice, underlying_run hu, sizeO_run hsz, h0, zeroO_run hz, newRow] at h1 ⊢
            simp [h1]
            omega
      · cases h
    · cases h
  · cases h

end
end Go.AM
