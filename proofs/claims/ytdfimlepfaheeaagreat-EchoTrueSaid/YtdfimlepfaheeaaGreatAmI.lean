/- AmI: each operation of the abstract machine is sound, all of them in one word. -/
import Derived.Test.YtdfimlepfaheeaaGreatAmH
set_option linter.unusedVariables false
set_option linter.unusedSimpArgs false
namespace Go.AM
open Go.RowKit (Below)
section
variable {P : Program} {lo : Nat} {μ : Mu} {S : St} {w : World} {ρ ρ' : Operand → Value}

theorem fallback_ok (hR : Rel lo μ S w) {o : Oper} (hs : ∀ cs b, o.op ≠ .select cs b) (hρ : ∀ x ∈ o.op.operands, VR μ (ρ x) (ρ' x)) {v : Value} {S' : St} (h : fallback P ρ o S = some (v, S')) :
    Out P lo μ w (execOp ρ' o) v S' := by
  unfold fallback at h
  split at h
  · rename_i hall
    have he : execOp ρ' o = execOp ρ o := execOp_congr o hs fun x hx => by
      have : af (ρ x) = true := List.all_eq_true.1 hall x (by simpa using hx)
      exact af_eq (hρ x hx) this
    split at h
    · rename_i u hr
      split at h
      · rename_i haf
        injection h with h
        injection h with h1 h2
        subst h1; subst h2
        refine ⟨.value u, u, μ, w, ?_, .inl rfl, af_refl μ haf, Post.refl hR⟩
        rw [he]; exact runPure_run hr w
      · cases h
    · cases h
  · cases h

theorem eqGuard_ok {op : BinOp} {t : TypeId} {ox oy : Operand} {x x' y y' : Value} {b : Bool} (hx : VR μ x x') (hy : VR μ y y') (h : eqV P t x y S = some b) (w : World) : (eqGuard op t ox oy x' y').run P w = .ok () w := by
  have key : (∀ e : x' = .nilIface, y' ≠ .nilIface) → (∀ a, x' ≠ .agg a) → (eqGuard op t ox oy x' y').run P w = .ok () w := by
    intro h1 h2
    unfold eqGuard
    cases op <;> simp <;> (split <;> first | rfl | (exact absurd rfl (h1 rfl)) | (exact absurd rfl (h2 _)))
  unfold eqV at h
  split at h <;> first
    | (cases h; done)
    | (cases hx <;> cases hy <;> exact key (by simp) (by simp))

theorem rel_args {a : Array Operand} (h : ∀ x ∈ a, VR μ (ρ x) (ρ' x)) : LR μ (a.map ρ).toList (a.map ρ').toList := by
  rw [Array.toList_map, Array.toList_map]
  exact LR.map_mem _ _ _ (fun x hx => h x (by simpa using hx))

theorem func_VR {fn : Fn} {a a' b b' : Array Value} (ha : LR μ a.toList a'.toList) (hb : LR μ b.toList b'.toList) : VR μ (.func fn a b) (.func fn a' b') :=
  .func fn a a' b b' (by simpa using ha.1) (by simpa using hb.1) (fun i hi => by simpa [List.getD, Array.getD_eq_getD_getElem?] using ha.2 i (by simpa using hi))
    (fun i hi => by simpa [List.getD, Array.getD_eq_getD_getElem?] using hb.2 i (by simpa using hi))

theorem opt_rel {x : Option Operand} (h : ∀ y, x = some y → VR μ (ρ y) (ρ' y)) :
    (x.map ρ = none ∧ x.map ρ' = none) ∨ ∃ v v', x.map ρ = some v ∧ x.map ρ' = some v' ∧ VR μ v v' := by
  cases x with
  | none => exact .inl ⟨rfl, rfl⟩
  | some y => exact .inr ⟨_, _, rfl, rfl, h y rfl⟩

theorem builtin_value {b : Builtin} {dst : Option Tmp} {args : Array Operand} {ts : Array TypeId} {ty : TypeId} {pos : String} {after : Array Edge} {g : Option (Nat × Bool)} {s : Sem Value}
    (hb : builtin b ts ty (args.map fun | .const _ => true | _ => false) (args.map ρ') = (do pure (.value (← s)))) :
    execOp ρ' { dst := dst, op := .call { callee := .builtin b, args := args, argTypes := ts }, type := ty, pos := pos, after := after, guard := g } = (do pure (.value (← s))) := by
  simp only [execOp, resolve]
  show (Sem.bind (Sem.pure _) _) = _
  simp only [Sem.bind, invoke]
  exact hb

theorem builtinS_ok (hR : Rel lo μ S w) {o : Oper} {b : Builtin} {ts : Array TypeId} {args : Array Operand} (ho : o.op = .call { callee := .builtin b, args := args, argTypes := ts }) (hρ : ∀ x ∈ o.op.operands, VR μ (ρ x) (ρ' x)) {v : Value} {S' : St}
    (h : builtinS P ρ o b ts args S = some (v, S')) : Out P lo μ w (execOp ρ' o) v S' := by
  have hfall : ∀ {v S'}, fallback P ρ o S = some (v, S') → Out P lo μ w (execOp ρ' o) v S' := fun h => fallback_ok hR (by rw [ho]; simp) hρ h
  obtain ⟨dst, op, ty, pos, after, g⟩ := o
  simp only at ho
  subst ho
  have hargs : ∀ x ∈ args, VR μ (ρ x) (ρ' x) := fun x hx => hρ x (by simp [Op.operands, Call.operands, hx])
  have two : ∀ {x y : Operand}, args.toList = [x, y] → args = #[x, y] := fun e => Array.ext' e
  have one : ∀ {x : Operand}, args.toList = [x] → args = #[x] := fun e => Array.ext' e
  have ttwo : ∀ {x y : TypeId}, ts.toList = [x, y] → ts = #[x, y] := fun e => Array.ext' e
  have tone : ∀ {x : TypeId}, ts.toList = [x] → ts = #[x] := fun e => Array.ext' e
  unfold builtinS at h
  split at h
  · rename_i t tx s x e1 e2
    have e1 := ttwo e1
    have e2 := two e2
    subst e1; subst e2
    obtain ⟨v', μ', w', h1, h2, h3⟩ := append_ok (P := P) (ty := ty) hR (hargs s (by simp)) (hargs x (by simp)) h
    rw [builtin_value (s := Builtin.append_ #[t, tx] ty #[ρ' s, ρ' x]) (by simp [builtin])]
    exact Out.value h1 h2 h3
  · rename_i t tx d x e1 e2
    have e1 := ttwo e1
    have e2 := two e2
    subst e1; subst e2
    obtain ⟨v', w', h1, h2, h3⟩ := copy_ok (P := P) (ty := ty) (tx := tx) hR (hargs d (by simp)) (hargs x (by simp)) h
    rw [builtin_value (s := Builtin.copy_ #[t, tx] ty #[ρ' d, ρ' x]) (by simp [builtin])]
    exact Out.value h1 h2 h3
  · rename_i t x e1 e2
    have e1 := tone e1
    have e2 := one e2
    subst e1; subst e2
    have hx := hargs x (by simp)
    split at h
    · rename_i e a n c hu hv
      injection h with h
      injection h with h1 h2
      subst h1; subst h2
      rw [builtin_value (s := Builtin.len_ #[t] ty #[ρ' x]) (by simp [builtin])]
      rw [hv] at hx
      refine Out.value (v' := goInt n) ?_ (VR.int _ _) (Post.refl hR)
      generalize ρ' x = y at hx ⊢
      cases hx <;> simp [Builtin.len_, underlying_run hu]
    · rename_i k e r hu hv
      split at h
      · rename_i es clock hg
        injection h with h
        injection h with h1 h2
        subst h1; subst h2
        obtain ⟨es', g1, g2, g3⟩ := getMap (P := P) hR hg
        rw [builtin_value (s := Builtin.len_ #[t] ty #[ρ' x]) (by simp [builtin])]
        rw [hv] at hx
        have hl : es.length = es'.size := by simpa using g2.1
        refine Out.value (v' := goInt es.length) ?_ (VR.int _ _) (Post.refl hR)
        generalize ρ' x = y at hx ⊢
        cases hx
        simp [Builtin.len_, underlying_run hu, g3, hl]
      · cases h
    · exact hfall h
  · rename_i t x e1 e2
    have e1 := tone e1
    have e2 := one e2
    subst e1; subst e2
    have hx := hargs x (by simp)
    split at h
    · rename_i e a l n hu hv
      split at h
      · cases h
      · rename_i hn
        injection h with h
        injection h with h1 h2
        subst h1; subst h2
        rw [builtin_value (s := Builtin.cap_ #[t] ty #[ρ' x]) (by simp [builtin])]
        rw [hv] at hx
        refine Out.value (v' := goInt n) ?_ (VR.int _ _) (Post.refl hR)
        generalize ρ' x = y at hx ⊢
        cases hx <;> first | (exact absurd rfl hn) | simp [Builtin.cap_, underlying_run hu]
    · cases h
  · rename_i t tk m k e1 e2
    have e1 := ttwo e1
    have e2 := two e2
    subst e1; subst e2
    cases hd : deleteV P t (ρ m) (ρ k) S with
    | none => simp [hd] at h
    | some S2 =>
      simp [hd] at h
      obtain ⟨rfl, rfl⟩ := h
      obtain ⟨w', h1, h2⟩ := deleteV_ok (P := P) (ty := ty) (tk := tk) hR (hargs m (by simp)) (hargs k (by simp)) hd
      rw [builtin_value (s := Builtin.delete_ #[t, tk] ty #[ρ' m, ρ' k]) (by simp [builtin])]
      exact Out.value h1 (LR.to_tuple (LR.nil μ)) h2
  · exact hfall h

theorem parts_array (ps : Array (Nat × Operand)) (ρ : Operand → Value) : (ps.toList.map fun p => (p.1, ρ p.2)).toArray = ps.map fun (i, x) => (i, ρ x) := by
  apply Array.ext'
  simp

theorem execOp_buildSlice (dst : Option Tmp) (t : TypeId) (n : Nat) (ps : Array (Nat × Operand)) (ty : TypeId) (pos : String) (after : Array Edge) (g : Option (Nat × Bool)) :
    execOp ρ' ⟨dst, .buildSlice t n ps, ty, pos, after, g⟩ = (do pure (.value (← Instr.buildSlice t n (ps.map fun (i, x) => (i, ρ' x))))) := rfl

theorem buildSliceOp_ok (hR : Rel lo μ S w) {dst : Option Tmp} {t : TypeId} {n : Nat} {ps : Array (Nat × Operand)} {ty : TypeId} {pos : String} {after : Array Edge} {g : Option (Nat × Bool)}
    (hρ : ∀ x ∈ ps.toList.map (·.2), VR μ (ρ x) (ρ' x)) {v : Value} {S' : St} (h : buildSliceV P t n (ps.toList.map fun (i, x) => (i, ρ x)) S = some (v, S')) :
    Out P lo μ w (execOp ρ' ⟨dst, .buildSlice t n ps, ty, pos, after, g⟩) v S' := by
  obtain ⟨v', μ', w', h2, h3, h4⟩ := buildSlice_ok (P := P) hR (ps' := ps.toList.map fun p => (p.1, ρ' p.2)) (by simp) (rel_parts (ρ := ρ) (ρ' := ρ') hρ) h
  rw [parts_array] at h2
  rw [execOp_buildSlice]
  exact Out.value h2 h3 h4

set_option maxHeartbeats 1000000 in
theorem opS_ok (hR : Rel lo μ S w) {o : Oper} (hρ : ∀ x ∈ o.op.operands, VR μ (ρ x) (ρ' x)) {v : Value} {S' : St} (h : opS P ρ o S = some (v, S')) :
    Out P lo μ w (execOp ρ' o) v S' := by
  have hfall : (∀ cs b, o.op ≠ .select cs b) → ∀ {v S'}, fallback P ρ o S = some (v, S') → Out P lo μ w (execOp ρ' o) v S' := fun hs _ _ h => fallback_ok hR hs hρ h
  have hbuilt : ∀ b ts args, o.op = .call { callee := .builtin b, args := args, argTypes := ts } → builtinS P ρ o b ts args S = some (v, S') → Out P lo μ w (execOp ρ' o) v S' :=
    fun b ts args ho h => builtinS_ok hR ho hρ h
  obtain ⟨dst, op, ty, pos, after, g⟩ := o
  -- a value out of what was there
  have some1 : ∀ {x : Option Value}, (x.map fun v => (v, S)) = some (v, S') → x = some v ∧ S' = S := by
    intro x hx
    cases x with
    | none => cases hx
    | some y => injection hx with hx; injection hx with h1 h2; exact ⟨by rw [h1], h2.symm⟩
  unfold opS at h
  cases op with
  | move x =>
    simp only at h
    injection h with h; injection h with h1 h2; subst h1; subst h2
    exact Out.pure hR (hρ x (by simp [Op.operands]))
  | assign x =>
    simp only at h
    injection h with h; injection h with h1 h2; subst h1; subst h2
    exact Out.pure hR (hρ x (by simp [Op.operands]))
  | pick c a b =>
    simp only at h
    split at h
    · rename_i t hc
      injection h with h; injection h with h1 h2; subst h1; subst h2
      have hc' := hρ c (by simp [Op.operands])
      rw [hc] at hc'
      refine ⟨.value (if t then ρ' a else ρ' b), _, μ, w, ?_, .inl rfl, ?_, Post.refl hR⟩
      · generalize hy : ρ' c = y at hc'
        cases hc'
        simp [execOp, hy, asBool]
      · split
        · exact hρ a (by simp [Op.operands])
        · exact hρ b (by simp [Op.operands])
    · cases h
  | alloc t =>
    simp only at h
    split at h
    · rename_i z hz
      split at h
      · rename_i hza
        injection h with h
        obtain ⟨h1, h2⟩ := newRowV_ok hR (t := t) (afs_refl μ hza)
        have e1 : (newRowV S t z.cells.toList).1 = v := by rw [h]
        have e2 : (newRowV S t z.cells.toList).2 = S' := by rw [h]
        rw [e1] at h1; rw [e2] at h2
        exact Out.value (w' := w.alloc (.cells z.cells t)) (by simp [Instr.alloc, zeroO_run hz, newVar_run]) h1 (by simpa using h2)
      · cases h
    · cases h
  | box t x =>
    simp only at h
    split at h
    · rename_i ho
      injection h with h
      obtain ⟨h1, h2⟩ := newRowV_ok hR (t := t) (hρ x (by simp [Op.operands])).cells
      have e1 : (newRowV S t (ρ x).cells.toList).1 = v := by rw [h]
      have e2 : (newRowV S t (ρ x).cells.toList).2 = S' := by rw [h]
      rw [e1] at h1; rw [e2] at h2
      exact Out.value (w' := w.alloc (.cells (ρ' x).cells t)) (by simp [Instr.box, newVar_run]) h1 (by simpa using h2)
    · cases h
  | build t ps =>
    simp only at h
    obtain ⟨h1, rfl⟩ := some1 h
    obtain ⟨v', h2, h3⟩ := build_ok (P := P) (w := w) (μ := μ) (ps' := ps.toList.map fun p => (p.1, ρ' p.2)) (by simp) (rel_parts (ρ := ρ) (ρ' := ρ') (fun x hx => hρ x (by simpa [Op.operands] using hx))) h1
    rw [parts_array] at h2
    exact Out.value (s := Instr.build t (ps.map fun (i, x) => (i, ρ' x))) h2 h3 (Post.refl hR)
  | buildSlice t n ps => exact buildSliceOp_ok hR (fun x hx => hρ x (by simpa [Op.operands] using hx)) h
  | load t a =>
    simp only at h
    obtain ⟨h1, rfl⟩ := some1 h
    obtain ⟨v', h2, h3⟩ := loadV_ok (P := P) hR (hρ a (by simp [Op.operands])) h1
    exact Out.value h2 h3 (Post.refl hR)
  | store t a x =>
    simp only at h
    cases hs : storeV P t (ρ a) (ρ x) S with
    | none => simp [hs] at h
    | some S2 =>
      simp [hs] at h
      obtain ⟨rfl, rfl⟩ := h
      obtain ⟨w', h1, h2⟩ := storeV_ok (P := P) hR (hρ a (by simp [Op.operands])) (hρ x (by simp [Op.operands])) hs
      exact Out.unit h1 h2
  | nilCheck x =>
    simp only at h
    have hx := hρ x (by simp [Op.operands])
    split at h
    · rename_i a hv
      injection h with h; injection h with h1 h2; subst h1; subst h2
      rw [hv] at hx
      generalize hy : ρ' x = y at hx
      cases hx with
      | ptr n off hn =>
        refine ⟨.value (.pointer (some ⟨μ.blk n, off, none⟩)), _, μ, w, ?_, .inl rfl, VR.ptr n off hn, Post.refl hR⟩
        simp [execOp, hy]
    · rename_i f a b hv
      injection h with h; injection h with h1 h2; subst h1; subst h2
      rw [hv] at hx
      generalize hy : ρ' x = y at hx
      cases hx with
      | func fn a a' b b' ha hb ea eb =>
        refine ⟨.value (.func (.func f) a' b'), _, μ, w, ?_, .inl rfl, VR.func _ _ _ _ _ ha hb ea eb, Post.refl hR⟩
        simp [execOp, hy]
    · cases h
  | binOp op t x y yt =>
    simp only at h
    split at h
    · exact hfall (by simp) h
    · have hx := hρ x (by simp [Op.operands])
      have hy := hρ y (by simp [Op.operands])
      have fin : ∀ b, eqV P t (ρ x) (ρ y) S = some b → (op = .eql ∨ op = .neq) → (do eqGuard op t x y (ρ' x) (ρ' y); binOp op t (ρ' x) (ρ' y) : Sem Value).run P w = .ok (.bool (if op = .eql then b else !b)) w := by
        intro b hb hop
        have h1 := eqGuard_ok (op := op) (ox := x) (oy := y) hx hy hb w
        have h2 := equal_ok (P := P) hR hx hy hb
        have h3 : ∀ op, (op = BinOp.eql ∨ op = BinOp.neq) → binOp op t (ρ' x) (ρ' y) = (if op = .eql then (do pure (.bool (← Op.equal t (ρ' x) (ρ' y)))) else (do pure (.bool (!(← Op.equal t (ρ' x) (ρ' y)))))) := by
          intro op hop
          unfold eqV at hb
          generalize hxv : ρ x = xv at hx hb
          generalize hyv : ρ y = yv at hy hb
          generalize ρ' x = xv' at hx
          generalize ρ' y = yv' at hy
          split at hb <;> first
            | (cases hb; done)
            | (cases hx <;> cases hy <;> rcases hop with rfl | rfl <;> simp [binOp])
        simp only [Sem.run_bind, h1, Result.andThen, h3 op hop]
        rcases hop with rfl | rfl <;> simp [h2]
      cases op <;> simp only at h <;> try cases h
      · cases hb : eqV P t (ρ x) (ρ y) S with
        | none => simp [hb] at h
        | some b =>
          simp [hb] at h
          obtain ⟨rfl, rfl⟩ := h
          exact Out.value (by simpa using fin b hb (.inl rfl)) (VR.bool _) (Post.refl hR)
      · cases hb : eqV P t (ρ x) (ρ y) S with
        | none => simp [hb] at h
        | some b =>
          simp [hb] at h
          obtain ⟨rfl, rfl⟩ := h
          exact Out.value (by simpa using fin b hb (.inr rfl)) (VR.bool _) (Post.refl hR)
  | makeFunc fn a b =>
    simp only at h
    injection h with h; injection h with h1 h2; subst h1; subst h2
    refine Out.value (s := Instr.makeFunc fn (a.map ρ') (b.map ρ')) (v' := .func fn (a.map ρ') (b.map ρ')) rfl ?_ (Post.refl hR)
    exact func_VR (rel_args fun x hx => hρ x (by simp [Op.operands, hx])) (rel_args fun x hx => hρ x (by simp [Op.operands, hx]))
  | makeMap t r =>
    cases r with
    | some r => simp at h
    | none =>
      simp only at h
      injection h with h; injection h with h1 h2; subst h1; subst h2
      have hp := hR.alloc (.map [] 0) (.map #[] 0) 0 0 ⟨#[], by rw [Mu.ext_blk]; exact heap_alloc_new _ _, ER.nil⟩ (by
        intro off hc
        have : (w.alloc (.map #[] 0)).heap[w.heap.size]? = some (.map #[] 0) := heap_alloc_new _ _
        simp only [World.frozen?, this])
      refine Out.value (s := Instr.makeMap t none) (v' := .map (some w.heap.size)) (by simp [Instr.makeMap]) ?_ hp
      have := VR.map (μ := μ.ext w.heap.size 0 0) μ.n (by simp)
      rw [Mu.ext_blk, hR.n] at this
      exact this
  | makeSlice t l c =>
    simp only at h
    obtain ⟨v', μ', w', h1, h2, h3⟩ := makeSlice_ok (P := P) hR (hρ l (by simp [Op.operands])) (hρ c (by simp [Op.operands])) h
    exact Out.value h1 h2 h3
  | slice t x lo' hi mx =>
    simp only at h
    split at h
    · exact hfall (by simp) h
    · obtain ⟨h1, rfl⟩ := some1 h
      obtain ⟨v', h2, h3⟩ := slice_ok (P := P) hR (hρ x (by simp [Op.operands])) (opt_rel fun y e => hρ y (by simp [Op.operands, e])) (opt_rel fun y e => hρ y (by simp [Op.operands, e])) (opt_rel fun y e => hρ y (by simp [Op.operands, e])) h1
      exact Out.value h2 h3 (Post.refl hR)
  | fieldAddr t x i =>
    simp only at h
    obtain ⟨h1, rfl⟩ := some1 h
    obtain ⟨v', h2, h3⟩ := fieldAt_ok (P := P) (w := w) (hρ x (by simp [Op.operands])) h1
    exact Out.value h2 h3 (Post.refl hR)
  | field t x i =>
    simp only at h
    obtain ⟨h1, rfl⟩ := some1 h
    obtain ⟨v', h2, h3⟩ := field_ok (P := P) (w := w) (hρ x (by simp [Op.operands])) h1
    exact Out.value h2 h3 (Post.refl hR)
  | indexAddr t x i =>
    simp only at h
    obtain ⟨h1, rfl⟩ := some1 h
    obtain ⟨v', h2, h3⟩ := indexAt_ok (P := P) (w := w) (hρ x (by simp [Op.operands])) (hρ i (by simp [Op.operands])) h1
    exact Out.value h2 h3 (Post.refl hR)
  | index t x i =>
    simp only at h
    split at h
    · exact hfall (by simp) h
    · obtain ⟨h1, rfl⟩ := some1 h
      obtain ⟨v', h2, h3⟩ := index_ok (P := P) (w := w) (hρ x (by simp [Op.operands])) (hρ i (by simp [Op.operands])) h1
      exact Out.value h2 h3 (Post.refl hR)
  | lookup t m k ok =>
    simp only at h
    obtain ⟨h1, rfl⟩ := some1 h
    obtain ⟨v', h2, h3⟩ := lookupV_ok (P := P) hR (hρ m (by simp [Op.operands])) (hρ k (by simp [Op.operands])) h1
    exact Out.value h2 h3 (Post.refl hR)
  | mapUpdate t m k x =>
    simp only at h
    cases hs : mapUpdateV P t (ρ m) (ρ k) (ρ x) S with
    | none => simp [hs] at h
    | some S2 =>
      simp [hs] at h
      obtain ⟨rfl, rfl⟩ := h
      obtain ⟨w', h1, h2⟩ := mapUpdateV_ok (P := P) hR (hρ m (by simp [Op.operands])) (hρ k (by simp [Op.operands])) (hρ x (by simp [Op.operands])) hs
      exact Out.unit h1 h2
  | extract x i =>
    simp only at h
    have hx := hρ x (by simp [Op.operands])
    split at h
    · rename_i vs hv
      obtain ⟨h1, rfl⟩ := some1 h
      rw [hv] at hx
      obtain ⟨vs', hy, hl⟩ := hx.tuple_inv
      obtain ⟨v', h2, h3⟩ := hl.get (by simpa using h1)
      have h2' : vs'[i]? = some v' := by simpa using h2
      refine Out.value (s := Instr.extract (ρ' x) i) ?_ h3 (Post.refl hR)
      simp [Instr.extract, hy, h2']
    · cases h
  | convert a b x =>
    simp only at h
    cases hc : convertV P a b (ρ x) S with
    | none => simp only [hc] at h; exact hfall (by simp) h
    | some r =>
      simp only [hc] at h
      injection h with h
      subst h
      obtain ⟨v', μ', w', h1, h2, h3⟩ := convert_ok (P := P) hR (hρ x (by simp [Op.operands])) hc
      exact Out.value h1 h2 h3
  | unOp op t x => exact hfall (by simp) h
  | call c =>
    obtain ⟨callee, args, ts⟩ := c
    cases callee with
    | builtin b => exact hbuilt b ts args rfl h
    | value f => simp at h
    | invoke r m => simp at h
  | _ => simp at h

end
end Go.AM
