/- AmH: each operation of the abstract machine is sound: maps; and all of them in one word. -/
import Derived.Test.YtdfimlepfaheeaaGreatAmG
set_option linter.unusedVariables false
set_option linter.unusedSimpArgs false
namespace Go.AM
open Go.RowKit (Below)
section
variable {P : Program} {lo : Nat} {μ : Mu} {S : St} {w : World}

/-! ## Maps -/

theorem ER.tail {x y : MapEntry} {a b : List MapEntry} (h : ER μ (x :: a) (y :: b)) : ER μ a b :=
  ⟨by simpa using h.1, fun i p q hp hq => h.2 (i + 1) p q (by simpa using hp) (by simpa using hq)⟩
theorem ER.head {x y : MapEntry} {a b : List MapEntry} (h : ER μ (x :: a) (y :: b)) : VR μ x.key y.key ∧ VR μ x.val y.val ∧ x.born = y.born := h.2 0 x y rfl rfl
theorem ER.nil : ER μ [] [] := ⟨rfl, fun i x y h => by simp at h⟩

theorem findNow_ok (ik : IntKind) (k : Value) : ∀ (es es' : List MapEntry) (i : Nat) (r : Option (Nat × Value)), ER μ es es' → Instr.findNow (.int ik) k es i = some r →
    (r = none ∧ Instr.findNow (.int ik) k es' i = some none) ∨ ∃ j v v', r = some (j, v) ∧ Instr.findNow (.int ik) k es' i = some (some (j, v')) ∧ VR μ v v' ∧ i ≤ j ∧ j < i + es.length ∧
      ∃ (x y : MapEntry), es[j - i]? = some x ∧ es'[j - i]? = some y ∧ Instr.sameNow (.int ik) k x.key = some true ∧ y.key = x.key
  | [], es', i, r, h, hf => by
    have : es' = [] := List.eq_nil_of_length_eq_zero h.1.symm
    subst this
    simp [Instr.findNow] at hf
    exact .inl ⟨hf.symm, rfl⟩
  | x :: es, [], i, r, h, hf => by have := h.1; simp at this
  | x :: es, y :: es', i, r, h, hf => by
    obtain ⟨hk, hv, _⟩ := h.head
    simp only [Instr.findNow] at hf
    -- a key that is compared is a number
    have same : ∀ b, Instr.sameNow (.int ik) k x.key = some b → y.key = x.key := by
      intro b hb
      cases hxk : x.key <;> rw [hxk] at hb hk <;> cases k <;> simp [Instr.sameNow] at hb
      exact af1_eq hk rfl
    cases hs : Instr.sameNow (.int ik) k x.key with
    | none => simp [hs] at hf
    | some b =>
      have hy := same b hs
      cases b with
      | true =>
        simp [hs] at hf
        subst hf
        refine .inr ⟨i, x.val, y.val, rfl, ?_, hv, Nat.le_refl _, by simp, x, y, by simp, by simp, hs, hy⟩
        simp [Instr.findNow, hy, hs]
      | false =>
        simp [hs] at hf
        rcases findNow_ok ik k es es' (i + 1) r h.tail hf with ⟨rfl, h2⟩ | ⟨j, v, v', rfl, h2, h3, h4, h5, p, q, h6, h7, h8⟩
        · exact .inl ⟨rfl, by simp [Instr.findNow, hy, hs, h2]⟩
        · refine .inr ⟨j, v, v', rfl, by simp [Instr.findNow, hy, hs, h2], h3, by omega, by simp; omega, p, q, ?_, ?_, h8⟩
          · rw [show j - i = (j - (i + 1)) + 1 by omega]; simpa using h6
          · rw [show j - i = (j - (i + 1)) + 1 by omega]; simpa using h7

theorem checkKey_int {kt : TypeId} {ik : IntKind} {k : Value} (hu : P.underlying kt = some (.int ik)) (e : Bool) (d : Nat) : (Instr.checkKey e (d + 1) kt k).run P w = .ok () w := by
  simp [Instr.checkKey, underlying_run hu]

theorem findKey_run {kt : TypeId} {ik : IntKind} {k : Value} {es : List MapEntry} {r : Option (Nat × Value)} (hu : P.underlying kt = some (.int ik)) (h : Instr.findNow (.int ik) k es 0 = some r) :
    (Instr.findKey kt k es).run P w = .ok r w := by
  simp [Instr.findKey, underlying_run hu, h]

theorem getMap (hR : Rel lo μ S w) {n : Nat} {es : List MapEntry} {clock : Nat} (h : S.get n = some (.map es clock)) :
    ∃ es' : Array MapEntry, w.heap[μ.blk n]? = some (.map es' clock) ∧ ER μ es es'.toList ∧ (getObj (μ.blk n)).run P w = .ok (.map es' clock) w := by
  obtain ⟨es', h1, h2⟩ := hR.obj n _ h
  exact ⟨es', h1, h2, by simp [getObj, Sem.run, h1]⟩

theorem lookupV_ok (hR : Rel lo μ S w) {t : TypeId} {m m' k k' v : Value} {ok : Bool} (hm : VR μ m m') (hk : VR μ k k') (h : lookupV P t m k ok S = some v) :
    ∃ v', (Instr.lookup t m' k' ok).run P w = .ok v' w ∧ VR μ v v' := by
  unfold lookupV at h
  split at h
  · rename_i kt e hu
    split at h
    · rename_i ik z hkt hz hka
      have hkk := af1_eq hk hka
      rw [hkk]
      split at h
      · rename_i hza
        have hzv : VR μ z z := by
          by_cases hg : ∃ a, z = .agg a
          · obtain ⟨a, rfl⟩ := hg; exact LR.to_agg (afs_refl μ hza)
          · have := afs_refl μ hza
            cases z <;> first
              | exact absurd ⟨_, rfl⟩ hg
              | exact this.head
        simp only at h
        split at h
        · rename_i es? es hes
          -- what the map has
          have hmap : ∃ es' : Array MapEntry, ER μ es es'.toList ∧ ((m' = .map none ∧ es' = #[]) ∨ ∃ r c, m' = .map (some r) ∧ (getObj r).run P w = .ok (.map es' c) w) := by
            split at hes
            · injection hes with hes
              subst hes
              cases hm
              exact ⟨#[], ER.nil, .inl ⟨rfl, rfl⟩⟩
            · rename_i r
              split at hes
              · rename_i es1 c1 hg
                injection hes with hes
                subst hes
                cases hm with
                | map _ hn =>
                  obtain ⟨es', h1, h2, h3⟩ := getMap (P := P) hR hg
                  exact ⟨es', h2, .inr ⟨_, _, rfl, h3⟩⟩
              · cases hes
            · cases hes
          obtain ⟨es', he, hrun⟩ := hmap
          have fin : ∀ v1 v1' b, VR μ v1 v1' → VR μ (if ok = true then .tuple #[v1, .bool b] else v1) (if ok = true then .tuple #[v1', .bool b] else v1') := by
            intro v1 v1' b hv
            split
            · exact LR.to_tuple (LR.cons hv (LR.cons (.bool b) (LR.nil μ)))
            · exact hv
          split at h
          · rename_i j v1 hf
            injection h with h
            rcases findNow_ok ik k es es'.toList 0 _ he hf with ⟨h0, _⟩ | ⟨j', v2, v2', h1, h2, h3, _⟩
            · cases h0
            · injection h1 with h1
              injection h1 with h4 h5
              subst h4; subst h5
              refine ⟨_, ?_, by rw [← h]; exact fin _ _ true h3⟩
              rcases hrun with ⟨rfl, rfl⟩ | ⟨r, c, rfl, hrun⟩
              · simp only [Instr.lookup, Sem.run_bind, underlying_run hu, Result.andThen]
                simp only [Sem.run_bind, Result.andThen, Sem.run_pure, checkKey_int hkt _ 9999, findKey_run hkt h2]
              · simp only [Instr.lookup, Sem.run_bind, underlying_run hu, Result.andThen]
                simp only [Sem.run_bind, hrun, Result.andThen, checkKey_int hkt _ 9999, findKey_run hkt h2, Sem.run_pure]
          · rename_i hf
            injection h with h
            rcases findNow_ok ik k es es'.toList 0 _ he hf with ⟨_, h2⟩ | ⟨j', v2, v2', h1, _⟩
            · refine ⟨_, ?_, by rw [← h]; exact fin _ _ false hzv⟩
              rcases hrun with ⟨rfl, rfl⟩ | ⟨r, c, rfl, hrun⟩
              · simp only [Instr.lookup, Sem.run_bind, underlying_run hu, Result.andThen]
                simp only [Sem.run_bind, Result.andThen, Sem.run_pure, checkKey_int hkt _ 9999, findKey_run hkt h2, zeroO_run hz]
              · simp only [Instr.lookup, Sem.run_bind, underlying_run hu, Result.andThen]
                simp only [Sem.run_bind, hrun, Result.andThen, checkKey_int hkt _ 9999, findKey_run hkt h2, Sem.run_pure, zeroO_run hz]
            · cases h1
          · cases h
        · cases h
      · cases h
    · cases h
  · cases h

/-- Another object of the same name, where that is no row of cells. -/
theorem Rel.setObj (hR : Rel lo μ S w) {n : Nat} {es : List MapEntry} {clock : Nat} (hg : S.get n = some (.map es clock)) (hb : S.base ≤ n) {es2 : List MapEntry} {es2' : Array MapEntry} {c2 : Nat} (he : ER μ es2 es2'.toList) :
    (Go.setObj (μ.blk n) (.map es2' c2)).run P w = .ok () { w with heap := w.heap.setIfInBounds (μ.blk n) (.map es2' c2) } ∧
      Post lo μ w (S.set n (some (.map es2 c2))) μ { w with heap := w.heap.setIfInBounds (μ.blk n) (.map es2' c2) } := by
  obtain ⟨es', h1, h2⟩ := hR.obj n _ hg
  have hlt := (hR.obj n _ hg).lt
  have hself : ({ w with heap := w.heap.setIfInBounds (μ.blk n) (.map es2' c2) } : World).heap[μ.blk n]? = some (.map es2' c2) := by
    simp [hlt]
  have hoth : ∀ k, k ≠ μ.blk n → ({ w with heap := w.heap.setIfInBounds (μ.blk n) (.map es2' c2) } : World).heap[k]? = w.heap[k]? := fun k hk => by
    simp only [Array.getElem?_setIfInBounds]
    rw [if_neg (Ne.symm hk)]
  have hne : ∀ i o, i ≠ n → S.get i = some o → μ.blk i ≠ μ.blk n := fun i o hi hgi e => hi (hR.inj i n _ _ hgi hg e)
  refine ⟨by simp [Go.setObj, Sem.run, h1], μ.le_refl, ⟨hR.n, hR.bc, by simpa using hR.lw, ?_, ?_, ?_, ?_, ?_⟩, ⟨rfl, rfl, rfl, by simp, fun k hk => hoth k (by have := hR.own n _ hb hg; omega)⟩⟩
  · intro i o hi
    rw [St.get_set _ _ _ _ hb] at hi
    split at hi
    · rename_i e; rw [e]; exact hR.lt n _ hg
    · exact hR.lt i o hi
  · intro i o hi
    rw [St.get_set _ _ _ _ hb] at hi
    split at hi
    · rename_i e
      injection hi with hi
      subst hi; subst e
      exact ⟨es2', hself, he⟩
    · rename_i e
      exact (hR.obj i o hi).congr (hoth _ (hne i o e hi))
  · intro i j oi oj hi hj
    rw [St.get_set _ _ _ _ hb] at hi hj
    split at hi
    · rename_i ei
      split at hj
      · rename_i ej; rw [ei, ej]; simp
      · rw [ei]; exact hR.inj n j _ oj hg hj
    · split at hj
      · rename_i ej; rw [ej]; exact hR.inj i n oi _ hi hg
      · exact hR.inj i j oi oj hi hj
  · intro i o hbi hi
    rw [St.get_set _ _ _ _ hb] at hi
    split at hi
    · rename_i ei; rw [ei]; exact hR.own n _ hb hg
    · exact hR.own i o hbi hi
  · intro i o hbi hi off hc
    rw [St.get_set _ _ _ _ hb] at hi
    split at hi
    · rename_i ei
      subst ei
      simp [World.cell?, hlt] at hc
    · rename_i ei
      have e := hoth _ (hne i o ei hi)
      rw [World.frozen?_of_block (w := w) e]
      rw [World.cell?_of_block (w := w) e] at hc
      exact hR.wr i o hbi hi off hc

theorem ER.push {a b : List MapEntry} (h : ER μ a b) {x y : MapEntry} (hk : VR μ x.key y.key) (hv : VR μ x.val y.val) (hb : x.born = y.born) : ER μ (a ++ [x]) (b ++ [y]) := by
  refine ⟨by simp [h.1], fun i p q hp hq => ?_⟩
  by_cases hi : i < a.length
  · rw [List.getElem?_append_left hi] at hp
    rw [List.getElem?_append_left (by rw [← h.1]; exact hi)] at hq
    exact h.2 i p q hp hq
  · rw [List.getElem?_append_right (by omega)] at hp
    rw [List.getElem?_append_right (by rw [← h.1]; omega)] at hq
    by_cases h0 : i = a.length
    · subst h0
      simp at hp
      rw [← h.1] at hq
      simp at hq
      subst hp; subst hq
      exact ⟨hk, hv, hb⟩
    · have : i - a.length ≠ 0 := by omega
      cases hj : i - a.length with
      | zero => omega
      | succ j => rw [hj] at hp; simp at hp

theorem ER.modify {a b : List MapEntry} (h : ER μ a b) (j : Nat) {k k' v v' : Value} (hk : VR μ k k') (hv : VR μ v v') :
    ER μ (a.modify j fun e => { e with key := k, val := v }) (b.modify j fun e => { e with key := k', val := v' }) := by
  refine ⟨by simp [h.1], fun i p q hp hq => ?_⟩
  rw [List.getElem?_modify] at hp hq
  by_cases hi : j = i
  · subst hi
    simp at hp hq
    obtain ⟨x, hx, rfl⟩ := hp
    obtain ⟨y, hy, rfl⟩ := hq
    exact ⟨hk, hv, (h.2 _ x y hx hy).2.2⟩
  · simp [hi] at hp hq
    exact h.2 i p q hp hq

theorem ER.erase {a b : List MapEntry} (h : ER μ a b) (j : Nat) : ER μ (a.eraseIdx j) (b.eraseIdx j) := by
  refine ⟨by simp [List.length_eraseIdx, h.1], fun i p q hp hq => ?_⟩
  rw [List.getElem?_eraseIdx] at hp hq
  split at hp
  · rename_i hi; rw [if_pos hi] at hq; exact h.2 i p q hp hq
  · rename_i hi; rw [if_neg hi] at hq; exact h.2 _ p q hp hq

theorem sameBits_int (k : IntKind) (n : Int) : Instr.sameBits 10000 (.int k n) (.int k n) = true := by simp [Instr.sameBits]

theorem mapUpdateV_ok (hR : Rel lo μ S w) {t : TypeId} {m m' k k' v v' : Value} {S' : St} (hm : VR μ m m') (hk : VR μ k k') (hv : VR μ v v') (h : mapUpdateV P t m k v S = some S') :
    ∃ w', (Instr.mapUpdate t m' k' v').run P w = .ok () w' ∧ Post lo μ w S' μ w' := by
  unfold mapUpdateV at h
  split at h
  · rename_i kt e r kk n hu
    cases hk
    cases hm with
    | map _ hr =>
      split at h
      · rename_i ik es clock hkt hg
        split at h
        · cases h
        · rename_i hb
          obtain ⟨es', h1, h2, h3⟩ := getMap (P := P) hR hg
          split at h
          · rename_i j v1 hf
            injection h with h
            subst h
            rcases findNow_ok ik (.int kk n) es es'.toList 0 _ h2 hf with ⟨h0, _⟩ | ⟨j', v2, v2', e1, e2, e3, _, e5, x, y, e6, e7, e8, e9⟩
            · cases h0
            · injection e1 with e1
              injection e1 with e10 e11
              subst e10; subst e11
              have hxk : x.key = .int kk n := by
                cases hx : x.key <;> simp [Instr.sameNow, hx] at e8
                obtain ⟨rfl, rfl⟩ := e8; rfl
              have hold : ((es'[j]?).map (·.key)).getD (.int kk n) = .int kk n := by
                simp at e7
                simp [e7, e9, hxk]
              obtain ⟨g1, g2⟩ := hR.setObj (P := P) hg (by omega) (es2' := es'.modify j fun e => { e with key := .int kk n, val := v' }) (c2 := clock) (by
                rw [Array.toList_modify]; exact h2.modify j (VR.int kk n) hv)
              refine ⟨_, ?_, g2⟩
              simp only [Instr.mapUpdate, Sem.run_bind, underlying_run hu, Result.andThen]
              simp only [Sem.run_bind, h3, Result.andThen, checkKey_int hkt _ 9999, findKey_run hkt e2, hold, Instr.keyThatStays, sameBits_int, if_true, Sem.run_pure, g1]
          · rename_i hf
            injection h with h
            subst h
            rcases findNow_ok ik (.int kk n) es es'.toList 0 _ h2 hf with ⟨_, e2⟩ | ⟨_, _, _, e1, _⟩
            · obtain ⟨g1, g2⟩ := hR.setObj (P := P) hg (by omega) (es2 := es ++ [{ key := .int kk n, val := v, born := clock }]) (es2' := es'.push { key := .int kk n, val := v', born := clock }) (c2 := clock + 1) (by
                rw [Array.toList_push]; exact h2.push (VR.int kk n) hv rfl)
              refine ⟨_, ?_, g2⟩
              simp only [Instr.mapUpdate, Sem.run_bind, underlying_run hu, Result.andThen]
              simp only [Sem.run_bind, h3, Result.andThen, checkKey_int hkt _ 9999, findKey_run hkt e2, g1]
            · cases e1
          · cases h
      · cases h
  · cases h

theorem deleteV_ok (hR : Rel lo μ S w) {t tk ty : TypeId} {m m' k k' : Value} {S' : St} (hm : VR μ m m') (hk : VR μ k k') (h : deleteV P t m k S = some S') :
    ∃ w', (Builtin.delete_ #[t, tk] ty #[m', k']).run P w = .ok (.tuple #[]) w' ∧ Post lo μ w S' μ w' := by
  unfold deleteV at h
  split at h
  · rename_i kt e r kk n hu
    cases hk
    cases hm with
    | map _ hr =>
      split at h
      · rename_i ik es clock hkt hg
        split at h
        · cases h
        · rename_i hb
          obtain ⟨es', h1, h2, h3⟩ := getMap (P := P) hR hg
          split at h
          · rename_i j v1 hf
            injection h with h
            subst h
            rcases findNow_ok ik (.int kk n) es es'.toList 0 _ h2 hf with ⟨h0, _⟩ | ⟨j', v2, v2', e1, e2, e3, _, e5, x, y, e6, e7, e8, e9⟩
            · cases h0
            · injection e1 with e1
              injection e1 with e10 e11
              subst e10; subst e11
              obtain ⟨g1, g2⟩ := hR.setObj (P := P) hg (by omega) (es2' := es'.eraseIdxIfInBounds j) (c2 := clock) (by
                have : (es'.eraseIdxIfInBounds j).toList = es'.toList.eraseIdx j := by simp
                rw [this]; exact h2.erase j)
              refine ⟨_, ?_, g2⟩
              simp [Builtin.delete_, underlying_run hu, h3, checkKey_int hkt _ 9999, findKey_run hkt e2, g1]
          · rename_i hf
            injection h with h
            subst h
            rcases findNow_ok ik (.int kk n) es es'.toList 0 _ h2 hf with ⟨_, e2⟩ | ⟨_, _, _, e1, _⟩
            · obtain ⟨g1, g2⟩ := hR.setObj (P := P) hg (by omega) (es2' := es') (c2 := clock) h2
              refine ⟨_, ?_, g2⟩
              simp [Builtin.delete_, underlying_run hu, h3, checkKey_int hkt _ 9999, findKey_run hkt e2, g1]
            · cases e1
          · cases h
      · cases h
  · cases h

end
end Go.AM
