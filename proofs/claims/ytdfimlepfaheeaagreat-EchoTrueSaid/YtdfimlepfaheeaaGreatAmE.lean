/- AmE: each operation of the abstract machine is sound: addresses, slices, comparisons, append, copy, make, conversions, maps. -/
import Derived.Test.YtdfimlepfaheeaaGreatAmD
set_option linter.unusedVariables false
set_option linter.unusedSimpArgs false
namespace Go.AM
open Go.RowKit (Below)
section
variable {P : Program} {lo : Nat} {μ : Mu} {S : St} {w : World}

theorem fieldAt_ok {s : TypeId} {a a' v : Value} {i : Nat} (ha : VR μ a a') (h : fieldAtV P s a i = some v) : ∃ v', (Instr.fieldAt s a' i).run P w = .ok v' w ∧ VR μ v v' := by
  unfold fieldAtV at h
  split at h
  · rename_i fields n off hu
    cases ha with
    | ptr _ _ hn =>
      split at h
      · rename_i f hf
        split at h
        · rename_i k hk
          split at h
          · cases h
          · rename_i hk0
            injection h with h
            subst h
            refine ⟨.pointer (some ⟨μ.blk n, off + f.offset, none⟩), ?_, VR.ptr n _ hn⟩
            simp [Instr.fieldAt, underlying_run hu, hf, Instr.sureAddr, fieldPlace, sizeO_run hk, hk0, Addr.add_lit]
        · cases h
      · cases h
  · cases h

theorem part_ok {t : TypeId} {cs cs' : Array Value} {off : Nat} {v : Value} (hc : LR μ cs.toList cs'.toList)
    (h : (match aggO P t, sizeO P t with
      | some true, some k => some (.agg (cs.extract off (off + k)))
      | some false, some _ => cs[off]?
      | _, _ => none) = some v) : ∃ v', (part t cs' off).run P w = .ok v' w ∧ VR μ v v' := by
  split at h
  · rename_i k hagg hsz
    injection h with h
    subst h
    refine ⟨.agg (cs'.extract off (off + k)), by simp [part, aggO_run hagg, sizeO_run hsz], LR.to_agg ?_⟩
    rw [Array.toList_extract, Array.toList_extract]
    unfold List.extract
    exact (hc.drop _).take _
  · rename_i k hagg hsz
    have h' : cs.toList[off]? = some v := by simpa using h
    obtain ⟨v', h1, h2⟩ := hc.get h'
    have h1' : cs'[off]? = some v' := by simpa using h1
    exact ⟨v', by simp [part, aggO_run hagg, h1'], h2⟩
  · cases h

theorem field_ok {s : TypeId} {a a' v : Value} {i : Nat} (ha : VR μ a a') (h : fieldV P s a i = some v) : ∃ v', (Instr.field s a' i).run P w = .ok v' w ∧ VR μ v v' := by
  unfold fieldV at h
  split at h
  · rename_i fields cs hu
    obtain ⟨cs', rfl, hc⟩ := ha.agg_inv
    split at h
    · rename_i f hf
      obtain ⟨v', h1, h2⟩ := part_ok (P := P) (w := w) (t := f.type) (off := f.offset) hc h
      exact ⟨v', by simp [Instr.field, underlying_run hu, hf, asAgg, h1], h2⟩
    · cases h
  · cases h

theorem indexAt_ok {t : TypeId} {a a' i i' v : Value} (ha : VR μ a a') (hi : VR μ i i') (h : indexAtV P t a i = some v) : ∃ v', (Instr.indexAt t a' i').run P w = .ok v' w ∧ VR μ v v' := by
  unfold indexAtV at h
  split at h
  · rename_i len elem n off k j hu
    cases ha with
    | ptr _ _ hn =>
      cases hi with
      | int =>
        split at h
        · rename_i sz hsz
          split at h
          · rename_i hb
            injection h with h
            subst h
            refine ⟨.pointer (some ⟨μ.blk n, off + j.toNat * sz, none⟩), ?_, VR.ptr n _ hn⟩
            simp [Instr.indexAt, asIntOf, underlying_run hu, Instr.sureAddr, sizeO_run hsz, hb, Addr.add_lit]
          · cases h
        · cases h
  · rename_i elem n off len cp k j hu
    cases hi with
    | int =>
      split at h
      · rename_i sz hsz
        split at h
        · rename_i hb
          injection h with h
          subst h
          have hgo : ∀ c, ∃ v', (Instr.indexAt t (.slice (some ⟨μ.blk n, off, none⟩) len c) (.int k j)).run P w = .ok v' w ∧ v' = .pointer (some ⟨μ.blk n, off + j.toNat * sz, none⟩) := fun c =>
            ⟨_, by simp [Instr.indexAt, asIntOf, underlying_run hu, sizeO_run hsz, hb, Addr.add_lit], rfl⟩
          cases ha with
          | sl _ _ _ _ hn _ => obtain ⟨v', h1, rfl⟩ := hgo cp; exact ⟨_, h1, VR.ptr n _ hn⟩
          | slx _ _ _ c _ hn _ _ _ => obtain ⟨v', h1, rfl⟩ := hgo c; exact ⟨_, h1, VR.ptr n _ hn⟩
          | sl00 => exact absurd hb (by simp)
          | sle => exact absurd hb (by simp)
        · cases h
      · cases h
  · cases h

theorem index_ok {t : TypeId} {a a' i i' v : Value} (ha : VR μ a a') (hi : VR μ i i') (h : indexV P t a i = some v) : ∃ v', (Instr.index t a' i').run P w = .ok v' w ∧ VR μ v v' := by
  unfold indexV at h
  split at h
  · rename_i len elem cs k j hu
    obtain ⟨cs', rfl, hc⟩ := ha.agg_inv
    cases hi with
    | int =>
      have hgo : ∀ sz, sizeO P elem = some sz → (0 ≤ j ∧ j < len) → (match aggO P elem, sizeO P elem with
          | some true, some k => some (.agg (cs.extract (j.toNat * sz) (j.toNat * sz + k)))
          | some false, some _ => cs[j.toNat * sz]?
          | _, _ => none) = some v → ∃ v', (Instr.index t (.agg cs') (.int k j)).run P w = .ok v' w ∧ VR μ v v' := by
        intro sz hsz hb hh
        obtain ⟨v', h1, h2⟩ := part_ok (P := P) (w := w) (t := elem) (off := j.toNat * sz) hc hh
        exact ⟨v', by simp [Instr.index, asIntOf, underlying_run hu, sizeO_run hsz, hb, h1], h2⟩
      split at h
      · rename_i sz hagg hsz
        split at h
        · rename_i hb
          exact hgo sz hsz hb (by rw [hagg, hsz]; exact h)
        · cases h
      · rename_i sz hagg hsz
        split at h
        · rename_i hb
          exact hgo sz hsz hb (by rw [hagg, hsz]; exact h)
        · cases h
      · cases h
  · cases h

/-! ## Slice expressions -/

theorem boundV_spec {x : Option Value} {n : Option Nat} (h : boundV x = some n) : (x = none ∧ n = none) ∨ ∃ k i, x = some (.int k (i : Nat)) ∧ n = some i := by
  unfold boundV at h
  split at h
  · injection h with h; exact .inl ⟨rfl, h.symm⟩
  · rename_i k i
    split at h
    · rename_i h0
      injection h with h
      exact .inr ⟨k, i.toNat, by rw [Int.toNat_of_nonneg h0], h.symm⟩
    · cases h
  · cases h

/-- A bound's value is a number: the same in memory. -/
theorem boundV_same {x x' : Option Value} {n : Option Nat} (hx : (x = none ∧ x' = none) ∨ ∃ v v', x = some v ∧ x' = some v' ∧ VR μ v v') (h : boundV x = some n) : x' = x := by
  rcases hx with ⟨rfl, rfl⟩ | ⟨v, v', rfl, rfl, hv⟩
  · rfl
  · unfold boundV at h
    split at h
    · rename_i e; cases e
    · rename_i k i e
      injection e with e
      subst e
      cases hv; rfl
    · cases h

theorem sliceBound_run {k : IntKind} {i y : Nat} {code : BoundsCode} (h : i ≤ y) : (Instr.sliceBound (.int k (i : Nat)) y code).run P w = .ok i w := by
  have h1 : (0 : Int) ≤ (i : Int) ∧ (i : Int) ≤ (y : Int) := ⟨by omega, by omega⟩
  simp [Instr.sliceBound, asIntOf, h1]

theorem sliceBounds_run {isS : Bool} {len cap : Nat} {lo hi mx : Option Value} {l h m : Option Nat} (hl : boundV lo = some l) (hh : boundV hi = some h) (hm : boundV mx = some m) (hnot : ¬ (m.isSome = true ∧ h.isNone = true))
    (c1 : l.getD 0 ≤ h.getD len) (c2 : h.getD len ≤ m.getD cap) (c3 : m.getD cap ≤ cap) :
    (Instr.sliceBounds isS len cap lo hi mx).run P w = .ok (l.getD 0, h.getD len, m.getD cap) w := by
  rcases boundV_spec hl with ⟨rfl, rfl⟩ | ⟨kl, il, rfl, rfl⟩ <;> rcases boundV_spec hh with ⟨rfl, rfl⟩ | ⟨kh, ih, rfl, rfl⟩ <;> rcases boundV_spec hm with ⟨rfl, rfl⟩ | ⟨km, im, rfl, rfl⟩ <;>
    simp at c1 c2 c3 hnot <;> simp [Instr.sliceBounds, sliceBound_run, *]

theorem cutS_run {b off k l h m : Nat} (h1 : l ≤ h) (h2 : h ≤ m) :
    Value.slice (some (if m = l then (⟨b, off, none⟩ : Addr) else Addr.add ⟨b, off, none⟩ (l * k))) (h - l) (m - l) = cutS b off k l h m := by
  unfold cutS
  by_cases e : m = l
  · subst e
    have : h = m := by omega
    subst this
    simp
  · simp [e, Addr.add_lit]

theorem cutS_VR {n off k l h m : Nat} (hn : n < μ.n) (hm : m < capx) : VR μ (cutS n off k l h m) (cutS (μ.blk n) off k l h m) := by
  unfold cutS
  split
  · exact VR.sl00 _ _ _ _ hn
  · exact VR.sl _ _ _ _ hn (by omega)

theorem slice_ok (hR : Rel lo μ S w) {t : TypeId} {x x' v : Value} {lo hi mx lo' hi' mx' : Option Value} (hx : VR μ x x')
    (hl : (lo = none ∧ lo' = none) ∨ ∃ v v', lo = some v ∧ lo' = some v' ∧ VR μ v v') (hh : (hi = none ∧ hi' = none) ∨ ∃ v v', hi = some v ∧ hi' = some v' ∧ VR μ v v')
    (hm : (mx = none ∧ mx' = none) ∨ ∃ v v', mx = some v ∧ mx' = some v' ∧ VR μ v v') (h : sliceV P t x lo hi mx S = some v) :
    ∃ v', (Instr.sliceAt t x' lo' hi' mx').run P w = .ok v' w ∧ VR μ v v' := by
  unfold sliceV at h
  split at h
  · rename_i l hh' m bl bh bm
    rw [boundV_same hl bl, boundV_same hh bh, boundV_same hm bm]
    split at h
    · cases h
    · rename_i hnot
      split at h
      · -- an array
        rename_i n elem b off hu
        cases hx with
        | ptr _ _ hn =>
          split at h
          · rename_i k hk
            split at h
            · rename_i hc
              injection h with h
              have hb := sliceBounds_run (P := P) (w := w) (isS := false) (len := n) (cap := n) bl bh bm hnot hc.1 hc.2.1 hc.2.2.1
              refine ⟨cutS (μ.blk b) off k (l.getD 0) (hh'.getD n) (m.getD n), ?_, ?_⟩
              · simp only [Instr.sliceAt, Sem.run_bind, underlying_run hu, Result.andThen, Instr.sureAddr, Sem.run_pure, hb, sizeO_run hk]
                rw [cutS_run hc.1 hc.2.1]
              · rw [← h]; exact cutS_VR hn (by omega)
            · cases h
          · cases h
      · -- a nil slice
        rename_i elem len cap hu
        cases hx with
        | sl0 =>
          split at h
          · rename_i k hk
            split at h
            · rename_i hc
              injection h with h
              have hb := sliceBounds_run (P := P) (w := w) (isS := true) (len := len) (cap := cap) bl bh bm hnot hc.1 hc.2.1 hc.2.2
              refine ⟨.slice none (hh'.getD len - l.getD 0) (m.getD cap - l.getD 0), ?_, ?_⟩
              · simp [Instr.sliceAt, Instr.slice, underlying_run hu, hb, sizeO_run hk]
              · rw [← h]; exact VR.sl0 _ _
            · cases h
          · cases h
      · rename_i elem b off len cap hu
        split at h
        · rename_i k hk
          -- what the slice is in memory: its base, and its capacity
          have go : ∀ (bb oo c' : Nat), l.getD 0 ≤ hh'.getD len → hh'.getD len ≤ m.getD c' → m.getD c' ≤ c' →
              (Instr.sliceAt t (.slice (some ⟨bb, oo, none⟩) len c') lo hi mx).run P w = .ok (cutS bb oo k (l.getD 0) (hh'.getD len) (m.getD c')) w := by
            intro bb oo c' h2 h3 h4
            have hb := sliceBounds_run (P := P) (w := w) (isS := true) (len := len) (cap := c') bl bh bm hnot h2 h3 h4
            simp only [Instr.sliceAt, Instr.slice, Sem.run_bind, underlying_run hu, Result.andThen, hb, sizeO_run hk, Sem.run_pure]
            rw [← cutS_run h2 h3]
            congr 2
            split <;> simp
          split at h
          · -- of unknown capacity
            rename_i hcap
            subst hcap
            split at h
            · rename_i cc ee gr ss hget
              split at h
              · rename_i hgr
                have hez : μ.esz b = k := by
                  obtain ⟨cs, fr, _, _, _, _, h5, _⟩ := hR.obj b _ hget
                  rw [(h5 hgr.2).2]; exact hgr.1
                split at h
                · split at h
                  · rename_i hc
                    injection h with h
                    cases hx with
                    | sl _ _ _ _ hn hcx => exact absurd hcx (by simp)
                    | slx _ _ _ c' d hn hd hcp hle =>
                      refine ⟨_, go _ _ _ hc.1 (by simp; omega) (Nat.le_refl _), ?_⟩
                      rw [← h]
                      unfold cutS
                      simp only [Option.getD_none]
                      split
                      · rename_i e
                        have e1 : hh'.getD len - l.getD 0 = 0 := by omega
                        rw [e1]
                        refine VR.sle _ _ _ _ hn ?_
                        rw [hd, hez, ← hcp, ← e, Nat.add_mul]
                        omega
                      · refine VR.slx _ _ _ _ (d + l.getD 0) hn ?_ (by omega) (by omega)
                        rw [hd, hez, Nat.add_mul]
                    | sle _ _ mm oo hn ho =>
                      refine ⟨_, go _ _ _ hc.1 (by simp; omega) (Nat.le_refl _), ?_⟩
                      rw [← h]
                      have e1 : l.getD 0 = 0 := by omega
                      have e2 : hh'.getD 0 = 0 := by omega
                      simp [cutS, e1, e2]
                      exact VR.sle _ _ _ _ hn ho
                  · cases h
                · rename_i mm
                  split at h
                  · rename_i hc
                    injection h with h
                    cases hx with
                    | sl _ _ _ _ hn hcx => exact absurd hcx (by simp)
                    | slx _ _ _ c' d hn hd hcp hle =>
                      refine ⟨_, go _ _ _ hc.1 (by simpa using hc.2.1) (by simp; omega), ?_⟩
                      rw [← h]
                      exact cutS_VR (m := mm) hn (by omega)
                    | sle _ _ mb oo hn ho =>
                      refine ⟨_, go _ _ _ hc.1 (by simpa using hc.2.1) (by simp; omega), ?_⟩
                      rw [← h]
                      have e1 : l.getD 0 = 0 := by omega
                      have e2 : hh'.getD 0 = 0 := by omega
                      have e3 : mm = 0 := by omega
                      subst e3
                      simp [cutS, e1, e2]
                      exact VR.sl00 _ _ _ _ hn
                  · cases h
              · cases h
            · cases h
          · rename_i hcap
            split at h
            · rename_i hc
              injection h with h
              cases hx with
              | sl _ _ _ _ hn hcx =>
                refine ⟨_, go _ _ _ hc.1 hc.2.1 hc.2.2.1, ?_⟩
                rw [← h]
                exact cutS_VR (m := m.getD cap) hn (by omega)
              | sl00 _ _ mb oo hn =>
                refine ⟨_, go _ _ _ hc.1 hc.2.1 hc.2.2.1, ?_⟩
                rw [← h]
                have e3 : m.getD 0 = 0 := by omega
                have e2 : hh'.getD 0 = 0 := by omega
                have e1 : l.getD 0 = 0 := by omega
                simp [cutS, e1, e2, e3]
                exact VR.sl00 _ _ _ _ hn
              | slx => exact absurd rfl hcap
              | sle => exact absurd rfl hcap
            · cases h
        · cases h
      · cases h
  · cases h

/-! ## Comparing -/

theorem sameAddr_same (b i j : Nat) : (sameAddr ⟨b, i, none⟩ ⟨b, j, none⟩).run P w = .ok (i == j) w := by
  have : ((⟨b, i, none⟩ : Addr) == ⟨b, j, none⟩) = (i == j) := by rw [Bool.eq_iff_iff]; simp
  simp [sameAddr, this]

theorem sameAddr_other {b c i j : Nat} (h : b ≠ c) {x y : Array Value} {tx ty : TypeId} (hb : w.heap[b]? = some (.cells x tx (0, 0))) (hc : w.heap[c]? = some (.cells y ty (0, 0))) :
    (sameAddr ⟨b, i, none⟩ ⟨c, j, none⟩).run P w = .ok false w := by
  have f1 : ∀ k, w.frozen? ⟨b, k, none⟩ = false := fun k => by simp [World.frozen?, hb]
  have f2 : ∀ k, w.frozen? ⟨c, k, none⟩ = false := fun k => by simp [World.frozen?, hc]
  have s1 : w.shape? b = some (tx, x.size) := by simp [World.shape?, hb]
  have s2 : w.shape? c = some (ty, y.size) := by simp [World.shape?, hc]
  simp [sameAddr, h, f1, f2, noView, viewAt, s1, s2, mayBeOne, stringish]

set_option maxHeartbeats 1000000 in
theorem eqV_ok (hR : Rel lo μ S w) {t : TypeId} {x x' y y' : Value} {b : Bool} (hx : VR μ x x') (hy : VR μ y y') (h : eqV P t x y S = some b) :
    ∀ d, (Op.equalIn (d + 1) t x' y').run P w = .ok b w := by
  intro d
  unfold eqV at h
  split at h
  · rename_i e b' hu
    injection h with h
    cases hx
    cases hy with
    | ptr0 => simp [Op.equalIn, underlying_run hu]; simpa using h
    | ptr => simp [Op.equalIn, underlying_run hu]; simpa using h
  · rename_i e a' hu
    injection h with h
    cases hy
    cases hx with
    | ptr => simp [Op.equalIn, underlying_run hu, h]
  · rename_i e n i m j hu
    cases hx with
    | ptr _ _ hn =>
      cases hy with
      | ptr _ _ hm =>
        split at h
        · rename_i k hk
          split at h
          · cases h
          · rename_i hk0
            split at h
            · rename_i hnm
              injection h with h
              subst hnm
              simp [Op.equalIn, underlying_run hu, sizeO_run hk, hk0, sameAddr_same, h]
            · rename_i hnm
              split at h
              · rename_i c1 e1 g1 c2 e2 g2 hg1 hg2
                injection h with h
                obtain ⟨cs1, fr1, a1, _, _, _, _, a6⟩ := hR.obj n _ hg1
                obtain ⟨cs2, fr2, b1, _, _, _, _, b6⟩ := hR.obj m _ hg2
                rw [a6 rfl] at a1
                rw [b6 rfl] at b1
                have hne : μ.blk n ≠ μ.blk m := fun e => hnm (hR.inj n m _ _ hg1 hg2 e)
                simp [Op.equalIn, underlying_run hu, sizeO_run hk, hk0, sameAddr_other hne a1 b1, h]
              · cases h
        · cases h
  · rename_i e l c b' l' c' hu
    injection h with h
    cases hx
    cases hy <;> (simp [Op.equalIn, underlying_run hu]; simpa using h)
  · rename_i e a l c l' c' hu
    injection h with h
    cases hy
    cases hx <;> simp [Op.equalIn, underlying_run hu, h]
  · rename_i k e b' hu
    injection h with h
    cases hx
    cases hy <;> (simp [Op.equalIn, underlying_run hu]; simpa using h)
  · rename_i k e a hu
    injection h with h
    cases hy
    cases hx <;> simp [Op.equalIn, underlying_run hu, h]
  · rename_i hu
    injection h with h
    cases hx
    cases hy <;> simp [Op.equalIn, underlying_run hu, h]
  · rename_i hu
    injection h with h
    cases hy
    cases hx <;> simp [Op.equalIn, underlying_run hu, h]
  · rename_i hu
    injection h with h
    cases hx
    cases hy <;> simp [Op.equalIn, underlying_run hu, h]
  · rename_i hu
    injection h with h
    cases hy
    cases hx <;> simp [Op.equalIn, underlying_run hu, h]
  · cases h

theorem equal_ok (hR : Rel lo μ S w) {t : TypeId} {x x' y y' : Value} {b : Bool} (hx : VR μ x x') (hy : VR μ y y') (h : eqV P t x y S = some b) :
    (Op.equal t x' y').run P w = .ok b w := eqV_ok hR hx hy h 9999

end
end Go.AM
