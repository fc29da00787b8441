/- AmF: each operation of the abstract machine is sound: append, copy, make, conversions. -/
import Derived.Test.YtdfimlepfaheeaaGreatAmE
set_option linter.unusedVariables false
set_option linter.unusedSimpArgs false
namespace Go.AM
open Go.RowKit (Below)
section
variable {P : Program} {lo : Nat} {μ : Mu} {S : St} {w : World}

theorem ones_append : ∀ {a b : List Value}, ones a = true → ones b = true → ones (a ++ b) = true
  | [], b, _, hb => hb
  | x :: a, b, ha, hb => by
    simp [ones] at ha
    simp [ones, ha.1, ones_append ha.2 hb]

theorem byteCells_af (s : ByteArray) : afs (byteCells s) = true := by
  unfold byteCells
  generalize s.data.toList = l
  induction l with
  | nil => rfl
  | cons x l ih => simp [afs, af1, ih]

theorem srcV_ok (hR : Rel lo μ S w) {tx : TypeId} {size : Nat} {x x' : Value} {n : Nat} {news : List Value} (hx : VR μ x x') (h : srcV P tx size x S = some (n, news)) :
    ∃ news', LR μ news news' ∧ Src P size tx x' n news' w ∧ ones news = true := by
  unfold srcV at h
  split at h
  · rename_i s hu
    split at h
    · rename_i h1
      injection h with h
      injection h with h2 h3
      subst h1; subst h2; subst h3
      cases hx
      exact ⟨byteCells s, afs_refl μ (byteCells_af s), Src.ofString w hu s, afs_ones (byteCells_af s)⟩
    · cases h
  · rename_i e c hu
    injection h with h
    injection h with h2 h3
    subst h2; subst h3
    cases hx
    exact ⟨[], LR.nil μ, Src.ofNil w hu _, rfl⟩
  · rename_i e b off len c hu
    split at h
    · rename_i h0
      injection h with h
      injection h with h2 h3
      subst h0; subst h2; subst h3
      refine ⟨[], LR.nil μ, ?_, rfl⟩
      cases hx <;> exact Src.ofSlice w hu _ 0 _ [] (by simp) (fun j u hj => by simp at hj) (fun u hu => by simp at hu)
    · rename_i h0
      cases hr : rowAt S b off (len * size) with
      | none => simp [hr] at h
      | some l =>
        simp [hr] at h
        obtain ⟨ho, rfl, rfl⟩ := h
        obtain ⟨l', h1, h2, h3, hn⟩ := rowAt_mem hR hr
        refine ⟨l', h1, ?_, ho⟩
        have hm : ∀ j v, l'[j]? = some v → w.cell? (Addr.add ⟨μ.blk b, off, none⟩ j) = some v := fun j v hj => by rw [Addr.add_lit]; exact h3 j v hj
        have ho' := ones_spec (h1.ones ho)
        cases hx with
        | sl => exact Src.ofSlice w hu _ _ _ l' h2 hm ho'
        | slx => exact Src.ofSlice w hu _ _ _ l' h2 hm ho'
        | sl00 => exact absurd rfl h0
        | sle => exact absurd rfl h0
  · cases h

theorem growBy_le (newLen : Nat) : ∀ (r c : Nat), c ≤ 2 * newLen + 256 → Builtin.growBy newLen r c ≤ 2 * newLen + 256
  | 0, c, h => h
  | r + 1, c, h => by
    unfold Builtin.growBy
    split
    · exact h
    · exact growBy_le newLen r _ (by omega)

theorem nextslicecap_le {n c : Nat} (h : c < n) : Builtin.nextslicecap n c ≤ 2 * n + 256 := by
  unfold Builtin.nextslicecap
  split
  · omega
  · split
    · omega
    · exact growBy_le _ _ _ (by omega)

/-- A row of the program's own that has just been made, of whatever capacity. -/
theorem fresh_ok (hR : Rel lo μ S w) {e : TypeId} {size cap n : Nat} {vs vs' : List Value} (hv : LR μ vs vs') (hlen : vs.length = n * size) (hs : size ≠ 0) (z : Array Value) (hz : z.size = size) (hcap : n ≤ cap) (st : Bool := false) :
    VR (μ.ext w.heap.size cap size) (.slice (some ⟨S.cnt, 0, none⟩) n capx) (.slice (some ⟨w.heap.size, 0, none⟩) n cap) ∧
    Post lo μ w (S.push (.cells vs e size st)) (μ.ext w.heap.size cap size) (w.drew.alloc (.cells (vs'.toArray ++ Builtin.zeroCells z (cap - n)) e)) := by
  have hsz : (vs'.toArray ++ Builtin.zeroCells z (cap - n)).size = cap * size := by
    have : vs'.length = n * size := by rw [← hv.1]; exact hlen
    simp [Builtin.zeroCells, this, hz]
    rw [← Nat.add_mul]; congr 1; omega
  have hp := hR.drew.alloc_cells vs e size (vs'.toArray ++ Builtin.zeroCells z (cap - n)) cap ?_ ?_ (fun h => absurd h hs) (fun _ => hsz) st
  · refine ⟨?_, (Post.drew hR).trans hp⟩
    have := VR.slx (μ := μ.ext w.heap.size cap size) μ.n 0 n cap 0 (by simp) (by simp) (by simp) hcap
    rw [Mu.ext_blk] at this
    simpa [hR.n] using this
  · have : (vs'.toArray ++ Builtin.zeroCells z (cap - n)).toList.take vs.length = vs' := by
      rw [Array.toList_append, List.take_append_of_le_length (by simp [hv.1]), take_self _ _ (by simp [hv.1])]
    rw [this]; exact hv
  · rw [hsz, hlen]; exact Nat.mul_le_mul_right _ hcap

theorem append_nothing (t tx ty e : TypeId) (i : TypeInfo) (ht : P.underlying t = some (.slice e)) (hi : P.info? e = some i) (base : Option Addr) (sLen sCap : Nat) (hle : sLen ≤ sCap) (x : Value) {news : List Value} (hs : Src P i.size tx x 0 news w) :
    (Builtin.append_ #[t, tx] ty #[.slice base sLen sCap, x]).run P w = .ok (.slice base sLen sCap) w := by
  have h0 : news = [] := List.eq_nil_of_length_eq_zero (by have := hs.newsLen; omega)
  subst h0
  rcases hs.kind with ⟨e', hk⟩ | hk <;> cases base <;> simp [Builtin.append_, run_underlying ht, run_underlying hk, sizeOf, typeInfo, hi, hs.len, hle, hs.cells, storeCells]

theorem append_ok (hR : Rel lo μ S w) {t tx ty : TypeId} {s s' x x' v : Value} {S' : St} (hs : VR μ s s') (hx : VR μ x x') (h : appendV P t tx s x S = some (v, S')) :
    ∃ v' μ' w', (Builtin.append_ #[t, tx] ty #[s', x']).run P w = .ok v' w' ∧ VR μ' v v' ∧ Post lo μ w S' μ' w' := by
  unfold appendV at h
  split at h
  · rename_i e ht
    split at h
    · rename_i i hi
      split at h
      · rename_i z hz
        split at h
        · rename_i hc
          obtain ⟨hzs, hza⟩ := hc
          split at h
          · rename_i n news hsrc
            obtain ⟨news', hl, hSrc, hones⟩ := srcV_ok hR hx hsrc
            have hnl : news.length = n * i.size := by rw [hl.1]; exact hSrc.newsLen
            split at h
            · -- onto nil
              cases hs
              split at h
              · rename_i h0
                injection h with h
                injection h with h1 h2
                subst h0; subst h1; subst h2
                exact ⟨_, μ, w, append_nothing t tx ty e i ht hi none 0 0 (Nat.le_refl _) x' hSrc, VR.sl0 0 0, Post.refl hR⟩
              · rename_i h0
                unfold freshRow at h
                split at h
                · rename_i hb
                  injection h with h
                  injection h with h1 h2
                  subst h1; subst h2
                  have hrun := run_append_grow_src (P := P) w t tx ty e i z ht hi hz none 0 0 [] (run_firstCells_none w.drew i.size 0 0 0) x' n news' hSrc (by omega) (by omega)
                    (Nat.le_trans (Nat.mul_le_mul_right _ (nextslicecap_le (by omega))) (by simpa using hb.1))
                  simp only [Nat.zero_add, List.nil_append] at hrun
                  obtain ⟨hv, hp⟩ := fresh_ok hR (e := e) (cap := grownCap w n 0 e) hl hnl hb.2.2 z.cells hzs (grownCap_ge _ _ _ _)
                  exact ⟨_, _, _, hrun, hv, hp⟩
                · cases h
            · rename_i b off len cap
              split at h
              · rename_i h0
                split at h
                · rename_i hle
                  injection h with h
                  injection h with h1 h2
                  subst h0; subst h1; subst h2
                  cases hs with
                  | sl _ _ _ _ hn hcx => exact ⟨_, μ, w, append_nothing t tx ty e i ht hi _ len cap hle x' hSrc, VR.sl _ _ _ _ hn hcx, Post.refl hR⟩
                  | slx _ _ _ c' d hn hd hcp hle' => exact ⟨_, μ, w, append_nothing t tx ty e i ht hi _ len c' hle' x' hSrc, VR.slx _ _ _ _ d hn hd hcp hle', Post.refl hR⟩
                  | sl00 _ _ _ _ hn => exact ⟨_, μ, w, append_nothing t tx ty e i ht hi _ 0 0 (Nat.le_refl _) x' hSrc, VR.sl00 _ _ _ _ hn, Post.refl hR⟩
                  | sle _ _ _ _ hn ho => exact ⟨_, μ, w, append_nothing t tx ty e i ht hi _ 0 0 (Nat.le_refl _) x' hSrc, VR.sle _ _ _ _ hn ho, Post.refl hR⟩
                · cases h
              · rename_i h0
                -- a store where there is room
                have room : ∀ (S'' : St) (c' : Nat), putRow S b (off + len * i.size) news = some S'' → len + n ≤ c' →
                    (Builtin.append_ #[t, tx] ty #[.slice (some ⟨μ.blk b, off, none⟩) len c', x']).run P w = .ok (.slice (some ⟨μ.blk b, off, none⟩) (len + n) c') (w.setCells (μ.blk b) (off + len * i.size) news') ∧
                      Post lo μ w S'' μ (w.setCells (μ.blk b) (off + len * i.size) news') := by
                  intro S'' c' hput hc'
                  obtain ⟨hn, h1, h2, h3, hp⟩ := putRow_run hR hput hl
                  exact ⟨run_append_room_src (P := P) w t tx ty e i ht hi _ _ _ _ _ _ _ hSrc hc' h1 h2, hp⟩
                split at h
                · rename_i hcap
                  subst hcap
                  split at h
                  · rename_i c e' gr str hget
                    obtain ⟨cs, fr, o1, o2, o3, o4, o5, o6⟩ := hR.obj b _ hget
                    split at h
                    · cases h
                    · rename_i hbase
                      split at h
                      · -- within what is known
                        rename_i hk
                        obtain ⟨k1, k2, k3⟩ := hk
                        cases hput : putRow S b (off + len * i.size) news with
                        | none => simp [hput] at h
                        | some S'' =>
                          simp [hput] at h
                          obtain ⟨rfl, rfl⟩ := h
                          cases hs with
                          | sl _ _ _ _ hn hcx => exact absurd hcx (by simp)
                          | slx _ _ _ c' d hn hd hcp hle' =>
                            have hez := (o5 k3).2
                            have hfit : len + n ≤ c' := by
                              have h1 : off + (len + n) * i.size ≤ (c' + d) * i.size := by
                                have := (o5 k3).1; rw [← hcp] at this; rw [k2] at this; omega
                              rw [hd, hez, k2, ← Nat.add_mul] at h1
                              have := Nat.le_of_mul_le_mul_right h1 (by omega)
                              omega
                            obtain ⟨hrun, hp⟩ := room S'' c' hput hfit
                            exact ⟨_, _, _, hrun, VR.slx _ _ _ _ d hn hd hcp hfit, hp⟩
                          | sle _ _ m og hn ho =>
                            exfalso
                            have h1 := (o5 k3).1
                            rw [(o5 k3).2] at ho
                            rw [k2] at ho h1
                            have h2 : 0 < (0 + n) * i.size := Nat.mul_pos (by omega) (by omega)
                            omega
                      · split at h
                        · -- behind what is known
                          rename_i hk
                          obtain ⟨k0, k1, k2, k3, k4, k5, k6, k7, k8⟩ := hk
                          injection h with h
                          injection h with h1 h2
                          subst h1; subst h2; subst k0
                          have hcc := hR.cells hget
                          cases hs with
                          | sl _ _ _ _ hn hcx => exact absurd hcx (by simp)
                          | slx _ _ _ c' d hn hd hcp hle' =>
                            have hd0 : d = 0 := by
                              rw [(o5 k3).2] at hd
                              rcases Nat.mul_eq_zero.1 hd.symm with h | h
                              · exact h
                              · exact absurd h k3
                            subst hd0
                            simp only [Nat.add_zero] at hcp
                            by_cases hroom : len + n ≤ c'
                            · -- where it lies
                              have hr : c.length + news.length ≤ μ.cap b * gr := by
                                rw [← k1, hnl, ← hcp, k2, ← Nat.add_mul]
                                exact Nat.mul_le_mul_right _ hroom
                              have hp := hR.grow hget k3 (by omega) hl hr
                              have hcell : ∀ j, j < news'.length → (w.cell? ⟨μ.blk b, 0 + len * i.size + j, none⟩).isSome = true := fun j hj => by
                                have : 0 + len * i.size + j < cs.size := by rw [(o5 k3).1]; rw [← hl.1] at hj; omega
                                simp only [World.cell?, o1]
                                simp
                                simpa using this
                              have hrun := run_append_room_src (P := P) w t tx ty e i ht hi (μ.blk b) 0 len c' x' n news' hSrc hroom hcell (fun j hj => hR.wr b _ (by omega) hget _ (hcell j hj))
                              rw [Nat.zero_add, k1] at hrun
                              refine ⟨_, _, _, hrun, ?_, by rw [← k4]; exact hp⟩
                              have := VR.slx (μ := μ.ext (μ.blk b) (μ.cap b) gr) μ.n 0 (len + n) c' 0 (by simp) (by simp) (by simp [hcp]) hroom
                              rw [Mu.ext_blk] at this
                              rw [hR.n] at this
                              exact this
                            · -- in a new row
                              obtain ⟨cl, q1, q2⟩ := hcc
                              have hcl : cl.length = len * i.size := by rw [← q1.1]; exact k1.symm
                              have hold : (Builtin.firstCells i.size len (.slice (some ⟨μ.blk b, 0, none⟩) len c')).run P w.drew = .ok cl.toArray w.drew :=
                                run_firstCells_some w.drew i.size len _ len c' cl hcl (fun j v hj => by rw [Addr.add_lit, Nat.zero_add]; exact q2 j v hj)
                              have hrun := run_append_grow_src (P := P) w t tx ty e i z ht hi hz (some ⟨μ.blk b, 0, none⟩) len c' cl hold x' n news' hSrc (by omega) (by omega)
                                (Nat.le_trans (Nat.mul_le_mul_right _ (nextslicecap_le (by omega))) (by simpa using k7))
                              have hk' := hR.kill (n := b) (by omega)
                              obtain ⟨hv, hp⟩ := fresh_ok hk' (e := e) (cap := grownCap w (len + n) c' e) (size := i.size) (q1.append hl) (by rw [List.length_append, ← k1, hnl, ← Nat.add_mul]) (by omega) z.cells hzs (grownCap_ge _ _ _ _) str
                              refine ⟨_, _, _, hrun, hv, ?_⟩
                              rw [k2]
                              exact ⟨hp.le, hp.rel, hp.below⟩
                          | sle _ _ m og hn ho =>
                            -- an empty one without room
                            simp only [Nat.zero_mul] at k1
                            have hc0 : c = [] := List.eq_nil_of_length_eq_zero k1.symm
                            subst hc0
                            have hold : (Builtin.firstCells i.size 0 (.slice (some ⟨m, og, none⟩) 0 0)).run P w.drew = .ok #[] w.drew :=
                              run_firstCells_some w.drew i.size 0 _ 0 0 [] (by simp) (fun j v hj => by simp at hj)
                            have hrun := run_append_grow_src (P := P) w t tx ty e i z ht hi hz (some ⟨m, og, none⟩) 0 0 [] hold x' n news' hSrc (by omega) (by omega)
                              (Nat.le_trans (Nat.mul_le_mul_right _ (nextslicecap_le (by omega))) (by simpa using k7))
                            have hk' := hR.kill (n := b) (by omega)
                            obtain ⟨hv, hp⟩ := fresh_ok hk' (e := e) (cap := grownCap w (0 + n) 0 e) (size := i.size) ((LR.nil μ).append hl) (by simp [hnl]) (by omega) z.cells hzs (grownCap_ge _ _ _ _) str
                            refine ⟨_, _, _, hrun, hv, ?_⟩
                            rw [k2]
                            exact ⟨hp.le, hp.rel, hp.below⟩
                        · cases h
                  · cases h
                · rename_i hcap
                  split at h
                  · rename_i hroom
                    cases hput : putRow S b (off + len * i.size) news with
                    | none => simp [hput] at h
                    | some S'' =>
                      simp [hput] at h
                      obtain ⟨rfl, rfl⟩ := h
                      cases hs with
                      | sl _ _ _ _ hn hcx =>
                        obtain ⟨hrun, hp⟩ := room S'' cap hput hroom
                        exact ⟨_, _, _, hrun, VR.sl _ _ _ _ hn hcx, hp⟩
                      | sl00 => omega
                      | slx => exact absurd rfl hcap
                      | sle => exact absurd rfl hcap
                  · rename_i hroom
                    cases hold : rowAt S b off (len * i.size) with
                    | none => simp [hold] at h
                    | some olds =>
                      simp only [hold, Option.bind_some, freshRow] at h
                      split at h
                      · rename_i hb
                        injection h with h
                        injection h with h1 h2
                        subst h1; subst h2
                        obtain ⟨cl, q1, q2, q3, hn⟩ := rowAt_mem hR hold
                        have hlen : olds.length = len * i.size := rowAt_length hold
                        have hgo : ∀ (a : Addr), (∀ j v, cl[j]? = some v → w.drew.cell? (a.add j) = some v) → ∃ v' μ' w', (Builtin.append_ #[t, tx] ty #[.slice (some a) len cap, x']).run P w = .ok v' w' ∧
                            VR μ' (.slice (some ⟨S.cnt, 0, none⟩) (len + n) capx) v' ∧ Post lo μ w (S.push (.cells (olds ++ news) e i.size false)) μ' w' := by
                          intro a ha
                          have hrun := run_append_grow_src (P := P) w t tx ty e i z ht hi hz (some a) len cap cl (run_firstCells_some w.drew i.size len _ len cap cl q2 ha) x' n news' hSrc (by omega) (by omega)
                            (Nat.le_trans (Nat.mul_le_mul_right _ (nextslicecap_le (by omega))) (by simpa using hb.1))
                          obtain ⟨hv, hp⟩ := fresh_ok hR (e := e) (cap := grownCap w (len + n) cap e) (size := i.size) (q1.append hl) (by rw [List.length_append, hlen, hnl, ← Nat.add_mul]) hb.2.2 z.cells hzs (grownCap_ge _ _ _ _)
                          exact ⟨_, _, _, hrun, hv, hp⟩
                        cases hs with
                        | sl _ _ _ _ hn hcx => exact hgo _ (fun j v hj => by rw [Addr.add_lit]; exact q3 j v hj)
                        | sl00 _ _ m og hn =>
                          refine hgo _ (fun j v hj => ?_)
                          have : cl = [] := List.eq_nil_of_length_eq_zero (by rw [q2]; simp)
                          subst this; simp at hj
                        | slx => exact absurd rfl hcap
                        | sle => exact absurd rfl hcap
                      · cases h
            · cases h
          · cases h
        · cases h
      · cases h
    · cases h
  · cases h

end
end Go.AM
