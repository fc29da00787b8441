/- AmG: each operation of the abstract machine is sound: copy, make, conversions, maps. -/
import Derived.Test.YtdfimlepfaheeaaGreatAmF
set_option linter.unusedVariables false
set_option linter.unusedSimpArgs false
namespace Go.AM
open Go.RowKit (Below)
section
variable {P : Program} {lo : Nat} {μ : Mu} {S : St} {w : World}

/-! ## copy -/

theorem copy_none {t tx ty e : TypeId} {k : Nat} {d x : Value} (hu : P.underlying t = some (.slice e)) (hk : sizeO P e = some k) (hd : ∃ a l c, d = .slice a l c ∧ ((∃ b l' c', x = .slice b l' c' ∧ Nat.min l' l = 0) ∨ ∃ s, x = .string s ∧ Nat.min s.size l = 0)) :
    (Builtin.copy_ #[t, tx] ty #[d, x]).run P w = .ok (goInt 0) w := by
  obtain ⟨a, l, c, rfl, hx⟩ := hd
  have hl : ∀ (a : Addr), (loadCells a 0).run P w = .ok #[] w := fun a => by simpa using run_loadCells_list (P := P) w a [] (by simp)
  rcases hx with ⟨b, l', c', rfl, h0⟩ | ⟨s, rfl, h0⟩
  · cases a <;> cases b <;> simp [Builtin.copy_, underlying_run hu, Builtin.lenOf, Builtin.firstCells, sizeO_run hk, h0, storeCells, hl]
  · have he : ((s.extract 0 0).data.map (fun b => (Value.int .u8 b.toNat : Value))) = #[] := by
      apply Array.ext'
      simp
    cases a <;> simp [Builtin.copy_, underlying_run hu, Builtin.lenOf, Builtin.firstCells, sizeO_run hk, h0, storeCells, he]

theorem firstCells_str (k n : Nat) (s : ByteArray) : (Builtin.firstCells k n (.string s)).run P w = .ok ((byteCells s).take n).toArray w := by
  simp only [Builtin.firstCells, Sem.run_pure]
  congr 1
  apply Array.ext'
  simp [byteCells]

theorem copy_ok (hR : Rel lo μ S w) {t tx ty : TypeId} {d d' x x' v : Value} {S' : St} (hd : VR μ d d') (hx : VR μ x x') (h : copyV P t tx d x S = some (v, S')) :
    ∃ v' w', (Builtin.copy_ #[t, tx] ty #[d', x']).run P w = .ok v' w' ∧ VR μ v v' ∧ Post lo μ w S' μ w' := by
  unfold copyV at h
  split at h
  · rename_i e hu
    split at h
    · rename_i k hk
      -- nothing goes over
      have zero : (∃ a l c, d' = .slice a l c ∧ ((∃ b l' c', x' = .slice b l' c' ∧ Nat.min l' l = 0) ∨ ∃ s, x' = .string s ∧ Nat.min s.size l = 0)) → some (goInt 0, S) = some (v, S') →
          ∃ v' w', (Builtin.copy_ #[t, tx] ty #[d', x']).run P w = .ok v' w' ∧ VR μ v v' ∧ Post lo μ w S' μ w' := by
        intro h0 he
        injection he with he
        injection he with h1 h2
        subst h1; subst h2
        exact ⟨_, _, copy_none hu hk h0, VR.int _ _, Post.refl hR⟩
      split at h
      · rename_i dl _ sl _
        split at h
        · rename_i h0; cases hd; cases hx; exact zero ⟨_, _, _, rfl, .inl ⟨_, _, _, rfl, h0⟩⟩ h
        · cases h
      · rename_i dl _ _ _ sl _
        split at h
        · rename_i h0; cases hd; cases hx <;> exact zero ⟨_, _, _, rfl, .inl ⟨_, _, _, rfl, h0⟩⟩ h
        · cases h
      · rename_i _ _ dl _ sl _
        split at h
        · rename_i h0; cases hx; cases hd <;> exact zero ⟨_, _, _, rfl, .inl ⟨_, _, _, rfl, h0⟩⟩ h
        · cases h
      · rename_i b o dl dc m off sl sc
        simp only at h
        split at h
        · rename_i h0
          cases hd <;> cases hx <;> exact zero ⟨_, _, _, rfl, .inl ⟨_, _, _, rfl, h0⟩⟩ h
        · rename_i h0
          cases hr : rowAt S m off (Nat.min sl dl * k) with
          | none => simp [hr] at h
          | some l =>
            simp only [hr, Option.bind_some] at h
            cases hput : putRow S b o l with
            | none => simp [hput] at h
            | some S'' =>
              simp only [hput, Option.map_some] at h
              injection h with h
              injection h with h1 h2
              subst h1; subst h2
              obtain ⟨l', q1, q2, q3, hm⟩ := rowAt_mem hR hr
              obtain ⟨hb, p1, p2, p3, hp⟩ := putRow_run hR hput q1
              have hst := storeCells_run (P := P) p1 p2 p3
              have hld := loadCells_run (P := P) q3
              rw [q2] at hld
              have hgo : ∀ c c', (Builtin.copy_ #[t, tx] ty #[.slice (some ⟨μ.blk b, o, none⟩) dl c, .slice (some ⟨μ.blk m, off, none⟩) sl c']).run P w = .ok (goInt (Nat.min sl dl)) (w.setCells (μ.blk b) o l') := by
                intro c c'
                simp [Builtin.copy_, underlying_run hu, Builtin.lenOf, Builtin.firstCells, sizeO_run hk, hld, hst]
              have hz0 : Nat.min sl 0 = 0 := Nat.min_zero _
              have hz1 : Nat.min 0 dl = 0 := Nat.zero_min _
              cases hd with
              | sl00 => exact absurd hz0 h0
              | sle => exact absurd hz0 h0
              | sl =>
                cases hx with
                | sl00 => exact absurd hz1 h0
                | sle => exact absurd hz1 h0
                | sl => exact ⟨_, _, hgo _ _, VR.int _ _, hp⟩
                | slx => exact ⟨_, _, hgo _ _, VR.int _ _, hp⟩
              | slx =>
                cases hx with
                | sl00 => exact absurd hz1 h0
                | sle => exact absurd hz1 h0
                | sl => exact ⟨_, _, hgo _ _, VR.int _ _, hp⟩
                | slx => exact ⟨_, _, hgo _ _, VR.int _ _, hp⟩
      · rename_i b o dl dc s
        simp only at h
        split at h
        · rename_i hk1
          split at h
          · rename_i h0
            cases hx
            cases hd <;> exact zero ⟨_, _, _, rfl, .inr ⟨_, rfl, h0⟩⟩ h
          · rename_i h0
            cases hput : putRow S b o ((byteCells s).take (Nat.min s.size dl)) with
            | none => simp [hput] at h
            | some S'' =>
              simp only [hput, Option.map_some] at h
              injection h with h
              injection h with h1 h2
              subst h1; subst h2
              cases hx
              obtain ⟨hb, p1, p2, p3, hp⟩ := putRow_run hR hput ((afs_refl μ (byteCells_af s)).take _)
              have hst := storeCells_run (P := P) p1 p2 p3
              have hgo : ∀ c, (Builtin.copy_ #[t, tx] ty #[.slice (some ⟨μ.blk b, o, none⟩) dl c, .string s]).run P w = .ok (goInt (Nat.min s.size dl)) (w.setCells (μ.blk b) o ((byteCells s).take (Nat.min s.size dl))) := by
                intro c
                simp only [Builtin.copy_, Sem.run_bind, underlying_run hu, Builtin.lenOf, firstCells_str, sizeO_run hk, Result.andThen, Sem.run_pure, hst, List.getElem?_toArray]
                simp [underlying_run hu, firstCells_str, sizeO_run hk, hst]
              have hz0 : Nat.min s.size 0 = 0 := Nat.min_zero _
              cases hd with
              | sl00 => exact absurd hz0 h0
              | sle => exact absurd hz0 h0
              | sl => exact ⟨_, _, hgo _, VR.int _ _, hp⟩
              | slx => exact ⟨_, _, hgo _, VR.int _ _, hp⟩
        · cases h
      · cases h
    · cases h
  · cases h

/-! ## make -/

theorem makeSlice_ok (hR : Rel lo μ S w) {t : TypeId} {l l' c c' v : Value} {S' : St} (hl : VR μ l l') (hc : VR μ c c') (h : makeSliceV P t l c S = some (v, S')) :
    ∃ v' μ' w', (Instr.makeSlice t l' c').run P w = .ok v' w' ∧ VR μ' v v' ∧ Post lo μ w S' μ' w' := by
  unfold makeSliceV at h
  split at h
  · rename_i e n m hu
    cases hl; cases hc
    split at h
    · rename_i i hi
      split at h
      · rename_i z hz
        split at h
        · rename_i hcond
          obtain ⟨c1, c2, c3, c4, c5, c6⟩ := hcond
          injection h with h
          injection h with h1 h2
          subst h1; subst h2
          have w1 : IntKind.i64.wrap n = n := by simp [IntKind.wrap, IntKind.signed, IntKind.bits]; omega
          have w2 : IntKind.i64.wrap m = m := by simp [IntKind.wrap, IntKind.signed, IntKind.bits]; omega
          have hafs : ∀ k, afs (List.replicate k z.cells.toList).flatten = true := by
            intro k
            induction k with
            | zero => rfl
            | succ k ih =>
              rw [List.replicate_succ, List.flatten_cons]
              have app : ∀ a b : List Value, afs a = true → afs b = true → afs (a ++ b) = true := by
                intro a b ha hb
                induction a with
                | nil => exact hb
                | cons x a iha => simp [afs] at ha ⊢; exact ⟨ha.1, iha ha.2⟩
              exact app _ _ c6 ih
          have key : ∀ cs : Array Value, cs.toList = (List.replicate m.toNat z.cells.toList).flatten →
              VR (μ.ext w.heap.size 0 0) (.slice (some ⟨S.cnt, 0, none⟩) n.toNat m.toNat) (.slice (some ⟨w.heap.size, 0, none⟩) n.toNat m.toNat) ∧
                Post lo μ w (S.push (.cells (List.replicate m.toNat z.cells.toList).flatten e 0 false)) (μ.ext w.heap.size 0 0) (w.alloc (.cells cs e)) := by
            intro cs hcs
            have := newRowV_ok hR (t := e) (vs := (List.replicate m.toNat z.cells.toList).flatten) (vs' := cs.toList) (by rw [hcs]; exact afs_refl μ (hafs _))
            refine ⟨?_, by simpa [newRowV] using this.2⟩
            have h3 := VR.sl (μ := μ.ext w.heap.size 0 0) μ.n 0 n.toNat m.toNat (by simp) (by unfold capx; omega)
            rw [Mu.ext_blk] at h3
            simpa [hR.n] using h3
          have hrep := replicate_range z.cells m.toNat
          rw [c5] at hrep
          have d1 : ¬ ((m < 0 ∨ (281474976710656 : Int) < (i.bytes : Int) * m) ∨ n < 0) := by omega
          have d2 : ¬ (m < n) := by omega
          by_cases h0 : m.toNat * i.size = 0
          · obtain ⟨k1, k2⟩ := key ((Array.range (m.toNat * i.size)).map (fun j => (#[] : Array Value)[j % (#[] : Array Value).size]!)) (by
              rw [h0]
              have : (List.replicate m.toNat z.cells.toList).flatten.length = 0 := by simp [c5, h0]
              rw [List.eq_nil_of_length_eq_zero this]; simp)
            refine ⟨_, _, _, ?_, k1, k2⟩
            simp [Instr.makeSlice, underlying_run hu, asInt, asIntOf, typeInfo, hi, w1, w2, sizeOf, newRow, d1, d2, h0]
          · obtain ⟨k1, k2⟩ := key _ hrep
            refine ⟨_, _, _, ?_, k1, k2⟩
            simp [Instr.makeSlice, underlying_run hu, asInt, asIntOf, typeInfo, hi, hz, zeroValue, w1, w2, sizeOf, newRow, d1, d2, h0, c5]
        · cases h
      · cases h
    · cases h
  · cases h


/-! ## Conversions -/

theorem toBytes_spec : ∀ {l : List Value} {r : List UInt8}, toBytes l = some r → afs l = true ∧ ∀ (s : ByteArray), (∀ (k : List Value → Sem ByteArray), True) → True := by
  intro l r h
  refine ⟨?_, fun _ _ => trivial⟩
  induction l generalizing r with
  | nil => rfl
  | cons x l ih =>
    unfold toBytes at h
    split at h
    · rename_i e; cases e
    · rename_i n l' e
      injection e with e1 e2
      subst e1; subst e2
      cases hr : toBytes l with
      | none => simp [hr] at h
      | some r' => simp [afs, af1, ih hr]
    · cases h

theorem bytes_loop (g : Value → ByteArray → Sem (ForInStep ByteArray)) (hg : ∀ n s, g (.int .u8 n) s = Pure.pure (ForInStep.yield (s.push (UInt8.ofNat n.toNat)))) :
    ∀ (l : List Value) (r : List UInt8) (s : ByteArray) (w : World), toBytes l = some r → (forIn (m := Sem) l s g).run P w = .ok ⟨(s.data.toList ++ r).toArray⟩ w
  | [], r, s, w, h => by
    simp [toBytes] at h
    subst h
    simp
  | x :: l, r, s, w, h => by
    unfold toBytes at h
    split at h
    · rename_i e; cases e
    · rename_i n l' e
      injection e with e1 e2
      subst e1; subst e2
      cases hr : toBytes l with
      | none => simp [hr] at h
      | some r' =>
        simp [hr] at h
        subst h
        have := bytes_loop g hg l r' (s.push (UInt8.ofNat n.toNat)) w hr
        simp only [List.forIn_cons, Sem.run_bind, hg, Sem.run_pure, Result.andThen]
        rw [this]
        simp [ByteArray.push]
    · cases h

theorem runes_loop (g : Value → ByteArray → Sem (ForInStep ByteArray)) (hg : ∀ n s, g (.int .i32 n) s = Pure.pure (ForInStep.yield (s ++ Utf8.encode n))) :
    ∀ (l : List Value) (r : List Int) (s : ByteArray) (w : World), toRunes l = some r → (forIn (m := Sem) l s g).run P w = .ok (r.foldl (fun s n => s ++ Utf8.encode n) s) w
  | [], r, s, w, h => by
    simp [toRunes] at h
    subst h
    simp
  | x :: l, r, s, w, h => by
    unfold toRunes at h
    split at h
    · rename_i e; cases e
    · rename_i n l' e
      injection e with e1 e2
      subst e1; subst e2
      cases hr : toRunes l with
      | none => simp [hr] at h
      | some r' =>
        simp [hr] at h
        subst h
        have := runes_loop g hg l r' (s ++ Utf8.encode n) w hr
        simp only [List.forIn_cons, Sem.run_bind, hg, Sem.run_pure, Result.andThen]
        rw [this]
        rfl
    · cases h

theorem freeze_alloc (w : World) (cs : Array Value) (e : TypeId) (n : Nat) : (w.alloc (.cells cs e)).freeze { block := w.heap.size, off := n } 1 = w.alloc (.cells cs e (n, n + 1)) := by
  unfold World.freeze World.alloc
  rw [if_neg (by decide)]
  congr 1
  apply Array.ext
  · simp
  · intro i h1 h2
    simp only [Array.getElem_modify]
    by_cases hi : w.heap.size = i
    · subst hi; simp
    · rw [if_neg hi]
      simp at h2
      have : i < w.heap.size := by omega
      simp [Array.getElem_push, this]

theorem markStringish_new (w : World) (cs : Array Value) (e : TypeId) : (markStringish ⟨w.heap.size, 0, none⟩).run P (w.alloc (.cells cs e)) = .ok () (w.alloc (.cells cs e (cs.size, cs.size + 1))) := by
  have : (w.alloc (.cells cs e)).shape? w.heap.size = some (e, cs.size) := by
    unfold World.shape?
    rw [heap_alloc_new]
  simp only [markStringish, Sem.run_bind, run_shape, this, Result.andThen, run_freeze, freeze_alloc]

theorem toRunes_af : ∀ {l : List Value} {r : List Int}, toRunes l = some r → afs l = true
  | [], r, h => rfl
  | x :: l, r, h => by
    unfold toRunes at h
    split at h
    · rename_i e; cases e
    · rename_i n l' e
      injection e with e1 e2
      subst e1; subst e2
      cases hr : toRunes l with
      | none => simp [hr] at h
      | some r' => simp [afs, af1, toRunes_af hr]
    · cases h

theorem bytes_ok (hR : Rel lo μ S w) {e : TypeId} {s : ByteArray} {v : Value} {S' : St} (h : bytesV P e s S = some (v, S')) :
    ∃ v' μ' w', (Conv.stringToBytes e s).run P w = .ok v' w' ∧ VR μ' v v' ∧ Post lo μ w S' μ' w' := by
  unfold bytesV at h
  split at h
  · rename_i hsz
    injection h with h
    injection h with h1 h2
    subst h1; subst h2
    let cap := (Question.appendCap s.size 0 e).cut (w.tape w.drawn (.appendCap s.size 0 e))
    have hcap : s.size ≤ cap := by show s.size ≤ s.size + _; omega
    let cs : Array Value := s.data.map (fun b => (Value.int .u8 b.toNat : Value)) ++ Array.replicate (cap - s.size) (.int .u8 0)
    have hcs : cs.size = cap := by simp [cs]; show s.data.size + _ = _; have : s.data.size = s.size := rfl; omega
    have htake : cs.toList.take (byteCells s).length = byteCells s := by
      rw [show cs.toList = byteCells s ++ List.replicate (cap - s.size) (.int .u8 0) by simp [cs, byteCells]]
      rw [List.take_append_of_le_length (Nat.le_refl _), take_self _ _ rfl]
    have h0 : Rel lo μ S w.drew := hR.drew
    have hlen : (byteCells s).length = s.size := byteCells_length s
    have hw' : Post lo μ w (S.push (.cells (byteCells s) e 1 true)) (μ.ext w.heap.size cap 1) (w.drew.alloc (.cells cs e (cap, cap + 1))) := by
      refine (Post.drew hR).trans (h0.alloc _ _ cap 1 ?_ ?_)
      · refine ⟨cs, (cap, cap + 1), ?_, ?_, by rw [hlen, hcs]; exact hcap, fun h => by simp at h, fun _ => ⟨?_, ?_⟩, fun h => by simp at h⟩
        · rw [Mu.ext_blk]; exact heap_alloc_new _ _
        · rw [htake]; exact afs_refl _ (byteCells_af s)
        · rw [Mu.ext_cap, hcs, Nat.mul_one]
        · rw [Mu.ext_esz]
      · intro off ho
        have hb : (w.drew.alloc (.cells cs e (cap, cap + 1))).heap[w.drew.heap.size]? = some (.cells cs e (cap, cap + 1)) := heap_alloc_new _ _
        simp only [World.cell?, hb] at ho
        simp at ho
        simp only [World.frozen?, hb]
        rw [hcs] at ho
        simp
        omega
    refine ⟨.slice (some ⟨w.heap.size, 0, none⟩) s.size cap, _, _, ?_, ?_, hw'⟩
    · have h1 := markStringish_new (P := P) w.drew cs e
      rw [hcs] at h1
      simp only [World.size_drew] at h1
      have h2 : (choose (.appendCap s.size 0 e)).run P w = .ok cap w.drew := by simp [Question.forced, cap]
      simp only [Conv.stringToBytes, Sem.run_bind, h2, Result.andThen, newRow, run_newObj, Sem.run_pure, World.alloc_eq, World.size_drew]
      rw [h1]
    · have := VR.slx (μ := μ.ext w.heap.size cap 1) μ.n 0 s.size cap 0 (by simp) (by simp) (by simp) hcap
      rw [Mu.ext_blk, hR.n] at this
      exact this
  · cases h

/-- A row that a text may share from now on. -/
theorem mark_ok (hR : Rel lo μ S w) {n : Nat} {c : List Value} {e : TypeId} {g : Nat} (hn : S.get n = some (.cells c e g false)) (hb : S.base ≤ n) (off : Nat) :
    ∃ w', (markStringish ⟨μ.blk n, off, none⟩).run P w = .ok () w' ∧ Post lo μ w (S.set n (some (.cells c e g true))) μ w' := by
  obtain ⟨cs, fr, h1, h2, h3, h4, h5, h6⟩ := hR.obj n _ hn
  rw [h6 rfl] at h1
  have hsh : w.shape? (μ.blk n) = some (e, cs.size) := by simp [World.shape?, h1]
  refine ⟨w.freeze { block := μ.blk n, off := cs.size } 1, by simp [markStringish, hsh], ?_⟩
  have hheap : (w.freeze { block := μ.blk n, off := cs.size } 1).heap = w.heap.modify (μ.blk n) fun
      | .cells c elem (lo, hi) => .cells c elem (if lo == hi then (cs.size, cs.size + 1) else (min lo cs.size, max hi (cs.size + 1)))
      | o => o := by
    unfold World.freeze
    rw [if_neg (by decide)]
    rfl
  have hself : (w.freeze { block := μ.blk n, off := cs.size } 1).heap[μ.blk n]? = some (.cells cs e (cs.size, cs.size + 1)) := by
    rw [hheap, Array.getElem?_modify, if_pos rfl, h1]
    simp
  have hoth : ∀ k, k ≠ μ.blk n → (w.freeze { block := μ.blk n, off := cs.size } 1).heap[k]? = w.heap[k]? := fun k hk => by
    rw [hheap, Array.getElem?_modify, if_neg (Ne.symm hk)]
  have hsz : (w.freeze { block := μ.blk n, off := cs.size } 1).heap.size = w.heap.size := by rw [hheap]; simp
  have hne : ∀ i o, i ≠ n → S.get i = some o → μ.blk i ≠ μ.blk n := fun i o hi hgi e => hi (hR.inj i n _ _ hgi hn e)
  have hown := hR.own n _ hb hn
  refine ⟨μ.le_refl, ⟨hR.n, hR.bc, by rw [hsz]; exact hR.lw, ?_, ?_, ?_, ?_, ?_⟩, ⟨?_, ?_, ?_, by rw [hsz]; exact Nat.le_refl _, fun k hk => hoth k (by omega)⟩⟩
  · intro i o hi
    rw [St.get_set _ _ _ _ hb] at hi
    split at hi
    · rename_i e; rw [e]; exact hR.lt n _ hn
    · exact hR.lt i o hi
  · intro i o hi
    rw [St.get_set _ _ _ _ hb] at hi
    split at hi
    · rename_i ei
      injection hi with hi
      subst hi; subst ei
      exact ⟨cs, (cs.size, cs.size + 1), hself, h2, h3, h4, h5, fun h => by simp at h⟩
    · rename_i ei
      exact (hR.obj i o hi).congr (hoth _ (hne i o ei hi))
  · intro i j oi oj hi hj
    rw [St.get_set _ _ _ _ hb] at hi hj
    split at hi
    · rename_i ei
      split at hj
      · rename_i ej; rw [ei, ej]; simp
      · rw [ei]; exact hR.inj n j _ oj hn hj
    · split at hj
      · rename_i ej; rw [ej]; exact hR.inj i n oi _ hi hn
      · exact hR.inj i j oi oj hi hj
  · intro i o hbi hi
    rw [St.get_set _ _ _ _ hb] at hi
    split at hi
    · rename_i ei; rw [ei]; exact hR.own n _ hb hn
    · exact hR.own i o hbi hi
  · intro i o hbi hi off hc
    rw [St.get_set _ _ _ _ hb] at hi
    split at hi
    · rename_i ei
      subst ei
      simp only [World.cell?, hself] at hc
      simp at hc
      simp only [World.frozen?, hself]
      simp
      omega
    · rename_i ei
      have e := hoth _ (hne i o ei hi)
      rw [World.frozen?_of_block (w := w) e]
      rw [World.cell?_of_block (w := w) e] at hc
      exact hR.wr i o hbi hi off hc
  · unfold World.freeze; rw [if_neg (by decide)]
  · unfold World.freeze; rw [if_neg (by decide)]
  · unfold World.freeze; rw [if_neg (by decide)]

theorem convert_ok (hR : Rel lo μ S w) {a b : TypeId} {x x' v : Value} {S' : St} (hx : VR μ x x') (h : convertV P a b x S = some (v, S')) :
    ∃ v' μ' w', (convert a b x').run P w = .ok v' w' ∧ VR μ' v v' ∧ Post lo μ w S' μ' w' := by
  unfold convertV at h
  split at h
  · rename_i e s hu1 hu2
    split at h
    · rename_i he
      cases hx
      obtain ⟨v', μ', w', h1, h2, h3⟩ := bytes_ok (P := P) hR h
      exact ⟨v', μ', w', by simp [convert, underlying_run hu1, underlying_run hu2, underlying_run he, h1], h2, h3⟩
    · cases h
  · rename_i e0 e n off len cap hu1 hu2
    split at h
    · rename_i c t gr he hg
      split at h
      · rename_i hcond
        injection h with h
        injection h with h1 h2
        subst h1; subst h2
        have hsd : (a == b) = true := by simpa using hcond.1
        have go : ∀ (m og l' c' : Nat), (∃ w', (markStringish ⟨m, og, none⟩).run P w = .ok () w' ∧ Post lo μ w (S.set n (some (.cells c t gr true))) μ w') →
            ∃ w', (convert a b (.slice (some ⟨m, og, none⟩) l' c')).run P w = .ok (.slice (some ⟨m, og, none⟩) l' c') w' ∧ Post lo μ w (S.set n (some (.cells c t gr true))) μ w' := by
          rintro m og l' c' ⟨w', h1, h2⟩
          exact ⟨w', by simp [convert, underlying_run hu1, underlying_run hu2, underlying_run he, hsd, h1], h2⟩
        cases hx with
        | sl _ _ _ _ hn hcx =>
          obtain ⟨w', h1, h2⟩ := go _ _ len cap (mark_ok (P := P) hR hg hcond.2.1 off)
          exact ⟨_, μ, w', h1, VR.sl _ _ _ _ hn hcx, h2⟩
        | slx => exact absurd rfl hcond.2.2.2
        | sl00 => exact absurd rfl hcond.2.2.1
        | sle => exact absurd rfl hcond.2.2.2
      · cases h
    · cases h
  · rename_i e l c hu1 hu2
    cases hx
    split at h
    · rename_i he
      injection h with h
      injection h with h1 h2
      subst h1; subst h2
      exact ⟨_, μ, w, by simp [convert, underlying_run hu1, underlying_run hu2, underlying_run he, Conv.bytesToString], VR.string _, Post.refl hR⟩
    · rename_i he
      injection h with h
      injection h with h1 h2
      subst h1; subst h2
      exact ⟨_, μ, w, by simp [convert, underlying_run hu1, underlying_run hu2, underlying_run he, Conv.runesToString], VR.string _, Post.refl hR⟩
    · cases h
  · rename_i e n off len c hu1 hu2
    have hl0 : ∀ (a : Addr), (loadCells a 0).run P w = .ok #[] w := fun a => by simpa using run_loadCells_list (P := P) w a [] (by simp)
    -- the cells, in memory
    have cells : ∀ l, (if len = 0 then some [] else rowAt S n off len) = some l → afs l = true → ∃ (bb oo c' : Nat), x' = .slice (some ⟨bb, oo, none⟩) len c' ∧ (loadCells ⟨bb, oo, none⟩ len).run P w = .ok l.toArray w := by
      intro l hl haf
      by_cases h0 : len = 0
      · subst h0
        simp at hl
        subst hl
        cases hx <;> exact ⟨_, _, _, rfl, hl0 _⟩
      · rw [if_neg h0] at hl
        obtain ⟨l', q1, q2, q3, hm⟩ := rowAt_mem hR hl
        have hld := loadCells_run (P := P) q3
        rw [q2, afs_eq q1 haf] at hld
        cases hx with
        | sl => exact ⟨_, _, _, rfl, hld⟩
        | slx => exact ⟨_, _, _, rfl, hld⟩
        | sl00 => exact absurd rfl h0
        | sle => exact absurd rfl h0
    split at h
    · rename_i he
      have : ∃ l r, (if len = 0 then some [] else rowAt S n off len) = some l ∧ toBytes l = some r ∧ v = .string ⟨r.toArray⟩ ∧ S' = S := by
        by_cases h0 : len = 0
        · simp [h0] at h
          exact ⟨[], [], by simp [h0], rfl, h.1.symm, h.2.symm⟩
        · simp only [h0, if_false] at h
          cases hr : rowAt S n off len with
          | none => simp [hr] at h
          | some l =>
            simp only [hr, Option.bind_some] at h
            cases ht : toBytes l with
            | none => simp [ht] at h
            | some r =>
              simp [ht] at h
              exact ⟨l, r, by simp [h0], ht, h.1.symm, h.2.symm⟩
      obtain ⟨l, r, hl, hr, rfl, rfl⟩ := this
      obtain ⟨bb, oo, c', rfl, hld⟩ := cells l hl (toBytes_spec hr).1
      refine ⟨_, μ, w, ?_, VR.string _, Post.refl hR⟩
      simp only [convert, Sem.run_bind, underlying_run hu1, underlying_run hu2, underlying_run he, Conv.bytesToString, hld, Result.andThen]
      simp only [List.forIn_toArray, Sem.run_bind]
      rw [bytes_loop _ (fun n s => rfl) l r ByteArray.empty w hr]
      simp [Result.andThen]
    · rename_i he
      have : ∃ l r, (if len = 0 then some [] else rowAt S n off len) = some l ∧ toRunes l = some r ∧ v = .string (r.foldl (fun s n => s ++ Utf8.encode n) ByteArray.empty) ∧ S' = S := by
        by_cases h0 : len = 0
        · simp [h0] at h
          exact ⟨[], [], by simp [h0], rfl, h.1.symm, h.2.symm⟩
        · simp only [h0, if_false] at h
          cases hr : rowAt S n off len with
          | none => simp [hr] at h
          | some l =>
            simp only [hr, Option.bind_some] at h
            cases ht : toRunes l with
            | none => simp [ht] at h
            | some r =>
              simp [ht] at h
              exact ⟨l, r, by simp [h0], ht, h.1.symm, h.2.symm⟩
      obtain ⟨l, r, hl, hr, rfl, rfl⟩ := this
      obtain ⟨bb, oo, c', rfl, hld⟩ := cells l hl (toRunes_af hr)
      refine ⟨_, μ, w, ?_, VR.string _, Post.refl hR⟩
      simp only [convert, Sem.run_bind, underlying_run hu1, underlying_run hu2, underlying_run he, Conv.runesToString, hld, Result.andThen]
      simp only [List.forIn_toArray, Sem.run_bind]
      rw [runes_loop _ (fun n s => rfl) l r ByteArray.empty w hr]
      simp [Result.andThen]
    · cases h
  · cases h

end
end Go.AM
