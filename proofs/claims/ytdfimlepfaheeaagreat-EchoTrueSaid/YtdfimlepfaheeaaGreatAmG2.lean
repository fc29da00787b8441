/- AmG2: copies of rows. -/
import Derived.Test.YtdfimlepfaheeaaGreatAmG1
import Derived.Test.YtdfimlepfaheeaaGreatAmW
set_option linter.unusedVariables false
set_option linter.unusedSimpArgs false
namespace Go.AM

theorem ones_flat {n : Nat} {f : Nat → List Value} (h : ∀ i, i < n → ones (f i) = true) : ones (flat n f) = true := by
  have app : ∀ a b : List Value, ones a = true → ones b = true → ones (a ++ b) = true := by
    intro a b ha hb
    induction a with
    | nil => exact hb
    | cons x l ih => simp only [ones, List.cons_append, Bool.and_eq_true] at ha ⊢; exact ⟨ha.1, ih ha.2⟩
  induction n with
  | zero => rfl
  | succ n ih => simp only [flat]; exact app _ _ (ih fun i hi => h i (by omega)) (h n (by omega))

theorem clone_cells {S : St} (hw : S.base ≤ S.cnt) {n off len cap : Nat} {l : List Value} (hl : 0 < len) (hsm : len ≤ 1000000) (hr : rowAt S n off (len * 4) = some l) (hn : n < S.cnt) (ho : ones l = true) :
    cs n_slices_Clone_grid_Cell_grid_Cell [.slice (some ⟨n, off, none⟩) len cap] S = some (.slice (some ⟨S.cnt + 1, 0, none⟩) len capx, (S.push (.cells [] t_grid_Cell 0 false)).push (.cells l t_grid_Cell 4 false)) := by
  have hpush : (S.push (.cells [] t_grid_Cell 0 false)).get S.cnt = some (.cells [] t_grid_Cell 0 false) := by rw [St.get_push _ _ _ hw, if_pos rfl]
  have hr' : rowAt (S.push (.cells [] t_grid_Cell 0 false)) n off (len * 4) = some l := by
    rw [← hr]; simp only [rowAt]; rw [St.get_push _ _ _ hw, if_neg (by omega)]
  apply csE is_slices_Clone_grid_Cell_grid_Cell rfl rfl
  have ha := appendV_fresh (S := S.push (.cells [] t_grid_Cell 0 false)) e_S_grid_Cell (by decide) (srcV_slice (cap := cap) e_S_grid_Cell hl hr' ho) hl (by omega) hpush
  have hc : (S.push (.cells [] t_grid_Cell 0 false)).cnt = S.cnt + 1 := rfl
  rw [hc] at ha
  simp [funA_run, a_slices_Clone_grid_Cell_grid_Cell, binV, af, af1, eqV, buildSliceV_0 e_S_grid_Cell, ha]

theorem rowAt_stays {S S' : St} {A : Nat → Prop} (hs : Stays S S' A) {n off k : Nat} {l : List Value} (hn : n < S.cnt) (hA : ¬ A n) (h : rowAt S n off k = some l) : rowAt S' n off k = some l := by
  rw [← h]; simp only [rowAt, hs.get n hn hA]

/-- A row's cells lie there. -/
theorem GridAt.rowCells {S : St} {G : GL} {cols rows : Nat} {cell : Nat → Nat → CV} (h : GridAt S G cols rows cell) {i : Nat} (hi : i < rows) : rowAt S (G.R i) 0 (cols * 4) = some (flat cols fun j => (cell i j).vals) := by
  obtain ⟨T, x, s, h2, hk2⟩ := h.row i hi
  have hl := flat_length (n := cols) (k := 4) (f := fun j => (cell i j).vals) (fun i hi => rfl)
  rw [rowAt_of h2 (by omega), List.drop_zero, List.take_of_length_le (by omega)]

theorem GridAt.congr {S : St} {G : GL} {cols rows : Nat} {cell cell' : Nat → Nat → CV} (h : GridAt S G cols rows cell) (he : ∀ i j, i < rows → j < cols → cell i j = cell' i j) : GridAt S G cols rows cell' :=
  ⟨h.hdr, h.tbl, fun i hi => by
    obtain ⟨T, x, s, h2, hk2⟩ := h.row i hi
    exact ⟨T, x, s, by rw [h2]; congr 2; exact flat_congr fun j hj => by rw [he i j hi hj], hk2⟩, h.open_, h.gb, h.lb, h.rb, h.gl, h.rg, h.inj, h.small⟩

theorem grid_Line {S : St} {G : GL} {cols rows : Nat} {cell : Nat → Nat → CV} (h : GridAt S G cols rows cell) {r : Nat} (hr : r < rows) (hc : 0 < cols) :
    cs n_grid_Grid_Line [G.ptr, .int .i64 r] S = some (.tuple #[.slice (some ⟨S.cnt + 1, 0, none⟩) cols capx, .int .i64 0], (S.push (.cells [] t_grid_Cell 0 false)).push (.cells (flat cols fun j => (cell r j).vals) t_grid_Cell 4 false)) := by
  obtain ⟨T, x, h1⟩ := h.hdr
  have hsm := h.small
  have hh := grid_has h (Nat.lt_of_le_of_lt (Nat.zero_le _) hr) r 0 (by omega)
  have hcl := clone_cells (cap := G.K r) h.wf hc (by omega) (h.rowCells hr) (h.rb r hr).2 (ones_flat fun i hi => rfl)
  apply csE is_grid_Grid_Line rfl rfl
  simp [funA_run, a_grid_Grid_Line, hh, rowAt_of h1, idxSV_ok, hr, h.slice hr, hcl]

/-- Some cells of a row are others. -/
theorem grid_Fill {S : St} {G : GL} {cols rows : Nat} {cell : Nat → Nat → CV} (h : GridAt S G cols rows cell) (hc : 0 < cols) {r a b : Nat} (hr : r < rows) (x : CV) :
    Ok (cs n_grid_Grid_Fill [G.ptr, .int .i64 r, .int .i64 a, .int .i64 b, x.agg] S) fun q => q.1 = .int .i64 0 ∧ GridAt q.2 G cols rows (fun i j => if i = r ∧ a ≤ j ∧ j < b then x else cell i j) ∧ Stays S q.2 (fun n => n = G.R r) := by
  have h' := h.push (.cells x.vals t_grid_Cell 0 false)
  obtain ⟨T, y, h1⟩ := h'.hdr
  have hpush : (S.push (.cells x.vals t_grid_Cell 0 false)).get S.cnt = some (.cells x.vals t_grid_Cell 0 false) := by rw [St.get_push _ _ _ h.wf, if_pos rfl]
  have hh := grid_has h' (Nat.lt_of_le_of_lt (Nat.zero_le _) hr) r 0 (by omega)
  apply csOk is_grid_Grid_Fill rfl rfl
  simp [funA_run, a_grid_Grid_Fill, CV.agg, Value.cells, ones_vals, newRowV, hh]
  rw [Ok_endR, Ok_seqR, Ok_blockR]
  have ha0 : ¬ (a : Int) < 0 := by omega
  refine loop_ok (fun m ρ S2 => ∃ i : Nat, m = cols - i ∧ a ≤ i ∧ (i ≤ b ∨ i = a) ∧ ρ 0 = G.ptr ∧ ρ 1 = .int .i64 r ∧ ρ 3 = .int .i64 b ∧ ρ 9 = .pointer (some ⟨S.cnt, 0, none⟩) ∧ ρ 12 = .int .i64 i ∧
    GridAt S2 G cols rows (fun i' j => if i' = r ∧ a ≤ j ∧ j < i then x else cell i' j) ∧ Stays (S.push (.cells x.vals t_grid_Cell 0 false)) S2 (fun n => n = G.R r)) ?_ (n := cols - a) ⟨a, rfl, Nat.le_refl _, Or.inr rfl, ?_⟩
  · rintro m ρ S2 ⟨i, rfl, hai, hib, e0, e1, e3, e9, e12, hG, hst⟩
    obtain ⟨T2, y2, h2⟩ := hG.hdr
    have hsm := h.small
    have hbox : rowAt S2 S.cnt 0 4 = some x.vals := by
      refine rowAt_stays hst (Nat.lt_succ_self _) (fun q => ?_) (by rw [rowAt_of hpush (by simp)]; rfl)
      have := (h.rb r hr).2; omega
    by_cases hi : i < b ∧ i < cols
    · obtain ⟨T3, y3, s3, h3, hk3⟩ := hG.row r hr
      have hl := flat_length (n := cols) (k := 4) (f := fun j => (if r = r ∧ a ≤ j ∧ j < i then x else cell r j).vals) (fun i hi => rfl)
      have hstore := storeKV_of (k := 4) (off := i * 4) (v := .agg x.vals.toArray) rfl (hG.rb r hr).1 h3 (by omega) rfl
      have hset := hG.set hr hi.2 x h3 hk3
      have hlt : (i : Int) < (if cols < b then (cols : Int) else b) := by split <;> omega
      simp [e0, e1, e3, e9, e12, rowAt_of h2, idxSV_ok, hr, hi.2, hG.slice hr, hbox, hstore, hlt, Value.cells]
      refine ⟨cols - (i + 1), by omega, i + 1, rfl, by omega, by omega, ?_, ?_, ?_⟩
      · rw [wrap64 (by omega) (by omega)]; simp
      · have := hset.congr (cell' := fun i' j => if i' = r ∧ a ≤ j ∧ j < i + 1 then x else cell i' j) (fun i' j hi' hj => by
          by_cases q1 : i' = r <;> by_cases q2 : j = i <;> simp [q1, q2, hai] <;> (try congr 1) <;> grind)
        simpa using this
      · exact hst.trans (Stays.set (A := fun n => n = G.R r) (hG.rb r hr).1 rfl) (fun n _ hn => hn)
    · have hge : ¬ (i : Int) < (if cols < b then (cols : Int) else b) := by split <;> omega
      simp [e0, e1, e3, e9, e12, rowAt_of h2, hge]
      refine ⟨hG.congr fun i' j hi' hj => ?_, (Stays.push h.wf).trans hst (fun n _ hn => hn)⟩
      by_cases q1 : i' = r <;> simp [q1] <;> grind
  · simp [ha0]
    refine ⟨?_, Stays.refl _ _⟩
    exact h'.congr fun i' j hi' hj => by rw [if_neg (by omega)]

end Go.AM
