/- AmG1: what the grid's functions come to. -/
import Derived.Test.YtdfimlepfaheeaaGreatAmV
set_option linter.unusedVariables false
set_option linter.unusedSimpArgs false
namespace Go.AM

/-- A cell. -/
structure CV where
  p : Int
  fl : Int
  fg : Int
  bg : Int
def CV.vals (c : CV) : List Value := [.int .i32 c.p, .int .u8 c.fl, .int .u32 c.fg, .int .u32 c.bg]
@[simp] theorem CV.vals_length (c : CV) : c.vals.length = 4 := rfl
def CV.agg (c : CV) : Value := .agg c.vals.toArray

/-- Where a grid lies. -/
structure GL where
  g : Nat
  L : Nat
  cap : Nat
  R : Nat → Nat
  K : Nat → Nat

/-- A grid lies there. -/
structure GridAt (S : St) (G : GL) (cols rows : Nat) (cell : Nat → Nat → CV) : Prop where
  hdr : ∃ T x, S.get G.g = some (.cells [.int .i64 cols, .slice (some ⟨G.L, 0, none⟩) rows G.cap] T x false)
  tbl : ∃ T s, S.get G.L = some (.cells (flat rows fun i => [.slice (some ⟨G.R i, 0, none⟩) cols (G.K i)]) T 1 s)
  row : ∀ i, i < rows → ∃ T x s, S.get (G.R i) = some (.cells (flat cols fun j => (cell i j).vals) T x s) ∧ (G.K i = cols ∨ G.K i = capx ∧ x = 4)
  open_ : G.cap = capx
  gb : S.base ≤ G.g ∧ G.g < S.cnt
  lb : S.base ≤ G.L ∧ G.L < S.cnt
  rb : ∀ i, i < rows → S.base ≤ G.R i ∧ G.R i < S.cnt
  gl : G.g ≠ G.L
  rg : ∀ i, i < rows → G.R i ≠ G.g ∧ G.R i ≠ G.L
  inj : ∀ i j, i < rows → j < rows → G.R i = G.R j → i = j
  small : rows ≤ 1000 ∧ cols ≤ 1000

abbrev GL.ptr (G : GL) : Value := .pointer (some ⟨G.g, 0, none⟩)

theorem grid_made {S : St} {G : GL} {cols rows : Nat} {cell : Nat → Nat → CV} (h : GridAt S G cols rows cell) : cs n_grid_Grid_made [G.ptr] S = some (.bool (decide (0 < rows)), S) := by
  obtain ⟨T, x, h1⟩ := h.hdr
  apply csE is_grid_Grid_made rfl rfl
  simp [funA_run, a_grid_Grid_made, rowAt_of h1]

theorem grid_Rows {S : St} {G : GL} {cols rows : Nat} {cell : Nat → Nat → CV} (h : GridAt S G cols rows cell) : cs n_grid_Grid_Rows [G.ptr] S = some (.int .i64 rows, S) := by
  obtain ⟨T, x, h1⟩ := h.hdr
  apply csE is_grid_Grid_Rows rfl rfl
  simp [funA_run, a_grid_Grid_Rows, rowAt_of h1]

theorem grid_Cols {S : St} {G : GL} {cols rows : Nat} {cell : Nat → Nat → CV} (h : GridAt S G cols rows cell) : cs n_grid_Grid_Cols [G.ptr] S = some (.int .i64 cols, S) := by
  obtain ⟨T, x, h1⟩ := h.hdr
  apply csE is_grid_Grid_Cols rfl rfl
  simp [funA_run, a_grid_Grid_Cols, rowAt_of h1]

theorem grid_has {S : St} {G : GL} {cols rows : Nat} {cell : Nat → Nat → CV} (h : GridAt S G cols rows cell) (hr : 0 < rows) (r c : Int) (hrc : 0 ≤ r ∧ r < rows ∧ 0 ≤ c ∧ c < cols) : cs n_grid_Grid_has [G.ptr, .int .i64 r, .int .i64 c] S = some (.int .i64 0, S) := by
  obtain ⟨T, x, h1⟩ := h.hdr
  apply csE is_grid_Grid_has rfl rfl
  have e1 : ¬ r < 0 := by omega
  have e2 : ¬ (rows : Int) ≤ r := by omega
  have e3 : ¬ c < 0 := by omega
  have e4 : ¬ (cols : Int) ≤ c := by omega
  simp [funA_run, a_grid_Grid_has, rowAt_of h1, grid_made h, hr, e1, e2, e3, e4]

theorem GridAt.stays {S S' : St} {G : GL} {cols rows : Nat} {cell : Nat → Nat → CV} {A : Nat → Prop} (h : GridAt S G cols rows cell) (hs : Stays S S' A) (hA : ¬ A G.g ∧ ¬ A G.L ∧ ∀ i, i < rows → ¬ A (G.R i)) : GridAt S' G cols rows cell where
  hdr := by rw [hs.get _ h.gb.2 hA.1]; exact h.hdr
  tbl := by rw [hs.get _ h.lb.2 hA.2.1]; exact h.tbl
  row := fun i hi => by rw [hs.get _ (h.rb i hi).2 (hA.2.2 i hi)]; exact h.row i hi
  open_ := h.open_
  gb := ⟨hs.base ▸ h.gb.1, Nat.lt_of_lt_of_le h.gb.2 hs.cnt⟩
  lb := ⟨hs.base ▸ h.lb.1, Nat.lt_of_lt_of_le h.lb.2 hs.cnt⟩
  rb := fun i hi => ⟨hs.base ▸ (h.rb i hi).1, Nat.lt_of_lt_of_le (h.rb i hi).2 hs.cnt⟩
  gl := h.gl
  rg := h.rg
  inj := h.inj
  small := h.small

theorem GridAt.push {S : St} {G : GL} {cols rows : Nat} {cell : Nat → Nat → CV} (h : GridAt S G cols rows cell) (o : AObj) : GridAt (S.push o) G cols rows cell :=
  h.stays (Stays.push (A := fun _ => False) (Nat.le_of_lt (Nat.lt_of_le_of_lt h.gb.1 h.gb.2))) (by simp)

theorem GridAt.wf {S : St} {G : GL} {cols rows : Nat} {cell : Nat → Nat → CV} (h : GridAt S G cols rows cell) : S.base ≤ S.cnt := Nat.le_of_lt (Nat.lt_of_le_of_lt h.gb.1 h.gb.2)

theorem GridAt.slice {S : St} {G : GL} {cols rows : Nat} {cell : Nat → Nat → CV} (h : GridAt S G cols rows cell) {i : Nat} (hi : i < rows) : rowAt S G.L i 1 = some [.slice (some ⟨G.R i, 0, none⟩) cols (G.K i)] := by
  obtain ⟨T, s, h2⟩ := h.tbl
  have hl := flat_length (n := rows) (k := 1) (f := fun i => [.slice (some ⟨G.R i, 0, none⟩) cols (G.K i)]) (fun i hi => rfl)
  rw [rowAt_of h2 (by omega)]
  have := flat_row (n := rows) (k := 1) (f := fun i => [.slice (some ⟨G.R i, 0, none⟩) cols (G.K i)]) (fun i hi => rfl) hi
  rw [Nat.mul_one] at this
  rw [this]

/-- One cell is another one. -/
theorem GridAt.set {S : St} {G : GL} {cols rows : Nat} {cell : Nat → Nat → CV} (h : GridAt S G cols rows cell) {r c : Nat} (hr : r < rows) (hc : c < cols) (x : CV) {T k s} (hrow : S.get (G.R r) = some (.cells (flat cols fun j => (cell r j).vals) T k s)) (hkr : G.K r = cols ∨ G.K r = capx ∧ k = 4) :
    GridAt (S.set (G.R r) (some (.cells (putL (flat cols fun j => (cell r j).vals) (c * 4) x.vals) T k s))) G cols rows (fun i j => if i = r ∧ j = c then x else cell i j) := by
  have hb := (h.rb r hr).1
  have hst : Stays S (S.set (G.R r) (some (.cells (putL (flat cols fun j => (cell r j).vals) (c * 4) x.vals) T k s))) (fun n => n = G.R r) := Stays.set hb rfl
  refine ⟨?_, ?_, ?_, h.open_, ⟨h.gb.1, h.gb.2⟩, ⟨h.lb.1, h.lb.2⟩, fun i hi => h.rb i hi, h.gl, h.rg, h.inj, h.small⟩
  · rw [hst.get _ h.gb.2 (fun q => (h.rg r hr).1 q.symm)]; exact h.hdr
  · rw [hst.get _ h.lb.2 (fun q => (h.rg r hr).2 q.symm)]; exact h.tbl
  · intro i hi
    by_cases e : i = r
    · subst e
      rw [St.get_set _ _ _ _ hb, if_pos rfl]
      refine ⟨T, k, s, ?_, hkr⟩
      rw [flat_put (k := 4) (f := fun j => (cell i j).vals) (vs := x.vals) (fun i hi => rfl) hc rfl]
      congr 2
      exact flat_congr fun j hj => by by_cases e2 : j = c <;> simp [e2]
    · rw [hst.get _ (h.rb i hi).2 (fun q => e (h.inj i r hi hr q))]
      obtain ⟨T', k', s', h3, hk3⟩ := h.row i hi
      exact ⟨T', k', s', by rw [h3]; congr 2; exact flat_congr fun j hj => by simp [e], hk3⟩

theorem ones_vals (x : CV) : ones x.vals = true := rfl

theorem grid_Put {S : St} {G : GL} {cols rows : Nat} {cell : Nat → Nat → CV} (h : GridAt S G cols rows cell) {r c : Nat} (hr : r < rows) (hc : c < cols) (x : CV) :
    Ok (cs n_grid_Grid_Put [G.ptr, .int .i64 r, .int .i64 c, x.agg] S) fun q => q.1 = .int .i64 0 ∧ GridAt q.2 G cols rows (fun i j => if i = r ∧ j = c then x else cell i j) ∧ Stays S q.2 (fun n => n = G.R r) := by
  have h' := h.push (.cells x.vals t_grid_Cell 0 false)
  obtain ⟨T, y, h1⟩ := h'.hdr
  obtain ⟨T3, y3, s3, h3, hk3⟩ := h'.row r hr
  have hb := (h'.rb r hr).1
  have hl := flat_length (n := cols) (k := 4) (f := fun j => (cell r j).vals) (fun i hi => rfl)
  have hpush : (S.push (.cells x.vals t_grid_Cell 0 false)).get S.cnt = some (.cells x.vals t_grid_Cell 0 false) := by rw [St.get_push _ _ _ h.wf, if_pos rfl]
  have hbox : rowAt (S.push (.cells x.vals t_grid_Cell 0 false)) S.cnt 0 4 = some x.vals := by rw [rowAt_of hpush (by simp)]; rfl
  apply csOk is_grid_Grid_Put rfl rfl
  have hh := grid_has h' (Nat.lt_of_le_of_lt (Nat.zero_le _) hr) r c (by omega)
  have hst := storeKV_of (k := 4) (off := c * 4) (v := .agg x.vals.toArray) rfl hb h3 (by omega) rfl
  simp [funA_run, a_grid_Grid_Put, CV.agg, Value.cells, ones_vals, newRowV, hh, rowAt_of h1, idxSV_ok, hr, hc, h'.slice hr, hbox, hst]
  refine ⟨h'.set hr hc x h3 hk3, ?_⟩
  exact (Stays.push h.wf).trans (Stays.set hb rfl) (fun n _ hn => hn.symm)

end Go.AM
