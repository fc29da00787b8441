/- AmT5: what is seen of a terminal. -/
import Derived.Test.YtdfimlepfaheeaaGreatAmT4
set_option linter.unusedVariables false
set_option linter.unusedSimpArgs false
namespace Go.AM

theorem term_Grid {S : St} {T r p : Nat} {G : GL} {cols rows row col : Nat} {cell : Nat → Nat → CV} (h : TermAt S T r p G cols rows row col cell) (hr : 1 ≤ rows ∧ rows ≤ 12) (hc : 1 ≤ cols ∧ cols ≤ 40) :
    Ok (cs n_term_Term_Grid [.pointer (some ⟨T, 0, none⟩)] S) fun q => ∃ H : GL, q.1 = H.ptr ∧ GridAt q.2 H cols rows cell ∧ Stays S q.2 (fun _ => False) ∧ S.cnt ≤ H.g ∧ S.cnt ≤ H.L ∧ ∀ i, i < rows → S.cnt ≤ H.R i := by
  obtain ⟨c, hg, hc'⟩ := h.g
  have c1 := term_made hg.get hc'.f0
  have c2 := term_g hg
  apply csOk is_term_Term_Grid rfl rfl
  simp [funA_run, a_term_Term_Grid, c1, c2]
  simp only [Ok_endR, Ok_seqR, Ok_blockR, Ok_opsR, Ok_runL, Ok_runPl, Ok_againR, Ok_putR, Ok_loopR]
  refine (grid_Copy hg.grid hr hc).mono ?_
  rintro ⟨v, S2⟩ ⟨H, rfl, h1, h2, h3, h4, h5⟩
  simp
  exact ⟨H, rfl, h1, h2, h3, h4, h5⟩

theorem term_Cursor {S : St} {T r p : Nat} {G : GL} {cols rows row col : Nat} {cell : Nat → Nat → CV} (h : TermAt S T r p G cols rows row col cell) :
    cs n_term_Term_Cursor [.pointer (some ⟨T, 0, none⟩)] S = some (.tuple #[.int .i64 row, .int .i64 col, .bool true], S) := by
  obtain ⟨c, hg, hc⟩ := h.g
  have c1 := term_made hg.get hc.f0
  have g0 := hg.get
  apply csE is_term_Term_Cursor rfl rfl
  simp [funA_run, a_term_Term_Cursor, c1, g0, hc.f5, hc.f6, hc.f16]

theorem term_Clip {S : St} {T r p : Nat} {G : GL} {cols rows row col : Nat} {cell : Nat → Nat → CV} (h : TermAt S T r p G cols rows row col cell) :
    cs n_term_Term_Clip [.pointer (some ⟨T, 0, none⟩)] S = some (.tuple #[.string .empty, .int .i64 0], S) := by
  obtain ⟨c, hg, hc⟩ := h.g
  have g0 := hg.get
  apply csE is_term_Term_Clip rfl rfl
  simp [funA_run, a_term_Term_Clip, g0, hc.f64, hc.f65]

theorem term_Title {S : St} {T r p : Nat} {G : GL} {cols rows row col : Nat} {cell : Nat → Nat → CV} (h : TermAt S T r p G cols rows row col cell) :
    cs n_term_Term_Title [.pointer (some ⟨T, 0, none⟩)] S = some (.string .empty, S) := by
  obtain ⟨c, hg, hc⟩ := h.g
  have g0 := hg.get
  apply csE is_term_Term_Title rfl rfl
  simp [funA_run, a_term_Term_Title, g0, hc.f63]

theorem term_Bells {S : St} {T r p : Nat} {G : GL} {cols rows row col : Nat} {cell : Nat → Nat → CV} (h : TermAt S T r p G cols rows row col cell) :
    cs n_term_Term_Bells [.pointer (some ⟨T, 0, none⟩)] S = some (.int .i64 0, S) := by
  obtain ⟨c, hg, hc⟩ := h.g
  have g0 := hg.get
  apply csE is_term_Term_Bells rfl rfl
  simp [funA_run, a_term_Term_Bells, g0, hc.f66]

/-- A row that was nil, or grew. -/
def slOf (L n : Nat) : Value := if n = 0 then .slice none 0 0 else .slice (some ⟨L, 0, none⟩) n capx
theorem slOf_0 (L : Nat) : slOf L 0 = .slice none 0 0 := if_pos rfl
theorem slOf_pos (L : Nat) {n : Nat} (h : 0 < n) : slOf L n = .slice (some ⟨L, 0, none⟩) n capx := if_neg (by omega)
@[simp] theorem slOf_one (L n : Nat) : (slOf L n).oneCell' = true := by unfold slOf; split <;> rfl
@[simp] theorem slOf_cells (L n : Nat) : (slOf L n).cells = #[slOf L n] := by unfold slOf; split <;> rfl
@[simp] theorem slOf_same (L n : Nat) : vsame (slOf L n) (slOf L n) = true := by unfold slOf; split <;> exact vsame_slice _ _ _
@[simp] theorem slOf_vbeq (L n : Nat) : vbeq (slOf L n) (slOf L n) = true := by unfold slOf; split <;> simp
@[simp] theorem slOf_len (L n : Nat) : lenV (slOf L n) = some (.int .i64 n) := by
  by_cases h : n = 0
  · subst h; rfl
  · rw [slOf_pos L (by omega)]; rfl

/-- More cells behind a row that was nil, or grew. -/
theorem append_cells {S5 : St} {n m b L : Nat} {f g : Nat → List Value} (hw : S5.base ≤ S5.cnt) (hn : n ≤ 100000) (hm : 0 < m ∧ m ≤ 100000) (hf : ∀ i, i < n → (f i).length = 4) (hf1 : ∀ i, i < n → ones (f i) = true) (hg1 : ∀ i, i < m → ones (g i) = true)
    (hL : 0 < n → S5.base ≤ L ∧ L < S5.cnt ∧ S5.get L = some (.cells (flat n f) t_grid_Cell 4 false)) {cap : Nat}
    (hb : rowAt S5 b 0 (m * 4) = some (flat m g)) :
    ∃ S6, appendV pg t_S_grid_Cell t_S_grid_Cell (slOf L n) (.slice (some ⟨b, 0, none⟩) m cap) S5 = some (.slice (some ⟨S5.cnt, 0, none⟩) (n + m) capx, S6) ∧
      S6.get S5.cnt = some (.cells (flat (n + m) fun j => if j < n then f j else g (j - n)) t_grid_Cell 4 false) ∧ S6.cnt = S5.cnt + 1 ∧ S6.base = S5.base ∧ ∀ x, x < S5.cnt → (0 < n → x ≠ L) → S6.get x = S5.get x := by
  have hsrc : srcV pg t_S_grid_Cell 4 (.slice (some ⟨b, 0, none⟩) m cap) S5 = some (m, flat m g) :=
    srcV_slice e_S_grid_Cell hm.1 hb (ones_flat hg1)
  have hfl : (flat (n + m) fun j => if j < n then f j else g (j - n)) = flat n f ++ flat m g := by
    have e1 : flat n (fun j => if j < n then f j else g (j - n)) = flat n f := flat_congr fun j hj => by rw [if_pos hj]
    have e2 : flat m (fun j => if n + j < n then f (n + j) else g (n + j - n)) = flat m g := flat_congr fun j hj => by rw [if_neg (by omega), Nat.add_sub_cancel_left]
    rw [flat_add, e1, e2]
  by_cases h0 : n = 0
  · subst h0
    have ha := appendV_nil (S := S5) (tx := t_S_grid_Cell) e_S_grid_Cell (by decide) hsrc hm.1 (by omega)
    refine ⟨S5.push (.cells (flat m g) t_grid_Cell 4 false), ?_, ?_, rfl, rfl, fun n hn _ => ?_⟩
    · rw [slOf_0, ha, Nat.zero_add]
    · rw [St.get_push _ _ _ hw, if_pos rfl, hfl]; rfl
    · rw [St.get_push _ _ _ hw, if_neg (by omega)]
  · obtain ⟨h1, h2, h3⟩ := hL (by omega)
    have hlen : (flat n f).length = n * 4 := flat_length hf
    rw [slOf_pos L (by omega)]
    have ha := appendV_grow e_S_grid_Cell (by decide) h1 h3 hlen hsrc hm.1 (by omega) (ones_flat hg1) (ones_flat hf1)
    refine ⟨(S5.set L none).push (.cells (flat n f ++ flat m g) t_grid_Cell 4 false), ha, ?_, rfl, rfl, fun n hn hne => ?_⟩
    · rw [show S5.cnt = (S5.set L none).cnt from rfl, St.get_push _ _ _ (show (S5.set L none).base ≤ (S5.set L none).cnt from hw), if_pos rfl, hfl]
    · rw [St.get_push _ _ _ (show (S5.set L none).base ≤ (S5.set L none).cnt from hw), if_neg (by show n ≠ S5.cnt; omega), St.get_set _ _ _ _ h1, if_neg (hne (by omega))]

theorem b_View0 : buildV pg t_view_View [] = some (.agg #[.int .i64 0, .int .i64 0, .slice none 0 0, .int .i64 0, .int .i64 0, .bool false]) := by kernel_rfl
theorem b_View2 (a b : Int) : buildV pg t_view_View [(0, .int .i64 a), (1, .int .i64 b)] = some (.agg #[.int .i64 a, .int .i64 b, .slice none 0 0, .int .i64 0, .int .i64 0, .bool false]) := by kernel_rfl

def viewL (rows cols : Nat) (s : Value) (row col : Nat) : List Value := [.int .i64 rows, .int .i64 cols, s, .int .i64 row, .int .i64 col, .bool true]
def cellsAt (cols : Nat) (cell : Nat → Nat → CV) (k : Nat) : CV := cell (k / cols) (k % cols)
theorem cellsAt_row {cols : Nat} (cell : Nat → Nat → CV) (i : Nat) {d : Nat} (hd : d < cols) : cellsAt cols cell (i * cols + d) = cell i d := by
  unfold cellsAt
  rw [Nat.mul_comm i cols, Nat.mul_add_div (by omega), Nat.mul_add_mod, Nat.div_eq_of_lt hd, Nat.mod_eq_of_lt hd, Nat.add_zero]

/-- So many rows are told so far. -/
structure Viewing (S S2 : St) (v2 v5 L : Nat) (H : GL) (cols rows row col i : Nat) (cell : Nat → Nat → CV) : Prop where
  z : S2.get v2 = some (.cells [.int .i64 0, .int .i64 0, .slice none 0 0, .int .i64 0, .int .i64 0, .bool false] t_view_View 0 false)
  v : S2.get v5 = some (.cells (viewL rows cols (slOf L (i * cols)) row col) t_view_View 0 false)
  tbl : 0 < i * cols → S2.base ≤ L ∧ L < S2.cnt ∧ S2.get L = some (.cells (flat (i * cols) fun k => (cellsAt cols cell k).vals) t_grid_Cell 4 false)
  ln : 0 < i * cols → S.cnt ≤ L ∧ L ≠ v2 ∧ L ≠ v5 ∧ L ≠ H.g ∧ L ≠ H.L ∧ ∀ j, j < rows → L ≠ H.R j
  grid : GridAt S2 H cols rows cell
  n2 : S.cnt ≤ v2 ∧ v2 < S2.cnt
  n5 : S.cnt ≤ v5 ∧ v5 < S2.cnt
  ne : v2 ≠ v5 ∧ v5 ≠ H.g ∧ v5 ≠ H.L ∧ ∀ j, j < rows → v5 ≠ H.R j
  hn : S.cnt ≤ H.g ∧ S.cnt ≤ H.L ∧ ∀ j, j < rows → S.cnt ≤ H.R j
  st : Stays S S2 (fun _ => False)

set_option maxRecDepth 4000 in
theorem view_Of {S : St} {T r p : Nat} {G : GL} {cols rows row col : Nat} {cell : Nat → Nat → CV} (h : TermAt S T r p G cols rows row col cell) (hr : 1 ≤ rows ∧ rows ≤ 12) (hc : 1 ≤ cols ∧ cols ≤ 40) :
    Ok (cs n_view_Of [.pointer (some ⟨T, 0, none⟩)] S) fun q => ∃ L, q.1 = .tuple #[.agg (viewL rows cols (.slice (some ⟨L, 0, none⟩) (rows * cols) capx) row col).toArray, .int .i64 0] ∧ q.2.get L = some (.cells (flat (rows * cols) fun k => (cellsAt cols cell k).vals) t_grid_Cell 4 false) ∧ S.cnt ≤ L ∧ L < q.2.cnt ∧ Stays S q.2 (fun _ => False) := by
  obtain ⟨c, hg, hc'⟩ := h.g
  have hw := hg.grid.wf
  have hs1 : Stays S (S.push (.cells [.int .i64 0, .int .i64 0, .slice none 0 0, .int .i64 0, .int .i64 0, .bool false] t_view_View 0 false)) (fun _ => False) := Stays.push hw
  have h1 := h.stays hs1 (fun _ _ q => q)
  apply csOk is_view_Of rfl rfl
  simp [funA_run, a_view_Of]
  simp only [Ok_endR, Ok_seqR, Ok_blockR, Ok_opsR, Ok_runL, Ok_runPl, Ok_againR, Ok_putR, Ok_loopR]
  refine (term_Grid h1 hr hc).mono ?_
  rintro ⟨v, S2⟩ ⟨H, rfl, hH, hs2, nH, nL, nR⟩
  dsimp only at hH hs2
  have c1 := grid_Rows hH
  have c2 := grid_Cols hH
  have hw2 := hH.wf
  have m2 := hs2.cnt
  simp at m2 nH nL nR
  have hs3 : Stays S2 (S2.push (.cells [.int .i64 rows, .int .i64 cols, .slice none 0 0, .int .i64 0, .int .i64 0, .bool false] t_view_View 0 false)) (fun _ => False) := Stays.push hw2
  have h3 := (h1.stays hs2 (fun _ _ q => q)).stays hs3 (fun _ _ q => q)
  have c3 := term_Cursor h3
  simp [c1, c2, b_View2, hw2, putL, c3]
  rw [Ok_seqR, Ok_blockR]
  have hw4 : S2.base ≤ S2.cnt + 1 := by omega
  refine loop_ok (fun k ρ S3 => ∃ i L, k = rows - i ∧ i ≤ rows ∧ ρ 2 = .pointer (some ⟨S.cnt, 0, none⟩) ∧ ρ 4 = H.ptr ∧ ρ 5 = .pointer (some ⟨S2.cnt, 0, none⟩) ∧ ρ 29 = .int .i64 rows ∧ ρ 30 = .int .i64 (i : Nat) ∧ Viewing S S3 S.cnt S2.cnt L H cols rows row col i cell) ?_ (n := rows) ⟨0, 0, rfl, Nat.zero_le _, ?_⟩
  · rintro k ρ S3 ⟨i, L, rfl, hi, e2, e4, e5, e29, e30, hV⟩
    have hz := hV.z
    have hv := hV.v
    have hb3 : S3.base = S.base := hV.st.base
    have m3 := hV.st.cnt
    have l5 := hV.n5
    have l2 := hV.n2
    have b5 : S3.base ≤ S2.cnt := by omega
    have b2 : S3.base ≤ S.cnt := by omega
    have hw3 : S3.base ≤ S3.cnt := by omega
    have hw31 : S3.base ≤ S3.cnt + 1 := by omega
    have n51 : ¬ S2.cnt = S3.cnt := by omega
    have n52 : ¬ S2.cnt = S3.cnt + 1 := by omega
    have n53 : ¬ S2.cnt = S.cnt := by omega
    by_cases hlt : i < rows
    · have hl : (i : Int) < rows := by omega
      have cl := grid_Line hV.grid hlt (by omega)
      unfold viewL at hv
      have hsm := hV.grid.small
      have hle : i * cols ≤ 12 * 40 := Nat.mul_le_mul (by omega) hc.2
      have hs4 : Stays S3 ((S3.push (.cells [] t_grid_Cell 0 false)).push (.cells (flat cols fun j => (cell i j).vals) t_grid_Cell 4 false)) (fun _ => False) := (Stays.push hw3).trans (Stays.push hw31) (fun _ _ q => q)
      have gr : rowAt ((S3.push (.cells [] t_grid_Cell 0 false)).push (.cells (flat cols fun j => (cell i j).vals) t_grid_Cell 4 false)) (S3.cnt + 1) 0 (cols * 4) = some (flat cols fun j => (cell i j).vals) := by
        have hl := flat_length (n := cols) (k := 4) (f := fun j => (cell i j).vals) (fun i hi => rfl)
        rw [rowAt_O, St.get_push _ _ _ (show (S3.push (.cells [] t_grid_Cell 0 false)).base ≤ (S3.push (.cells [] t_grid_Cell 0 false)).cnt from hw31), if_pos (show S3.cnt + 1 = (S3.push (.cells [] t_grid_Cell 0 false)).cnt from rfl), rowO_cells (by omega), List.drop_zero, List.take_of_length_le (by omega)]
      have n4 : ((S3.push (.cells [] t_grid_Cell 0 false)).push (.cells (flat cols fun j => (cell i j).vals) t_grid_Cell 4 false)).cnt = S3.cnt + 2 := rfl
      generalize ((S3.push (.cells [] t_grid_Cell 0 false)).push (.cells (flat cols fun j => (cell i j).vals) t_grid_Cell 4 false)) = S4 at cl hs4 gr n4
      have hv4 : S4.get S2.cnt = _ := (hs4.get S2.cnt l5.2 (fun q => q)).trans hv
      have b4 : S4.base = S3.base := hs4.base
      obtain ⟨S5, ha, ht, n5, b55, hk⟩ := append_cells (S5 := S4) (n := i * cols) (m := cols) (b := S3.cnt + 1) (L := L) (cap := capx) (f := fun k => (cellsAt cols cell k).vals) (g := fun j => (cell i j).vals) (by omega) (by omega) (by omega) (fun _ _ => rfl) (fun _ _ => rfl) (fun _ _ => rfl)
        (fun hp => by obtain ⟨a1, a2, a3⟩ := hV.tbl hp; exact ⟨by omega, by omega, by rw [hs4.get L a2 (fun q => q)]; exact a3⟩) gr
      have hv5 : S5.get S2.cnt = _ := (hk S2.cnt (by omega) (fun hp => (hV.ln hp).2.2.1.symm)).trans hv4
      have b51 : S5.base ≤ S2.cnt := by omega
      unfold viewL at hv4 hv5
      have hw64 : IntKind.wrap .i64 ((i : Int) + 1) = i + 1 := wrap64 (by omega) (by omega)
      simp [e2, e4, e5, e29, e30, hl, cl, hv4, ha, hv5, b51, putL, hw64]
      have get6 : ∀ n, n ≠ S2.cnt → ∀ o, (S5.set S2.cnt o).get n = S5.get n := fun n hn o => by rw [St.get_set _ _ _ _ b51, if_neg hn]
      have keep : ∀ n, n < S3.cnt → n ≠ S2.cnt → (0 < i * cols → n ≠ L) → ∀ o, (S5.set S2.cnt o).get n = S3.get n := fun n hn h1 h2 o => by
        rw [get6 n h1 o, hk n (by omega) h2, hs4.get n hn (fun q => q)]
      have hsucc : (i + 1) * cols = i * cols + cols := Nat.succ_mul i cols
      refine ⟨rows - (i + 1), by omega, i + 1, rfl, by omega, by simp, S4.cnt, ?_, ?_, fun _ => ⟨?_, ?_, ?_⟩, fun _ => ⟨by omega, by omega, by omega, ?_, ?_, fun j hj => ?_⟩, ?_, ⟨by omega, ?_⟩, ⟨by omega, ?_⟩, hV.ne, hV.hn, ?_⟩
      · rw [keep S.cnt l2.2 (by omega) (fun hp => (hV.ln hp).2.1.symm)]; exact hz
      · rw [St.get_set _ _ _ _ b51, if_pos rfl, hsucc, slOf_pos _ (by omega)]; rfl
      · show S5.base ≤ S4.cnt; omega
      · show S4.cnt < S5.cnt; omega
      · rw [get6 _ (by omega), ht, hsucc]
        congr 2
        refine flat_congr fun j hj => ?_
        by_cases q : j < i * cols
        · rw [if_pos q]
        · rw [if_neg q]
          obtain ⟨d, rfl⟩ : ∃ d, j = i * cols + d := ⟨j - i * cols, by omega⟩
          rw [cellsAt_row cell i (by omega), Nat.add_sub_cancel_left]
      · have := hV.grid.gb.2; omega
      · have := hV.grid.lb.2; omega
      · have := (hV.grid.rb j hj).2; omega
      · have h6 : Stays S3 (S5.set S2.cnt (some (.cells [.int .i64 rows, .int .i64 cols, .slice (some ⟨S4.cnt, 0, none⟩) (i * cols + cols) capx, .int .i64 row, .int .i64 col, .bool true] t_view_View 0 false))) (fun n => n = S2.cnt ∨ (0 < i * cols ∧ n = L)) :=
          ⟨by show S5.base = _; omega, by show S3.cnt ≤ S5.cnt; omega, fun n hn hA => keep n hn (fun q => hA (Or.inl q)) (fun hp q => hA (Or.inr ⟨hp, q⟩)) _⟩
        refine hV.grid.stays h6 ⟨?_, ?_, fun j hj => ?_⟩
        · rintro (q | ⟨hp, q⟩); exact hV.ne.2.1 q.symm; exact (hV.ln hp).2.2.2.1 q.symm
        · rintro (q | ⟨hp, q⟩); exact hV.ne.2.2.1 q.symm; exact (hV.ln hp).2.2.2.2.1 q.symm
        · rintro (q | ⟨hp, q⟩); exact hV.ne.2.2.2 j hj q.symm; exact (hV.ln hp).2.2.2.2.2 j hj q.symm
      · show S.cnt < S5.cnt; omega
      · show S2.cnt < S5.cnt; omega
      · refine ⟨by show S5.base = _; omega, by show S.cnt ≤ S5.cnt; omega, fun n hn _ => ?_⟩
        rw [keep n (by omega) (by omega) (fun hp => by have := (hV.ln hp).1; omega), hV.st.get n hn (fun q => q)]
    · have hl : ¬ (i : Int) < rows := by omega
      have hie : i = rows := by omega
      subst hie
      have hpos : 0 < i * cols := Nat.mul_pos (by omega) (by omega)
      obtain ⟨l1, l2', l3⟩ := hV.tbl hpos
      have ln := hV.ln hpos
      rw [slOf_pos L hpos] at hv
      unfold viewL at hv
      simp [e2, e4, e5, e29, e30, hl, hv, hz, b2, putL, n53, loadV_agg g_view_View s_view_View]
      refine ⟨L, rfl, ?_, ln.1, l2', ?_⟩
      · rw [if_neg ln.2.1]; exact l3
      · refine ⟨hb3, by show S.cnt ≤ S3.cnt; omega, fun n hn _ => ?_⟩
        rw [St.get_set _ _ _ _ b2, if_neg (by omega), hV.st.get n hn (fun q => q)]
  · simp
    have hsV : Stays S2 (S2.push (.cells [.int .i64 rows, .int .i64 cols, .slice none 0 0, .int .i64 row, .int .i64 col, .bool true] t_view_View 0 false)) (fun _ => False) := Stays.push hw2
    refine ⟨?_, ?_, fun h => by simp at h, fun h => by simp at h, hH.stays hsV ⟨fun q => q, fun q => q, fun _ _ q => q⟩, ⟨Nat.le_refl _, by show S.cnt < S2.cnt + 1; omega⟩, ⟨by omega, Nat.lt_succ_self _⟩, ⟨by omega, ?_, ?_, fun j hj => ?_⟩, ⟨by omega, by omega, fun j hj => by have := nR j hj; omega⟩, ?_⟩
    · have hne : ¬ S.cnt = S2.cnt := by omega
      rw [St.get_push _ _ _ hw2, if_neg hne, hs2.get _ (Nat.lt_succ_self _) (fun q => q), St.get_push _ _ _ hw, if_pos rfl]
    · rw [St.get_push _ _ _ hw2, if_pos rfl, Nat.zero_mul, slOf_0]; rfl
    · have := hH.gb.2; omega
    · have := hH.lb.2; omega
    · have := (hH.rb j hj).2; omega
    · exact (hs1.trans hs2 (fun _ _ q => q)).trans hsV (fun _ _ q => q)

theorem b_State (a b c d e f : Value) : buildV pg t_reg_State [(0, .agg #[a, b, c, d, e, f]), (1, .string .empty), (2, .string .empty), (3, .int .u64 0), (4, .int .u64 0)] = some (.agg #[a, b, c, d, e, f, .string .empty, .string .empty, .int .u64 0, .int .u64 0]) := by kernel_rfl

def stateL (rows cols : Nat) (s : Value) (row col : Nat) : List Value := viewL rows cols s row col ++ [.string .empty, .string .empty, .int .u64 0, .int .u64 0]

set_option maxRecDepth 4000 in
theorem reg_Of {S : St} {T r p : Nat} {G : GL} {cols rows row col : Nat} {cell : Nat → Nat → CV} (h : TermAt S T r p G cols rows row col cell) (hr : 1 ≤ rows ∧ rows ≤ 12) (hc : 1 ≤ cols ∧ cols ≤ 40) :
    Ok (cs n_reg_Of [.pointer (some ⟨T, 0, none⟩)] S) fun q => ∃ L, q.1 = .tuple #[.agg (stateL rows cols (.slice (some ⟨L, 0, none⟩) (rows * cols) capx) row col).toArray, .int .i64 0] ∧ q.2.get L = some (.cells (flat (rows * cols) fun k => (cellsAt cols cell k).vals) t_grid_Cell 4 false) ∧ S.cnt ≤ L ∧ L < q.2.cnt ∧ Stays S q.2 (fun _ => False) := by
  obtain ⟨c, hg, hc'⟩ := h.g
  have hw := hg.grid.wf
  have hs1 : Stays S (S.push (.cells [.int .i64 0, .int .i64 0, .slice none 0 0, .int .i64 0, .int .i64 0, .bool false, .string .empty, .string .empty, .int .u64 0, .int .u64 0] t_reg_State 0 false)) (fun _ => False) := Stays.push hw
  have h1 := h.stays hs1 (fun _ _ q => q)
  apply csOk is_reg_Of rfl rfl
  simp [funA_run, a_reg_Of]
  simp only [Ok_endR, Ok_seqR, Ok_blockR, Ok_opsR, Ok_runL, Ok_runPl, Ok_againR, Ok_putR, Ok_loopR]
  refine (view_Of h1 hr hc).mono ?_
  rintro ⟨v, S2⟩ ⟨L, rfl, hL, n1, n2, hs2⟩
  dsimp only at hL n2 hs2
  simp only [St.push_cntQ] at n1
  have m2 := hs2.cnt
  simp only [St.push_cntQ] at m2
  have b2 : S2.base = S.base := hs2.base
  have hw2 : S2.base ≤ S2.cnt := by omega
  have gz : S2.get S.cnt = some (.cells [.int .i64 0, .int .i64 0, .slice none 0 0, .int .i64 0, .int .i64 0, .bool false, .string .empty, .string .empty, .int .u64 0, .int .u64 0] t_reg_State 0 false) := by
    rw [hs2.get _ (Nat.lt_succ_self _) (fun q => q), St.get_push _ _ _ hw, if_pos rfl]
  unfold viewL
  have hs3 : Stays S2 (S2.push (.cells [.int .i64 rows, .int .i64 cols, .slice (some ⟨L, 0, none⟩) (rows * cols) capx, .int .i64 row, .int .i64 col, .bool true] t_view_View 0 false)) (fun _ => False) := Stays.push hw2
  have h3 := (h1.stays hs2 (fun _ _ q => q)).stays hs3 (fun _ _ q => q)
  have c1 := term_Clip h3
  have c2 := term_Title h3
  have c3 := term_Bells h3
  have b21 : S2.base ≤ S.cnt := by omega
  have ne1 : ¬ S.cnt = S2.cnt := by omega
  have ne2 : ¬ S2.cnt = S.cnt := by omega
  have w0 : IntKind.wrap .u64 0 = 0 := by decide
  simp [hw2, putL, c1, c2, c3, gz, convW_int u_int u_uint64, w0, b_State, b21, ne1, ne2, loadV_agg g_reg_State s_reg_State]
  refine ⟨L, rfl, ?_, by omega, by omega, ?_⟩
  · rw [if_neg (by omega), if_neg (by omega)]; exact hL
  · refine ⟨b2, by show S.cnt ≤ S2.cnt + 1; omega, fun n hn _ => ?_⟩
    have h4 : ¬ n = S.cnt := by omega
    have h5 : ¬ n = S2.cnt := by omega
    simp [hw2, b21, h4, h5]
    rw [hs2.get n (by show n < S.cnt + 1; omega) (fun q => q), hs1.get n hn (fun q => q)]

end Go.AM
