/- AmE2: which states may be. -/
import Derived.Test.YtdfimlepfaheeaaGreatAmE1
set_option linter.unusedVariables false
set_option linter.unusedSimpArgs false
namespace Go.AM

theorem rowO_flat {o : Option AObj} {N : Nat} {f : Nat → List Value} {T g k : Nat} {s : Bool} (h : o = some (.cells (flat N f) T g s)) (hk : ∀ i, i < N → (f i).length = k) {i : Nat} (hi : i < N) : rowO o (i * k) k = some (f i) := by
  subst h
  have hl := flat_length hk
  have : (i + 1) * k ≤ N * k := Nat.mul_le_mul_right k hi
  have h2 : (i + 1) * k = i * k + k := Nat.succ_mul i k
  rw [rowO_cells (by omega), flat_row hk hi]

theorem cells_IndexFunc {S : St} (hw : S.base ≤ S.cnt) {n N cap : Nat} {f : Nat → CV} {T g : Nat} {s : Bool} (hn : n < S.cnt) (hg : S.get n = some (.cells (flat N fun k => (f k).vals) T g s)) (hf : ∀ i, i < N → (f i).Ok') (hN : N ≤ 1000000) :
    Ok (cs n_slices_IndexFunc_grid_Cell_grid_Cell [.slice (some ⟨n, 0, none⟩) N cap, .func (.func n_view_Right_1) #[] #[]] S) fun q => q.1 = .int .i64 (-1) ∧ Stays S q.2 (fun _ => False) := by
  apply csOk is_slices_IndexFunc_grid_Cell_grid_Cell rfl rfl
  simp [funA_run, a_slices_IndexFunc_grid_Cell_grid_Cell]
  rw [Ok_endR, Ok_seqR, Ok_blockR]
  refine loop_ok (fun k ρ S2 => ∃ i : Nat, k = N - i ∧ i ≤ N ∧ ρ 0 = .slice (some ⟨n, 0, none⟩) N cap ∧ ρ 1 = .func (.func n_view_Right_1) #[] #[] ∧ ρ 7 = .int .i64 N ∧ ρ 8 = .int .i64 i ∧ Stays S S2 (fun _ => False)) ?_ (n := N) ⟨0, rfl, Nat.zero_le _, ?_⟩
  · rintro k ρ S2 ⟨i, rfl, hi, e0, e1, e7, e8, hst⟩
    by_cases hlt : i < N
    · have hl : (i : Int) < N := by omega
      have hw2 : S2.base ≤ S2.cnt := by rw [hst.base]; exact Nat.le_trans hw hst.cnt
      have hrow := rowO_flat (k := 4) (f := fun k => (f k).vals) ((hst.get n hn (fun q => q)).trans hg) (fun _ _ => rfl) hlt
      have hcall : Ok (cs n_view_Right_1 [.agg (f i).vals.toArray] S2) _ := view_Right_1 hw2 (hf i hlt)
      simp [e0, e1, e7, e8, hl, idxSV_ok, hlt, hrow]
      simp only [Ok_endR, Ok_seqR, Ok_blockR, Ok_opsR, Ok_runL, Ok_runPl, Ok_againR, Ok_putR, Ok_loopR]
      refine hcall.mono ?_
      rintro ⟨v, S3⟩ ⟨rfl, hs3⟩
      dsimp only at hs3
      have hw64 : IntKind.wrap .i64 ((i : Int) + 1) = i + 1 := wrap64 (by omega) (by omega)
      simp [e0, e1, e7, e8, hw64]
      exact ⟨N - (i + 1), by omega, i + 1, rfl, by omega, by simp, hst.trans hs3 (fun _ _ q => q)⟩
    · have hl : ¬ (i : Int) < N := by omega
      simp [e0, e1, e7, e8, hl]
      exact hst
  · simp
    exact Stays.refl _ _

theorem cells_ContainsFunc {S : St} (hw : S.base ≤ S.cnt) {n N cap : Nat} {f : Nat → CV} {T g : Nat} {s : Bool} (hn : n < S.cnt) (hg : S.get n = some (.cells (flat N fun k => (f k).vals) T g s)) (hf : ∀ i, i < N → (f i).Ok') (hN : N ≤ 1000000) :
    Ok (cs n_slices_ContainsFunc_grid_Cell_grid_Cell [.slice (some ⟨n, 0, none⟩) N cap, .func (.func n_view_Right_1) #[] #[]] S) fun q => q.1 = .bool false ∧ Stays S q.2 (fun _ => False) := by
  apply csOk is_slices_ContainsFunc_grid_Cell_grid_Cell rfl rfl
  simp [funA_run, a_slices_ContainsFunc_grid_Cell_grid_Cell]
  simp only [Ok_endR, Ok_seqR, Ok_blockR, Ok_opsR, Ok_runL, Ok_runPl, Ok_againR, Ok_putR, Ok_loopR]
  refine (cells_IndexFunc hw hn hg hf hN).mono ?_
  rintro ⟨v, S3⟩ ⟨rfl, hs3⟩
  simp
  exact hs3

theorem view_Right {S : St} (hw : S.base ≤ S.cnt) {rows cols row col n cap : Nat} {vis : Bool} {f : Nat → CV} {T g : Nat} {s : Bool} (hr : 1 ≤ rows ∧ rows ≤ 12) (hc : 1 ≤ cols ∧ cols ≤ 40) (hrow : row < rows) (hcol : col < cols)
    (hn : n < S.cnt) (hg : S.get n = some (.cells (flat (rows * cols) fun k => (f k).vals) T g s)) (hf : ∀ i, i < rows * cols → (f i).Ok') :
    Ok (cs n_view_Right [.agg #[.int .i64 rows, .int .i64 cols, .slice (some ⟨n, 0, none⟩) (rows * cols) cap, .int .i64 row, .int .i64 col, .bool vis]] S) fun q => q.1 = .bool true ∧ Stays S q.2 (fun _ => False) := by
  have hle : rows * cols ≤ 12 * 40 := Nat.mul_le_mul hr.2 hc.2
  have hs : Stays S (S.push (.cells [.int .i64 rows, .int .i64 cols, .slice (some ⟨n, 0, none⟩) (rows * cols) cap, .int .i64 row, .int .i64 col, .bool vis] t_view_View 0 false)) (fun _ => False) := Stays.push hw
  have hcf := cells_ContainsFunc (S := S.push (.cells [.int .i64 rows, .int .i64 cols, .slice (some ⟨n, 0, none⟩) (rows * cols) cap, .int .i64 row, .int .i64 col, .bool vis] t_view_View 0 false)) (cap := cap) (Nat.le_succ_of_le hw) (Nat.lt_succ_of_lt hn) (by rw [hs.get n hn (fun q => q)]; exact hg) hf (by omega)
  have m : IntKind.wrap .i64 ((rows : Int) * cols) = ((rows * cols : Nat) : Int) := by rw [← Int.natCast_mul]; exact wrap64 (by omega) (by omega)
  have n1 : ¬ (rows : Int) < 1 := by omega
  have n2 : ¬ (12 : Int) < rows := by omega
  have n3 : ¬ (cols : Int) < 1 := by omega
  have n4 : ¬ (40 : Int) < cols := by omega
  have n5 : ¬ (row : Int) < 0 := by omega
  have n6 : ¬ (rows : Int) ≤ row := by omega
  have n7 : ¬ (col : Int) < 0 := by omega
  have n8 : ¬ (cols : Int) ≤ col := by omega
  apply csOk is_view_Right rfl rfl
  simp [funA_run, a_view_Right, hw, n1, n2, n3, n4, n5, n6, n7, n8, m]
  simp only [Ok_endR, Ok_seqR, Ok_blockR, Ok_opsR, Ok_runL, Ok_runPl, Ok_againR, Ok_putR, Ok_loopR]
  refine hcf.mono ?_
  rintro ⟨v, S3⟩ ⟨rfl, hs3⟩
  simp
  exact hs.trans hs3 (fun _ _ q => q)

theorem reg_Right {S : St} (hw : S.base ≤ S.cnt) {rows cols row col n cap : Nat} {f : Nat → CV} {T g : Nat} {s : Bool} (hr : 1 ≤ rows ∧ rows ≤ 12) (hc : 1 ≤ cols ∧ cols ≤ 40) (hrow : row < rows) (hcol : col < cols)
    (hn : n < S.cnt) (hg : S.get n = some (.cells (flat (rows * cols) fun k => (f k).vals) T g s)) (hf : ∀ i, i < rows * cols → (f i).Ok') :
    Ok (cs n_reg_Right [.agg (stateL rows cols (.slice (some ⟨n, 0, none⟩) (rows * cols) cap) row col).toArray] S) fun q => q.1 = .bool true ∧ Stays S q.2 (fun _ => False) := by
  have hs : Stays S (S.push (.cells (stateL rows cols (.slice (some ⟨n, 0, none⟩) (rows * cols) cap) row col) t_reg_State 0 false)) (fun _ => False) := Stays.push hw
  have hv := view_Right (S := S.push (.cells (stateL rows cols (.slice (some ⟨n, 0, none⟩) (rows * cols) cap) row col) t_reg_State 0 false)) (cap := cap) (vis := true) (Nat.le_succ_of_le hw) hr hc hrow hcol (Nat.lt_succ_of_lt hn) (by rw [hs.get n hn (fun q => q)]; exact hg) hf
  unfold stateL viewL at *
  apply csOk is_reg_Right rfl rfl
  simp [funA_run, a_reg_Right, hw]
  simp only [Ok_endR, Ok_seqR, Ok_blockR, Ok_opsR, Ok_runL, Ok_runPl, Ok_againR, Ok_putR, Ok_loopR]
  refine hv.mono ?_
  rintro ⟨v, S3⟩ ⟨rfl, hs3⟩
  dsimp only at hs3
  have g3 : S3.get S.cnt = _ := (hs3.get S.cnt (Nat.lt_succ_self _) (fun q => q)).trans (by rw [St.get_push _ _ _ hw, if_pos rfl])
  have z : ByteArray.empty.size = 0 := rfl
  simp [g3, lenW_str u_string, z]
  exact hs.trans hs3 (fun _ _ q => q)

end Go.AM
