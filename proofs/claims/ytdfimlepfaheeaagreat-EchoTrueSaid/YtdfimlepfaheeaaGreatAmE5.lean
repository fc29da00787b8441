/- AmE5: echoes: a state is seen. -/
import Derived.Test.YtdfimlepfaheeaaGreatAmE4
set_option linter.unusedVariables false
set_option linter.unusedSimpArgs false
namespace Go.AM

def viewO (rows cols : Int) (s : Value) (r c : Int) (vis : Bool) : List Value := [.int .i64 rows, .int .i64 cols, s, .int .i64 r, .int .i64 c, .bool vis]

theorem echo_index {S : St} (hw : S.base ≤ S.cnt) {rows cols row col : Nat} {sa : Option Addr} {sl sc : Nat} {r0 c0 : Int} {vis : Bool} (hr : row < rows) (hc : col < cols) (hs : rows ≤ 1000 ∧ cols ≤ 1000) :
    cs n_echo_index [.agg #[.int .i64 rows, .int .i64 cols, .slice sa sl sc, .int .i64 r0, .int .i64 c0, .bool vis], .int .i64 row, .int .i64 col] S = some (.int .i64 ((row * cols + col : Nat) : Int), S.push (.cells [.int .i64 rows, .int .i64 cols, .slice sa sl sc, .int .i64 r0, .int .i64 c0, .bool vis] t_view_View 0 false)) := by
  have hle : row * cols ≤ 1000 * 1000 := Nat.mul_le_mul (by omega) hs.2
  have n1 : ¬ (row : Int) < 0 := by omega
  have n2 : ¬ (rows : Int) ≤ row := by omega
  have n3 : ¬ (col : Int) < 0 := by omega
  have n4 : ¬ (cols : Int) ≤ col := by omega
  have w1 : IntKind.wrap .i64 ((row : Int) * cols) = ((row * cols : Nat) : Int) := by rw [← Int.natCast_mul]; exact wrap64 (by omega) (by omega)
  have w2 : IntKind.wrap .i64 (((row * cols : Nat) : Int) + col) = ((row * cols : Nat) : Int) + col := wrap64 (by omega) (by omega)
  simp only [Int.natCast_mul] at w1 w2
  apply csE is_echo_index rfl rfl
  simp [funA_run, a_echo_index, hw, n1, n2, n3, n4, w1, w2]

theorem b_place (a b : Int) : buildV pg t_echo_place [(0, .int .i64 a), (1, .int .i64 b)] = some (.agg #[.int .i64 a, .int .i64 b]) := by kernel_rfl

theorem echo_cursor {S : St} (hw : S.base ≤ S.cnt) {X : Nat} {e : Nat → Value} {r c : Int} (h : S.get X = some (recO 18 t_echo_Echo e)) (hX : X < S.cnt) (h4 : e 4 = .int .i64 r) (h5 : e 5 = .int .i64 c) :
    cs n_echo_Echo_cursor [.pointer (some ⟨X, 0, none⟩)] S = some (.agg #[.int .i64 r, .int .i64 c], S.push (.cells [.int .i64 r, .int .i64 c] t_echo_place 0 false)) := by
  have x0 : ¬ X = S.cnt := by omega
  apply csE is_echo_Echo_cursor rfl rfl
  simp [funA_run, a_echo_Echo_cursor, hw, h, h4, h5, x0, b_place, putL, loadV_agg g_echo_place s_echo_place]

theorem echo_rest {S : St} (hw : S.base ≤ S.cnt) {X : Nat} {e : Nat → Value} {r c : Int} (h : S.get X = some (recO 18 t_echo_Echo e)) (hX : S.base ≤ X ∧ X < S.cnt) (h4 : e 4 = .int .i64 r) (h5 : e 5 = .int .i64 c) :
    cs n_echo_Echo_rest [.pointer (some ⟨X, 0, none⟩)] S = some (.tuple #[], (S.push (.cells [.int .i64 r, .int .i64 c] t_echo_place 0 false)).set X (some (recO 18 t_echo_Echo (upd (upd (upd e 11 (.slice none 0 0)) 12 (.int .i64 r)) 13 (.int .i64 c))))) := by
  have x0 : ¬ X = S.cnt := by omega
  have hc := echo_cursor hw h hX.2 h4 h5
  apply csE is_echo_Echo_rest rfl rfl
  simp [funA_run, a_echo_Echo_rest, hc, hw, h, x0, hX.1]

theorem echo_right {S : St} (hw : S.base ≤ S.cnt) {X C : Nat} {e : Nat → Value} {rows cols row col r k : Nat} {f : Nat → CV} {key pt : Int} (h : S.get X = some (recO 18 t_echo_Echo e)) (hX : X < S.cnt) (hs : Seen S X C e rows cols row col f) (hsm : rows ≤ 1000 ∧ cols ≤ 1000) (hr : r < rows) (hk : k < cols) (hpt : (f (r * cols + k)).p = pt) :
    Ok (cs n_echo_Echo_right [.pointer (some ⟨X, 0, none⟩), .agg #[.int .u64 key, .int .i64 r, .int .i64 k, .int .i32 pt]] S) fun q => q.1 = .bool true ∧ Stays S q.2 (fun _ => False) := by
  have hw1 : S.base ≤ S.cnt + 1 := by omega
  have x0 : ¬ X = S.cnt := by omega
  have x1 : ¬ X = S.cnt + 1 := by omega
  have c0 : ¬ C = S.cnt := by have := hs.cb.2.1; omega
  have c1 : ¬ C = S.cnt + 1 := by have := hs.cb.2.1; omega
  have hlt : r * cols + k < rows * cols := by
    have : (r + 1) * cols ≤ rows * cols := Nat.mul_le_mul_right cols hr
    have h2 : (r + 1) * cols = r * cols + cols := Nat.succ_mul r cols
    omega
  have hi := echo_index (S := S.push (.cells [.int .u64 key, .int .i64 r, .int .i64 k, .int .i32 pt] t_echo_Guess 0 false)) (sa := some ⟨C, 0, none⟩) (sl := rows * cols) (sc := capx) (r0 := row) (c0 := col) (vis := true) hw1 hr hk hsm
  have hrow : rowO (S.get C) ((r * cols + k) * 4) 1 = some [.int .i32 (f (r * cols + k)).p] := by
    have h1 := rowO_flat (k := 4) (f := fun k => (f k).vals) hs.tbl (fun _ _ => rfl) hlt
    rw [hs.tbl] at h1 ⊢
    have hl : (flat (rows * cols) fun k => (f k).vals).length = rows * cols * 4 := flat_length fun _ _ => rfl
    rw [rowO_cells (by omega)] at h1 ⊢
    injection h1 with h1
    have h2 := congrArg (List.take 1) h1
    rw [List.take_take] at h2
    simpa [CV.vals] using h2
  have hge : (0 : Int) ≤ ((r * cols + k : Nat) : Int) := by omega
  have hlt2 : ((r * cols + k : Nat) : Int) < ((rows * cols : Nat) : Int) := by omega
  generalize hidx : r * cols + k = idx at *
  have hix : idxSV 4 (.slice (some ⟨C, 0, none⟩) (rows * cols) capx) (.int .i64 (idx : Int)) = some (.pointer (some ⟨C, idx * 4, none⟩)) := by rw [idxSV_ok hge hlt2]; simp
  apply csOk is_echo_Echo_right rfl rfl
  simp [funA_run, a_echo_Echo_right, hw, hw1, h, x0, x1, c0, c1, hs.f1, hs.f2, hs.f3, hs.f4, hs.f5, hs.f6, hi, hix, hrow, hpt]
  exact (Stays.push hw).trans (Stays.push hw1) (fun _ _ q => q)

/-- A state that is handed over. -/
theorem state2 (cols : Nat) (s : Value) (col : Nat) : stateL 2 cols s 0 col = [.int .i64 2, .int .i64 cols, s, .int .i64 0, .int .i64 col, .bool true, .string .empty, .string .empty, .int .u64 0, .int .u64 0] := rfl

def seeE (e : Nat → Value) (cols t C : Nat) : Nat → Value := upd (upd (upd (upd (upd (upd (upd (upd (upd (upd e 1 (.int .i64 2)) 2 (.int .i64 cols)) 3 (.slice (some ⟨C, 0, none⟩) (2 * cols) capx)) 4 (.int .i64 0)) 5 (.int .i64 t)) 6 (.bool true)) 7 (.string .empty)) 8 (.string .empty)) 9 (.int .u64 0)) 10 (.int .u64 0)
theorem seeE_out (e : Nat → Value) (cols t C i : Nat) (hi : i = 0 ∨ 11 ≤ i) : seeE e cols t C i = e i := by
  unfold seeE
  simp only [upd_get]
  repeat (rw [if_neg (by omega)])

theorem sliceV_guess1 {S : St} {L m : Nat} {c : List Value} (hm : 1 ≤ m) (hg : S.get L = some (.cells c t_echo_Guess 4 false)) : sliceV pg t_S_echo_Guess (.slice (some ⟨L, 0, none⟩) m capx) (some (.int .i64 1)) none none S = some (.slice (some ⟨L, 4, none⟩) (m - 1) capx) := by
  have := sliceV_open (S := S) (n := L) (off := 0) (len := m) (lo := some (.int .i64 1)) (hi := none) e_S_echo_Guess (boundV_1 .i64) boundV_none hg (by decide) (by simp; omega)
  simpa using this

set_option maxRecDepth 4000 in
theorem echo_See {S : St} {X L : Nat} {e : Nat → Value} {a m j cols t : Nat} {pt : Nat → Int} (h : EchoAt S X L e a m pt) (hj : j ≤ m) (ht : t = a + j) (hc : 1 ≤ cols ∧ cols ≤ 40) (ham : a + m < cols) {n : Nat} {f : Nat → CV} {T g : Nat} {s : Bool} (hn : n < S.cnt) (hnX : n ≠ X)
    (hg : S.get n = some (.cells (flat (2 * cols) fun k => (f k).vals) T g s)) (hf : ∀ i, i < 2 * cols → (f i).Ok') (hpt : ∀ i, i < j → (f (a + i)).p = pt (a + i)) :
    Ok (cs n_echo_Echo_See [.pointer (some ⟨X, 0, none⟩), .agg (stateL 2 cols (.slice (some ⟨n, 0, none⟩) (2 * cols) capx) 0 t).toArray, .int .u64 (t : Int)] S) fun q => q.1 = .int .i64 0 ∧
      ∃ L' C e', EchoAt q.2 X L' e' t (m - j) pt ∧ Seen q.2 X C e' 2 cols 0 t f ∧ S.cnt ≤ C ∧ (0 < m - j → L' = L ∨ S.cnt ≤ L') ∧ Stays S q.2 (fun n => n = X) := by
  have hw : S.base ≤ S.cnt := Nat.le_of_lt (Nat.lt_of_le_of_lt h.b.1 h.b.2)
  have hw1 : S.base ≤ S.cnt + 1 := by omega
  have hX := h.b
  have x0 : ¬ X = S.cnt := by omega
  have hs1 : Stays S (S.push (.cells (stateL 2 cols (.slice (some ⟨n, 0, none⟩) (2 * cols) capx) 0 t) t_reg_State 0 false)) (fun _ => False) := Stays.push hw
  have hrr := reg_Right (S := S.push (.cells (stateL 2 cols (.slice (some ⟨n, 0, none⟩) (2 * cols) capx) 0 t) t_reg_State 0 false)) (cap := capx) hw1 (rows := 2) (row := 0) (col := t) ⟨by decide, by decide⟩ hc (by decide) (by omega) (Nat.lt_succ_of_lt hn) (by rw [hs1.get n hn (fun q => q)]; exact hg) hf
  have g0 := h.get
  have g1 : (S.push (.cells (stateL 2 cols (.slice (some ⟨n, 0, none⟩) (2 * cols) capx) 0 t) t_reg_State 0 false)).get X = some (recO 18 t_echo_Echo e) := (hs1.get X hX.2 (fun q => q)).trans g0
  have ci := echo_is g1 h.f0
  rw [state2] at *
  apply csOk is_echo_Echo_See rfl rfl
  simp [funA_run, a_echo_Echo_See, hw, ci]
  simp only [Ok_endR, Ok_seqR, Ok_blockR, Ok_opsR, Ok_runL, Ok_runPl, Ok_againR, Ok_putR, Ok_loopR]
  refine hrr.mono ?_
  rintro ⟨v, S2⟩ ⟨rfl, hs2⟩
  dsimp only at hs2
  have hs02 := hs1.trans hs2 (fun _ _ q => q)
  have m2 := hs02.cnt
  have hc2 := hs2.cnt
  simp only [St.push_cntQ] at hc2
  have b2 : S2.base = S.base := hs02.base
  have hw2 : S2.base ≤ S2.cnt := by omega
  have gB : S2.get S.cnt = _ := (hs2.get S.cnt (Nat.lt_succ_self _) (fun q => q)).trans (by rw [St.get_push _ _ _ hw, if_pos rfl])
  have gX := (hs02.get X hX.2 (fun q => q)).trans g0
  have gn := (hs02.get n hn (fun q => q)).trans hg
  have hl : (flat (2 * cols) fun k => (f k).vals).length = 2 * cols * 4 := flat_length fun _ _ => rfl
  have hcl := clone_cells (S := S2) (n := n) (off := 0) (len := 2 * cols) (cap := capx) hw2 (by omega) (by omega) (by rw [rowAt_O, gn, rowO_cells (by omega), List.drop_zero, List.take_of_length_le (by omega)]) (by omega) (ones_flat fun _ _ => rfl)
  have bB : S2.base ≤ S.cnt := by omega
  have bX : S2.base ≤ X := by omega
  have nB : ¬ S.cnt = S2.cnt := by omega
  have nB1 : ¬ S.cnt = S2.cnt + 1 := by omega
  have nX : ¬ X = S2.cnt := by omega
  have nX1 : ¬ X = S2.cnt + 1 := by omega
  have nXB : ¬ S.cnt = X := by omega
  have hw21 : S2.base ≤ S2.cnt + 1 := by omega
  simp [gB, hcl, bB, bX, nB, nB1, nX, nX1, x0, nXB, hw2, hw21, putL, gX]
  have hs3 : Stays S (((((S2.push (.cells [] t_grid_Cell 0 false)).push (.cells (flat (2 * cols) fun k => (f k).vals) t_grid_Cell 4 false)).set S.cnt (some (.cells [.int .i64 2, .int .i64 cols, .slice (some ⟨S2.cnt + 1, 0, none⟩) (2 * cols) capx, .int .i64 0, .int .i64 t, .bool true, .string .empty, .string .empty, .int .u64 0, .int .u64 0] t_reg_State 0 false))).set X (some (recO 18 t_echo_Echo (seeE e cols t (S2.cnt + 1)))))) (fun n => n = X) := by
    refine ⟨b2, by show S.cnt ≤ S2.cnt + 1 + 1; omega, fun x hx hxX => ?_⟩
    have y1 : ¬ x = S.cnt := by omega
    have y2 : ¬ x = S2.cnt := by omega
    have y3 : ¬ x = S2.cnt + 1 := by omega
    simp [hxX, bX, bB, hw2, hw21, y1, y2, y3]
    exact hs02.get x hx (fun q => q)
  have gX3 : (((((S2.push (.cells [] t_grid_Cell 0 false)).push (.cells (flat (2 * cols) fun k => (f k).vals) t_grid_Cell 4 false)).set S.cnt (some (.cells [.int .i64 2, .int .i64 cols, .slice (some ⟨S2.cnt + 1, 0, none⟩) (2 * cols) capx, .int .i64 0, .int .i64 t, .bool true, .string .empty, .string .empty, .int .u64 0, .int .u64 0] t_reg_State 0 false))).set X (some (recO 18 t_echo_Echo (seeE e cols t (S2.cnt + 1)))))).get X = some (recO 18 t_echo_Echo (seeE e cols t (S2.cnt + 1))) := by
    simp [bX]
  have gC3 : (((((S2.push (.cells [] t_grid_Cell 0 false)).push (.cells (flat (2 * cols) fun k => (f k).vals) t_grid_Cell 4 false)).set S.cnt (some (.cells [.int .i64 2, .int .i64 cols, .slice (some ⟨S2.cnt + 1, 0, none⟩) (2 * cols) capx, .int .i64 0, .int .i64 t, .bool true, .string .empty, .string .empty, .int .u64 0, .int .u64 0] t_reg_State 0 false))).set X (some (recO 18 t_echo_Echo (seeE e cols t (S2.cnt + 1)))))).get (S2.cnt + 1) = some (.cells (flat (2 * cols) fun k => (f k).vals) t_grid_Cell 4 false) := by
    have y1 : ¬ S2.cnt + 1 = X := by omega
    have y2 : ¬ S2.cnt + 1 = S.cnt := by omega
    simp [bX, bB, y1, y2, hw21]
  have n3 : (((((S2.push (.cells [] t_grid_Cell 0 false)).push (.cells (flat (2 * cols) fun k => (f k).vals) t_grid_Cell 4 false)).set S.cnt (some (.cells [.int .i64 2, .int .i64 cols, .slice (some ⟨S2.cnt + 1, 0, none⟩) (2 * cols) capx, .int .i64 0, .int .i64 t, .bool true, .string .empty, .string .empty, .int .u64 0, .int .u64 0] t_reg_State 0 false))).set X (some (recO 18 t_echo_Echo (seeE e cols t (S2.cnt + 1)))))).cnt = S2.cnt + 2 := rfl
  unfold seeE at hs3 gX3 gC3 n3
  generalize (((((S2.push (.cells [] t_grid_Cell 0 false)).push (.cells (flat (2 * cols) fun k => (f k).vals) t_grid_Cell 4 false)).set S.cnt (some (.cells [.int .i64 2, .int .i64 cols, .slice (some ⟨S2.cnt + 1, 0, none⟩) (2 * cols) capx, .int .i64 0, .int .i64 t, .bool true, .string .empty, .string .empty, .int .u64 0, .int .u64 0] t_reg_State 0 false))).set X (some (recO 18 t_echo_Echo _)))) = S3 at hs3 gX3 gC3 n3 ⊢
  have gX3 : S3.get X = some (recO 18 t_echo_Echo (seeE e cols t (S2.cnt + 1))) := gX3
  have b3 : S3.base = S.base := hs3.base
  simp only [Ok_endR, Ok_seqR, Ok_blockR, Ok_opsR, Ok_runL, Ok_runPl, Ok_againR, Ok_putR, Ok_loopR]
  refine loop_ok (fun k ρ S4 => ∃ (i L4 : Nat) (e4 : Nat → Value) (w : Value), k = j - i ∧ i ≤ j ∧ ρ 0 = .pointer (some ⟨X, 0, none⟩) ∧ ρ 2 = .int .u64 t ∧ S4.get X = some (recO 18 t_echo_Echo e4) ∧ e4 11 = w ∧
    (0 < m - i → w = .slice (some ⟨L4, 0, none⟩) (m - i) capx ∧ S4.get L4 = some (.cells (flat (m - i) fun x => gv pt (a + i + x)) t_echo_Guess 4 false) ∧ S4.base ≤ L4 ∧ L4 < S4.cnt ∧ L4 ≠ X ∧ (L4 = L ∨ S.cnt ≤ L4)) ∧
    (m - i = 0 → w = .slice none 0 0 ∨ ∃ b, w = .slice (some ⟨b, 0, none⟩) 0 0) ∧ e4 16 = .int .i64 ((a + i : Nat) : Int) ∧ (∀ x, x ≠ 11 → x ≠ 16 → e4 x = seeE e cols t (S2.cnt + 1) x) ∧ Stays S3 S4 (fun n => n = X)) ?_ (n := j) ⟨0, L, seeE e cols t (S2.cnt + 1), slOf L m, rfl, Nat.zero_le _, ?_⟩
  · rintro k ρ S4 ⟨i, L4, e4, w, rfl, hi, r0, r2, q1, q2, q3, q4, q5, q6, q7⟩
    have m4 := q7.cnt
    have b4 : S4.base = S.base := q7.base.trans b3
    have bX4 : S4.base ≤ X := by omega
    have hw4 : S4.base ≤ S4.cnt := by omega
    by_cases hij : i < j
    · obtain ⟨p1, p2, p3, p4, p5, p6⟩ := q3 (by omega)
      subst p1
      have hl4 : (flat (m - i) fun x => gv pt (a + i + x)).length = (m - i) * 4 := flat_length fun _ _ => rfl
      have hlen : (0 : Int) < ((m - i : Nat) : Int) := by omega
      have hix : idxSV 4 (.slice (some ⟨L4, 0, none⟩) (m - i) capx) (.int .i64 0) = some (.pointer (some ⟨L4, 0, none⟩)) := by rw [idxSV_ok (Int.le_refl _) hlen]; rfl
      have hr4 : rowO (S4.get L4) 0 4 = some (gv pt (a + i)) := by
        have := rowO_flat (i := 0) (k := 4) (f := fun x => gv pt (a + i + x)) p2 (fun _ _ => rfl) (by omega)
        simpa using this
      have hr1 : rowO (S4.get L4) 0 1 = some [.int .u64 ((a + i : Nat) : Int)] := by
        rw [p2] at hr4 ⊢
        rw [rowO_cells (by omega)] at hr4 ⊢
        injection hr4 with h1
        have h2 := congrArg (List.take 1) h1
        rw [List.take_take] at h2
        simpa [gv] using h2
      have hlt : ((a + i : Nat) : Int) < (t : Int) := by omega
      have hsn : Seen S4 X (S2.cnt + 1) e4 2 cols 0 t f := by
        have n34 := n3
        refine ⟨?_, ?_, ?_, ?_, ?_, ?_, ?_, by omega, by omega, by omega⟩
        · rw [q6 _ (by decide) (by decide)]; rfl
        · rw [q6 _ (by decide) (by decide)]; rfl
        · rw [q6 _ (by decide) (by decide)]; rfl
        · rw [q6 _ (by decide) (by decide)]; rfl
        · rw [q6 _ (by decide) (by decide)]; rfl
        · rw [q6 _ (by decide) (by decide)]; rfl
        · rw [q7.get _ (by omega) (by omega)]; exact gC3
      have hrt := echo_right (S := S4) hw4 (r := 0) (k := a + i) (key := ((a + i : Nat) : Int)) (pt := pt (a + i)) q1 (by omega) hsn ⟨by decide, by omega⟩ (by decide) (by omega) (by rw [Nat.zero_mul, Nat.zero_add]; exact hpt i hij)
      unfold gv at hr4
      simp only [Int.natCast_add] at hr4 hr1 hlt hrt
      have hlenN : 0 < m - i := by omega
      simp [r0, r2, q1, q2, hlen, hlenN, hix, hr4, hr1, hlt]
      simp only [Ok_endR, Ok_seqR, Ok_blockR, Ok_opsR, Ok_runL, Ok_runPl, Ok_againR, Ok_putR, Ok_loopR]
      refine hrt.mono ?_
      rintro ⟨v, S5⟩ ⟨rfl, hs5⟩
      dsimp only at hs5
      have m5 := hs5.cnt
      have b5 : S5.base = S.base := hs5.base.trans b4
      have bX5 : S5.base ≤ X := by omega
      have hw5 : S5.base ≤ S5.cnt := by omega
      have hw51 : S5.base ≤ S5.cnt + 1 := by omega
      have q15 := (hs5.get X (by omega) (fun q => q)).trans q1
      have p25 := (hs5.get L4 p4 (fun q => q)).trans p2
      have hsl := sliceV_guess1 (S := S5.set X (some (recO 18 t_echo_Echo (upd e4 16 (.int .i64 ((a : Int) + i + 1)))))) (L := L4) (m := m - i) (by omega) (by rw [St.get_set _ _ _ _ bX5, if_neg p5]; exact p25)
      have w1 : IntKind.wrap .i64 ((a : Int) + i + 1) = (a : Int) + i + 1 := wrap64 (by omega) (by omega)
      simp only [Int.natCast_add] at q5
      have xn5 : ¬ X = S5.cnt := by omega
      have xn51 : ¬ X = S5.cnt + 1 := by omega
      by_cases hr0 : m - i - 1 = 0
      · have hcg := clone_guess_0 (S := S5.set X (some (recO 18 t_echo_Echo (upd e4 16 (.int .i64 ((a : Int) + i + 1)))))) (n := L4) (off := 4) (cap := capx) hw5
        rw [hr0] at hsl
        simp [r0, r2, q15, q2, q5, w1, bX5, hsl, hcg, hw5, xn5]
        refine ⟨j - (i + 1), by omega, i + 1, rfl, by omega, L, _, rfl, fun h => by omega, fun _ => Or.inr ⟨S5.cnt, by simp⟩, by simp [Int.add_assoc], fun x h1 h2 => by simp [h1, h2]; exact q6 x h1 h2, ?_⟩
        refine q7.trans (S' := S4) (B := fun n => n = X) ⟨by show S5.base = _; omega, by show S4.cnt ≤ S5.cnt + 1; omega, fun x hx hxX => ?_⟩ (fun _ _ q => q)
        have y1 : ¬ x = S5.cnt := by omega
        simp [bX5, hw5, hxX, y1]
        exact hs5.get x hx (fun q => q)
      · have hfl : ((flat (m - i) fun x => gv pt (a + i + x)).drop 4).take ((m - i - 1) * 4) = flat (m - i - 1) fun x => gv pt (a + (i + 1) + x) := by
          have := flat_rows (n := m - i) (k := 4) (a := 1) (m := m - i - 1) (f := fun x => gv pt (a + i + x)) (fun _ _ => rfl) (by omega)
          rw [Nat.one_mul] at this
          rw [this]
          exact flat_congr fun x hx => by rw [show a + i + (1 + x) = a + (i + 1) + x by omega]
        have hcg := clone_guess (S := S5.set X (some (recO 18 t_echo_Echo (upd e4 16 (.int .i64 ((a : Int) + i + 1)))))) (n := L4) (off := 4) (len := m - i - 1) (cap := capx) (l := flat (m - i - 1) fun x => gv pt (a + (i + 1) + x)) hw5 (by omega) (by omega)
          (by rw [rowAt_O, St.get_set _ _ _ _ bX5, if_neg p5, p25, rowO_cells (by omega), hfl]) (by show L4 < S5.cnt; omega) (ones_flat fun _ _ => rfl)
        simp [r0, r2, q15, q2, q5, w1, bX5, hsl, hcg, hw5, hw51, xn5, xn51]
        refine ⟨j - (i + 1), by omega, i + 1, rfl, by omega, S5.cnt + 1, _, rfl, fun h => ⟨?_, ?_, by omega, by omega, by omega, Or.inr (by omega)⟩, fun h => by omega, by simp [Int.add_assoc], fun x h1 h2 => by simp [h1, h2]; exact q6 x h1 h2, ?_⟩
        · simp [show m - (i + 1) = m - i - 1 by omega]
        · have y1 : ¬ S5.cnt + 1 = X := by omega
          simp [y1, show m - (i + 1) = m - i - 1 by omega]
        · refine q7.trans (S' := S4) (B := fun n => n = X) ⟨by show S5.base = _; omega, by show S4.cnt ≤ S5.cnt + 1 + 1; omega, fun x hx hxX => ?_⟩ (fun _ _ q => q)
          have y1 : ¬ x = S5.cnt := by omega
          have y2 : ¬ x = S5.cnt + 1 := by omega
          simp [bX5, hw5, hw51, hxX, y1, y2]
          exact hs5.get x hx (fun q => q)
    · have hie : i = j := by omega
      subst hie
      have s4 : e4 4 = .int .i64 ((0 : Nat) : Int) := (q6 4 (by decide) (by decide)).trans rfl
      have s5 : e4 5 = .int .i64 (t : Int) := (q6 5 (by decide) (by decide)).trans rfl
      have s14 : e4 14 = .bool false := (q6 14 (by decide) (by decide)).trans ((seeE_out _ _ _ _ _ (by omega)).trans h.f14)
      have hst : Stays S S4 (fun n => n = X) := hs3.trans q7 (fun _ _ q => q)
      have n34 := n3
      have hC4 : S4.get (S2.cnt + 1) = some (.cells (flat (2 * cols) fun k => (f k).vals) t_grid_Cell 4 false) := (q7.get _ (by omega) (by omega)).trans gC3
      have hout : ∀ x, x ≠ 11 → x ≠ 16 → (x = 0 ∨ 11 ≤ x) → e4 x = e x := fun x h1 h2 h3 => (q6 x h1 h2).trans (seeE_out _ _ _ _ _ h3)
      have ht' : ((a : Int) + (i : Nat)) = t := by omega
      by_cases hr0 : m - i = 0
      · have hre := echo_rest hw4 q1 ⟨bX4, by omega⟩ s4 s5
        have xn4 : ¬ X = S4.cnt := by omega
        have fin : ∀ l c, e4 11 = .slice l 0 c → Ok (some (Ex.ret, ρ, S4)) (fun _ => True) := fun _ _ _ => by simp
        have goal4 : EchoAt ((S4.push (.cells [.int .i64 ((0 : Nat) : Int), .int .i64 (t : Int)] t_echo_place 0 false)).set X (some (recO 18 t_echo_Echo (upd (upd (upd (upd e4 11 (.slice none 0 0)) 12 (.int .i64 ((0 : Nat) : Int))) 13 (.int .i64 (t : Int))) 14 (.bool false))))) X 0 (upd (upd (upd (upd e4 11 (.slice none 0 0)) 12 (.int .i64 ((0 : Nat) : Int))) 13 (.int .i64 (t : Int))) 14 (.bool false)) t (m - i) pt := by
          refine ⟨by rw [St.get_set (S4.push _) _ _ _ bX4, if_pos rfl], ⟨bX4, by show X < S4.cnt + 1; omega⟩, ?_, ?_, ?_, ?_, ?_, ?_, ?_, ?_, fun h => by omega⟩
          · simp; exact (hout 0 (by decide) (by decide) (Or.inl rfl)).trans h.f0
          · rw [hr0, slOf_0]; simp
          · simp
          · rw [hr0]; simp
          · simp
          · simp; rw [hout 15 (by decide) (by decide) (by omega), h.f15]; congr 1; omega
          · simp; rw [q5]; congr 1; try omega
          · simp; exact (hout 17 (by decide) (by decide) (by omega)).trans h.f17
        have goal5 : Seen ((S4.push (.cells [.int .i64 ((0 : Nat) : Int), .int .i64 (t : Int)] t_echo_place 0 false)).set X (some (recO 18 t_echo_Echo (upd (upd (upd (upd e4 11 (.slice none 0 0)) 12 (.int .i64 ((0 : Nat) : Int))) 13 (.int .i64 (t : Int))) 14 (.bool false))))) X (S2.cnt + 1) (upd (upd (upd (upd e4 11 (.slice none 0 0)) 12 (.int .i64 ((0 : Nat) : Int))) 13 (.int .i64 (t : Int))) 14 (.bool false)) 2 cols 0 t f := by
          refine ⟨?_, ?_, ?_, ?_, ?_, ?_, ?_, by show S4.base ≤ _; omega, by show _ < S4.cnt + 1; omega, by omega⟩
          · simp; rw [q6 _ (by decide) (by decide)]; rfl
          · simp; rw [q6 _ (by decide) (by decide)]; rfl
          · simp; rw [q6 _ (by decide) (by decide)]; rfl
          · simp; rw [q6 _ (by decide) (by decide)]; rfl
          · simp; rw [q6 _ (by decide) (by decide)]; rfl
          · simp; rw [q6 _ (by decide) (by decide)]; rfl
          · rw [St.get_set (S4.push _) _ _ _ bX4, if_neg (by omega), St.get_push _ _ _ hw4, if_neg (by omega)]; exact hC4
        have goal6 : Stays S ((S4.push (.cells [.int .i64 ((0 : Nat) : Int), .int .i64 (t : Int)] t_echo_place 0 false)).set X (some (recO 18 t_echo_Echo (upd (upd (upd (upd e4 11 (.slice none 0 0)) 12 (.int .i64 ((0 : Nat) : Int))) 13 (.int .i64 (t : Int))) 14 (.bool false))))) (fun n => n = X) :=
          (hst.trans (Stays.push hw4) (fun _ _ q => q)).trans (Stays.set (A := fun n => n = X) bX4 rfl) (fun _ _ q => q)
        have hsome : ∀ l : Option Addr, e4 11 = .slice l 0 0 → (∃ b, l = some b) ∨ l = none := fun l _ => by cases l <;> simp
        obtain ⟨l, hl⟩ : ∃ l, e4 11 = .slice l 0 0 := by
          rcases q4 hr0 with q | ⟨b, q⟩
          · exact ⟨none, q2.trans q⟩
          · exact ⟨_, q2.trans q⟩
        simp only [Int.natCast_zero] at hre goal4 goal5 goal6
        simp [r0, r2, q1, hl, hre, s14, bX4, xn4, hw4]
        exact ⟨0, S2.cnt + 1, _, goal4, goal5, by omega, fun h => by omega, goal6⟩
      · obtain ⟨p1, p2, p3, p4, p5, p6⟩ := q3 (by omega)
        subst p1
        have hl4 : (flat (m - i) fun x => gv pt (a + i + x)).length = (m - i) * 4 := flat_length fun _ _ => rfl
        have hlen : (0 : Int) < ((m - i : Nat) : Int) := by omega
        have hlenN : 0 < m - i := by omega
        have hix : idxSV 4 (.slice (some ⟨L4, 0, none⟩) (m - i) capx) (.int .i64 0) = some (.pointer (some ⟨L4, 0, none⟩)) := by rw [idxSV_ok (Int.le_refl _) hlen]; rfl
        have hr1 : rowO (S4.get L4) 0 1 = some [.int .u64 (t : Int)] := by
          have hr4 : rowO (S4.get L4) 0 4 = some (gv pt (a + i)) := by
            have := rowO_flat (i := 0) (k := 4) (f := fun x => gv pt (a + i + x)) p2 (fun _ _ => rfl) (by omega)
            simpa using this
          rw [p2] at hr4 ⊢
          rw [rowO_cells (by omega)] at hr4 ⊢
          injection hr4 with h1
          have h2 := congrArg (List.take 1) h1
          rw [List.take_take] at h2
          rw [ht]
          simpa [gv] using h2
        simp [r0, r2, q1, q2, hlen, hlenN, hix, hr1, hr0, s14, bX4]
        refine ⟨L4, S2.cnt + 1, _, ⟨by rw [St.get_set _ _ _ _ bX4, if_pos rfl], ⟨bX4, by show X < S4.cnt; omega⟩, ?_, ?_, ?_, ?_, ?_, ?_, ?_, ?_, fun _ => ⟨?_, p3, p4, p5⟩⟩, ⟨?_, ?_, ?_, ?_, ?_, ?_, ?_, by show S4.base ≤ _; omega, by show _ < S4.cnt; omega, by omega⟩, by omega, p6, hst.trans (Stays.set (A := fun n => n = X) bX4 rfl) (fun _ _ q => q)⟩
        · simp; exact (hout 0 (by decide) (by decide) (Or.inl rfl)).trans h.f0
        · rw [slOf_pos _ hlenN]; simp; exact q2
        · simp; exact (hout 12 (by decide) (by decide) (by omega)).trans h.f12
        · simp; rw [hout 13 (by decide) (by decide) (by omega), h.f13]; congr 1; omega
        · simp
        · simp; rw [hout 15 (by decide) (by decide) (by omega), h.f15]; congr 1; omega
        · simp; rw [q5]; congr 1; try omega
        · simp; exact (hout 17 (by decide) (by decide) (by omega)).trans h.f17
        · rw [St.get_set _ _ _ _ bX4, if_neg p5, ht]; exact p2
        · simp; rw [q6 _ (by decide) (by decide)]; rfl
        · simp; rw [q6 _ (by decide) (by decide)]; rfl
        · simp; rw [q6 _ (by decide) (by decide)]; rfl
        · simp; rw [q6 _ (by decide) (by decide)]; rfl
        · simp; rw [q6 _ (by decide) (by decide)]; rfl
        · simp; rw [q6 _ (by decide) (by decide)]; rfl
        · rw [St.get_set _ _ _ _ bX4, if_neg (by omega)]; exact hC4
  · refine ⟨by simp, by simp, gX3, (seeE_out _ _ _ _ _ (by omega)).trans h.f11, fun hp => ?_, fun hz => Or.inl ?_, ?_, fun _ _ _ => rfl, Stays.refl _ _⟩
    · obtain ⟨a1, a2, a3, a4⟩ := h.tbl (by omega)
      have n34 := n3
      refine ⟨slOf_pos _ (by omega), by rw [hs3.get L a3 a4]; exact a1, by omega, by omega, a4, Or.inl rfl⟩
    · rw [show m = 0 by omega, slOf_0]
    · exact (seeE_out _ _ _ _ _ (by omega)).trans h.f16

end Go.AM
