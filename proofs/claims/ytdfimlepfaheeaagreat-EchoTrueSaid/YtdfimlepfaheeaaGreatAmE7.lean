/- AmE7: echoes: what is shown. -/
import Derived.Test.YtdfimlepfaheeaaGreatAmE6
set_option linter.unusedVariables false
set_option linter.unusedSimpArgs false
namespace Go.AM

/-- The cells of which i are guesses. -/
def shownC (f : Nat → CV) (pt : Nat → Int) (a i : Nat) (k : Nat) : CV := if a ≤ k ∧ k < a + i then ⟨pt k, 8, (f k).fg, (f k).bg⟩ else f k

theorem index2 {S : St} (hw : S.base ≤ S.cnt) {cols col : Nat} {sa : Option Addr} {sl sc : Nat} {c0 : Int} (hc : col < cols) (hs : cols ≤ 1000) :
    cs n_echo_index [.agg #[.int .i64 2, .int .i64 cols, .slice sa sl sc, .int .i64 0, .int .i64 c0, .bool true], .int .i64 0, .int .i64 col] S = some (.int .i64 (col : Int), S.push (.cells [.int .i64 2, .int .i64 cols, .slice sa sl sc, .int .i64 0, .int .i64 c0, .bool true] t_view_View 0 false)) := by
  have h := echo_index (rows := 2) (row := 0) (sa := sa) (sl := sl) (sc := sc) (r0 := 0) (c0 := c0) (vis := true) hw (by decide) hc ⟨by decide, hs⟩
  rw [Nat.zero_mul, Nat.zero_add] at h
  exact h

set_option maxRecDepth 4000 in
theorem echo_Show {S : St} {X L C : Nat} {e : Nat → Value} {a m cols t : Nat} {pt : Nat → Int} {f : Nat → CV} (h : EchoAt S X L e a m pt) (hs : Seen S X C e 2 cols 0 t f) (hc : 1 ≤ cols ∧ cols ≤ 40) (ham : a + m < cols) (hfl : ∀ k, k < 2 * cols → (f k).fl = 0) :
    Ok (cs n_echo_Echo_Show [.pointer (some ⟨X, 0, none⟩)] S) fun q => ∃ C', q.1 = .tuple #[.agg #[.int .i64 2, .int .i64 cols, .slice (some ⟨C', 0, none⟩) (2 * cols) capx, .int .i64 0, .int .i64 ((a + m : Nat) : Int), .bool true], .int .i64 0] ∧
      q.2.get C' = some (.cells (flat (2 * cols) fun k => (shownC f pt a m k).vals) t_grid_Cell 4 false) ∧ S.cnt ≤ C' ∧ C' < q.2.cnt ∧ Stays S q.2 (fun _ => False) := by
  have hw : S.base ≤ S.cnt := Nat.le_of_lt (Nat.lt_of_le_of_lt h.b.1 h.b.2)
  have hw1 : S.base ≤ S.cnt + 1 := by omega
  have hw2 : S.base ≤ S.cnt + 1 + 1 := by omega
  have hw3 : S.base ≤ S.cnt + 1 + 1 + 1 := by omega
  have hX := h.b
  have x0 : ¬ X = S.cnt := by omega
  have x1 : ¬ X = S.cnt + 1 := by omega
  have x2 : ¬ X = S.cnt + 1 + 1 := by omega
  have x3 : ¬ X = S.cnt + 1 + 1 + 1 := by omega
  have g0 := h.get
  have hs1 : Stays S (S.push (.cells [.int .i64 0, .int .i64 0, .slice none 0 0, .int .i64 0, .int .i64 0, .bool false] t_view_View 0 false)) (fun _ => False) := Stays.push hw
  have ci := echo_is ((hs1.get X hX.2 (fun q => q)).trans g0) h.f0
  have hl : (flat (2 * cols) fun k => (f k).vals).length = 2 * cols * 4 := flat_length fun _ _ => rfl
  have hs2 : Stays S ((S.push (.cells [.int .i64 0, .int .i64 0, .slice none 0 0, .int .i64 0, .int .i64 0, .bool false] t_view_View 0 false)).push (.cells [.int .i64 2, .int .i64 cols, .slice (some ⟨C, 0, none⟩) (2 * cols) capx, .int .i64 0, .int .i64 t, .bool true] t_view_View 0 false)) (fun _ => False) := hs1.trans (Stays.push hw1) (fun _ _ q => q)
  have hcl := clone_cells (S := (S.push (.cells [.int .i64 0, .int .i64 0, .slice none 0 0, .int .i64 0, .int .i64 0, .bool false] t_view_View 0 false)).push (.cells [.int .i64 2, .int .i64 cols, .slice (some ⟨C, 0, none⟩) (2 * cols) capx, .int .i64 0, .int .i64 t, .bool true] t_view_View 0 false)) (n := C) (off := 0) (len := 2 * cols) (cap := capx) hw2 (by omega) (by omega)
    (by rw [rowAt_O, hs2.get C hs.cb.2.1 (fun q => q), hs.tbl, rowO_cells (by omega), List.drop_zero, List.take_of_length_le (by omega)]) (by have := hs.cb.2.1; show C < S.cnt + 1 + 1; omega) (ones_flat fun _ _ => rfl)
  simp only [St.push_cntQ] at hcl
  have f1 : e 1 = .int .i64 2 := hs.f1
  have f4 : e 4 = .int .i64 0 := hs.f4
  apply csOk is_echo_Echo_Show rfl rfl
  simp [funA_run, a_echo_Echo_Show, hw, hw1, hw2, hw3, ci, g0, x0, x1, x2, x3, f1, hs.f2, hs.f3, f4, hs.f5, hs.f6, hcl, putL, h.f11]
  generalize hS3 : St.set _ (S.cnt + 1) _ = S3
  have y1 : ¬ S.cnt = S.cnt + 1 + 1 + 1 := by omega
  have y2 : ¬ S.cnt = S.cnt + 1 + 1 := by omega
  have gz : S3.get S.cnt = some (.cells [.int .i64 0, .int .i64 0, .slice none 0 0, .int .i64 0, .int .i64 0, .bool false] t_view_View 0 false) := by
    rw [← hS3]; simp [hw, hw1, hw2, hw3, y1, y2]
  have gv5 : S3.get (S.cnt + 1) = some (.cells [.int .i64 2, .int .i64 cols, .slice (some ⟨S.cnt + 1 + 1 + 1, 0, none⟩) (2 * cols) capx, .int .i64 0, .int .i64 t, .bool true] t_view_View 0 false) := by
    rw [← hS3]; simp [hw1]
  have gC : S3.get (S.cnt + 1 + 1 + 1) = some (.cells (flat (2 * cols) fun k => (f k).vals) t_grid_Cell 4 false) := by
    have y3 : ¬ S.cnt + 1 + 1 = S.cnt := by omega
    rw [← hS3]; simp [hw, hw1, hw2, hw3, y3]
  have n3 : S3.cnt = S.cnt + 4 := by rw [← hS3]; rfl
  have hs3 : Stays S S3 (fun _ => False) := by
    refine ⟨by rw [← hS3]; rfl, by omega, fun x hx _ => ?_⟩
    have z0 : ¬ x = S.cnt := by omega
    have z1 : ¬ x = S.cnt + 1 := by omega
    have z2 : ¬ x = S.cnt + 1 + 1 := by omega
    have z3 : ¬ x = S.cnt + 1 + 1 + 1 := by omega
    rw [← hS3]; simp [hw, hw1, hw2, hw3, z0, z1, z2, z3]
  clear hS3
  simp only [Ok_endR, Ok_seqR, Ok_blockR, Ok_opsR, Ok_runL, Ok_runPl, Ok_againR, Ok_putR, Ok_loopR]
  refine loop_ok (fun k ρ S4 => ∃ i : Nat, k = m - i ∧ i ≤ m ∧ ρ 0 = .pointer (some ⟨X, 0, none⟩) ∧ ρ 2 = .pointer (some ⟨S.cnt, 0, none⟩) ∧ ρ 4 = .pointer (some ⟨S.cnt + 1, 0, none⟩) ∧ ρ 24 = slOf L m ∧ ρ 25 = .int .i64 m ∧ ρ 26 = .int .i64 i ∧
    S4.get S.cnt = some (.cells [.int .i64 0, .int .i64 0, .slice none 0 0, .int .i64 0, .int .i64 0, .bool false] t_view_View 0 false) ∧
    S4.get (S.cnt + 1) = some (.cells [.int .i64 2, .int .i64 cols, .slice (some ⟨S.cnt + 1 + 1 + 1, 0, none⟩) (2 * cols) capx, .int .i64 0, .int .i64 t, .bool true] t_view_View 0 false) ∧
    S4.get (S.cnt + 1 + 1 + 1) = some (.cells (flat (2 * cols) fun k => (shownC f pt a i k).vals) t_grid_Cell 4 false) ∧ S.cnt + 4 ≤ S4.cnt ∧ Stays S S4 (fun _ => False)) ?_ (n := m) ⟨0, rfl, Nat.zero_le _, ?_⟩
  · rintro k ρ S4 ⟨i, rfl, hi, r0, r2, r4, r24, r25, r26, q1, q2, q3, q4, q5⟩
    have b4 : S4.base = S.base := q5.base
    have hw4 : S4.base ≤ S4.cnt := by omega
    have hw41 : S4.base ≤ S4.cnt + 1 := by omega
    have bC : S4.base ≤ S.cnt + 1 + 1 + 1 := by omega
    have bV : S4.base ≤ S.cnt + 1 := by omega
    have bZ : S4.base ≤ S.cnt := by omega
    by_cases hlt : i < m
    · have hl2 : (i : Int) < m := by omega
      obtain ⟨a1, a2, a3, a4⟩ := h.tbl (by omega)
      rw [slOf_pos L (by omega)] at r24
      have hL4 := (q5.get L a3 (fun q => q)).trans a1
      have hr4 := rowO_flat (i := i) (k := 4) (f := fun x => gv pt (a + x)) hL4 (fun _ _ => rfl) hlt
      have hix : idxSV 4 (.slice (some ⟨L, 0, none⟩) m capx) (.int .i64 (i : Int)) = some (.pointer (some ⟨L, i * 4, none⟩)) := by rw [idxSV_ok (by omega) hl2]; simp
      generalize hidx : a + i = idx at *
      have hi2 : idx < 2 * cols := by omega
      have hge : (0 : Int) ≤ (idx : Int) := by omega
      have hlt2 : (idx : Int) < ((2 * cols : Nat) : Int) := by omega
      have hix2 : idxSV 4 (.slice (some ⟨S.cnt + 1 + 1 + 1, 0, none⟩) (2 * cols) capx) (.int .i64 (idx : Int)) = some (.pointer (some ⟨S.cnt + 1 + 1 + 1, idx * 4, none⟩)) := by rw [idxSV_ok hge hlt2]; simp
      have hin := index2 (S := S4.push (.cells (gv pt idx) t_echo_Guess 0 false)) (cols := cols) (col := idx) (sa := some ⟨S.cnt + 1 + 1 + 1, 0, none⟩) (sl := 2 * cols) (sc := capx) (c0 := t) hw41 (by omega) (by omega)
      have z0 : ¬ S.cnt = S4.cnt := by omega
      have z1 : ¬ S.cnt + 1 = S4.cnt := by omega
      have z2 : ¬ S.cnt + 1 = S4.cnt + 1 := by omega
      have z3 : ¬ S.cnt + 1 + 1 + 1 = S4.cnt := by omega
      have z4 : ¬ S.cnt + 1 + 1 + 1 = S4.cnt + 1 := by omega
      have z5 : ¬ S4.cnt = S.cnt + 1 + 1 + 1 := by omega
      have z6 : ¬ S.cnt + 1 + 1 = S4.cnt := by omega
      have hlen : (flat (2 * cols) fun k => (shownC f pt a i k).vals).length = 2 * cols * 4 := flat_length fun _ _ => rfl
      have sto1 : ∀ S' : St, storeO S' (S.cnt + 1 + 1 + 1) (idx * 4) [.int .i32 (pt idx)] (some (.cells (flat (2 * cols) fun k => (shownC f pt a i k).vals) t_grid_Cell 4 false)) = some (S'.set (S.cnt + 1 + 1 + 1) (some (.cells (flat (2 * cols) fun k => (if k = idx then (shownC f pt a i k).setP (pt idx) else shownC f pt a i k).vals) t_grid_Cell 4 false))) := fun S' => by
        rw [storeO_cells (by rw [hlen]; simp; omega) rfl, putL_p hi2]
      have hfl2 : (if idx = idx then (shownC f pt a i idx).setP (pt idx) else shownC f pt a i idx : CV).fl = 0 := by
        rw [if_pos rfl]
        show (shownC f pt a i idx).fl = 0
        unfold shownC
        rw [if_neg (by omega)]
        exact hfl idx hi2
      have row2 : rowO (some (.cells (flat (2 * cols) fun k => (if k = idx then (shownC f pt a i k).setP (pt idx) else shownC f pt a i k).vals) t_grid_Cell 4 false)) (idx * 4 + 1) 1 = some [.int .u8 0] := by
        rw [rowO_fl (f := fun k => if k = idx then (shownC f pt a i k).setP (pt idx) else shownC f pt a i k) hi2, hfl2]
      have sto2 : ∀ S' : St, storeO S' (S.cnt + 1 + 1 + 1) (idx * 4 + 1) [.int .u8 8] (some (.cells (flat (2 * cols) fun k => (if k = idx then (shownC f pt a i k).setP (pt idx) else shownC f pt a i k).vals) t_grid_Cell 4 false)) = some (S'.set (S.cnt + 1 + 1 + 1) (some (.cells (flat (2 * cols) fun k => (shownC f pt a (i + 1) k).vals) t_grid_Cell 4 false))) := fun S' => by
        have hlen2 : (flat (2 * cols) fun k => (if k = idx then (shownC f pt a i k).setP (pt idx) else shownC f pt a i k : CV).vals).length = 2 * cols * 4 := flat_length fun _ _ => rfl
        rw [storeO_cells (by rw [hlen2]; simp; omega) rfl, putL_fl (f := fun k => if k = idx then (shownC f pt a i k).setP (pt idx) else shownC f pt a i k) hi2]
        congr 4
        refine flat_congr fun k hk => ?_
        by_cases e1 : k = idx
        · subst e1
          rw [if_pos rfl, if_pos rfl]
          unfold shownC
          rw [if_neg (by omega), if_pos (by omega)]
          rfl
        · rw [if_neg e1, if_neg e1]
          unfold shownC
          by_cases e2 : a ≤ k ∧ k < a + i
          · rw [if_pos e2, if_pos (by omega)]
          · rw [if_neg e2, if_neg (by omega)]
      unfold gv at hr4 hin
      have w1 : IntKind.wrap .i64 ((i : Int) + 1) = i + 1 := wrap64 (by omega) (by omega)
      simp [r0, r2, r4, r24, r25, r26, hl2, hlt, hix, hr4, hw4, hw41, putL, q2, q3, z0, z1, z2, z3, z4, z5, z6, hin, bC, hix2, sto1, row2, orI_08, sto2, w1]
      refine ⟨m - (i + 1), by omega, i + 1, rfl, by omega, (slOf_pos L (by omega)).symm, by simp, ?_, rfl, by omega, ?_⟩
      · rw [if_neg (by omega), if_neg (by omega)]; exact q1
      · refine ⟨b4, by show S.cnt ≤ S4.cnt + 1 + 1; omega, fun x hx _ => ?_⟩
        have e1 : ¬ x = S.cnt + 1 + 1 + 1 := by omega
        have e2 : ¬ x = S4.cnt := by omega
        have e3 : ¬ x = S4.cnt + 1 := by omega
        simp [bC, hw4, hw41, e1, e2, e3]
        exact q5.get x hx (fun q => q)
    · have hie : i = m := by omega
      subst hie
      have hl2 : ¬ (i : Int) < i := by omega
      have hin := index2 (S := S4) (cols := cols) (col := a + i) (sa := some ⟨S.cnt + 1 + 1 + 1, 0, none⟩) (sl := 2 * cols) (sc := capx) (c0 := t) hw4 (by omega) (by omega)
      have f13 := h.f13
      have gX4 := (q5.get X hX.2 (fun q => q)).trans g0
      have hge : (0 : Int) ≤ ((a + i : Nat) : Int) := by omega
      generalize hidx : a + i = idx at *
      have z0 : ¬ S.cnt = S4.cnt := by omega
      have z1 : ¬ S.cnt + 1 = S4.cnt := by omega
      have z2 : ¬ X = S4.cnt := by omega
      have z3 : ¬ X = S.cnt + 1 := by omega
      have z4 : ¬ S.cnt = S.cnt + 1 := by omega
      have z5 : ¬ S.cnt + 1 + 1 + 1 = S4.cnt := by omega
      simp [r0, r2, r4, r24, r25, r26, q2, hw4, hin, gX4, h.f12, f13, z0, z1, z2, z3, bV, putL, q1, bZ, loadV_agg g_view_View s_view_View]
      refine ⟨S.cnt + 1 + 1 + 1, ⟨rfl, by omega⟩, ?_, by omega, by omega, ?_⟩
      · rw [if_neg (by omega), if_neg (by omega), if_neg (by omega)]; exact q3
      · refine ⟨b4, by show S.cnt ≤ S4.cnt + 1; omega, fun x hx _ => ?_⟩
        have e1 : ¬ x = S.cnt + 1 := by omega
        have e2 : ¬ x = S4.cnt := by omega
        have e3 : ¬ x = S.cnt := by omega
        simp [bV, bZ, hw4, e1, e2, e3]
        exact q5.get x hx (fun q => q)
  · simp
    refine ⟨gz, gv5, ?_, by omega, hs3⟩
    rw [gC]
    congr 2
    refine flat_congr fun k _ => ?_
    unfold shownC
    rw [if_neg (by omega)]

theorem b_View1 (b : Nat) : buildV pg t_view_View [(0, .int .i64 1), (1, .int .i64 1), (2, .slice (some ⟨b, 0, none⟩) 1 1), (5, .bool true)] = some (.agg #[.int .i64 1, .int .i64 1, .slice (some ⟨b, 0, none⟩) 1 1, .int .i64 0, .int .i64 0, .bool true]) := by kernel_rfl
theorem b_State1 (b : Nat) : buildV pg t_reg_State [(0, .agg #[.int .i64 1, .int .i64 1, .slice (some ⟨b, 0, none⟩) 1 1, .int .i64 0, .int .i64 0, .bool true])] = some (.agg #[.int .i64 1, .int .i64 1, .slice (some ⟨b, 0, none⟩) 1 1, .int .i64 0, .int .i64 0, .bool true, .string .empty, .string .empty, .int .u64 0, .int .u64 0]) := by kernel_rfl
def echoL (b : Nat) : List Value := [.bool true, .int .i64 1, .int .i64 1, .slice (some ⟨b, 0, none⟩) 1 1, .int .i64 0, .int .i64 0, .bool true, .string .empty, .string .empty, .int .u64 0, .int .u64 0, .slice none 0 0, .int .i64 0, .int .i64 0, .bool false, .int .u64 0, .int .i64 0, .int .i64 0]
theorem b_Echo (b : Nat) : buildV pg t_echo_Echo [(0, .bool true), (1, .agg #[.int .i64 1, .int .i64 1, .slice (some ⟨b, 0, none⟩) 1 1, .int .i64 0, .int .i64 0, .bool true, .string .empty, .string .empty, .int .u64 0, .int .u64 0])] = some (.agg (echoL b).toArray) := by kernel_rfl
def echoE (b : Nat) : Nat → Value := fun i => (echoL b).getD i undef
theorem echoO (b : Nat) : AObj.cells (echoL b) t_echo_Echo 0 false = recO 18 t_echo_Echo (echoE b) := by kernel_rfl
theorem ones_echo (b : Nat) : ones (echoL b) = true := rfl

theorem view_First {S : St} (hw : S.base ≤ S.cnt) : Ok (cs n_view_First [] S) fun q => ∃ b, q.1 = .agg #[.int .i64 1, .int .i64 1, .slice (some ⟨b, 0, none⟩) 1 1, .int .i64 0, .int .i64 0, .bool true] ∧ Stays S q.2 (fun _ => False) := by
  have hs1 : Stays S (S.push (.cells [.int .i64 0, .int .i64 0, .slice none 0 0, .int .i64 0, .int .i64 0, .bool false] t_view_View 0 false)) (fun _ => False) := Stays.push hw
  apply csOk is_view_First rfl rfl
  simp [funA_run, a_view_First]
  simp only [Ok_endR, Ok_seqR, Ok_blockR, Ok_opsR, Ok_runL, Ok_runPl, Ok_againR, Ok_putR, Ok_loopR]
  refine (grid_Blank (S := S.push (.cells [.int .i64 0, .int .i64 0, .slice none 0 0, .int .i64 0, .int .i64 0, .bool false] t_view_View 0 false)) (Nat.le_succ_of_le hw)).mono ?_
  rintro ⟨v, S2⟩ ⟨rfl, hs2⟩
  dsimp only at hs2
  have b2 : S2.base = S.base := hs2.base
  have m2 := hs2.cnt
  simp only [St.push_cntQ] at m2
  have hw2 : S2.base ≤ S2.cnt := by omega
  have bZ : S2.base ≤ S.cnt := by omega
  have gz : S2.get S.cnt = _ := (hs2.get S.cnt (Nat.lt_succ_self _) (fun q => q)).trans (by rw [St.get_push _ _ _ hw, if_pos rfl])
  have hbs := buildSliceV_1 (S := S2) (v := CV.blank.agg) e_S_grid_Cell (by decide) rfl
  have z0 : ¬ S.cnt = S2.cnt := by omega
  simp [hbs, b_View1, hw2, bZ, gz, z0, putL, loadV_agg g_view_View s_view_View]
  refine ⟨b2, by show S.cnt ≤ S2.cnt + 1; omega, fun x hx _ => ?_⟩
  have e2 : ¬ x = S2.cnt := by omega
  have e3 : ¬ x = S.cnt := by omega
  simp [bZ, hw2, e2, e3]
  rw [hs2.get x (Nat.lt_succ_of_lt hx) (fun q => q), hs1.get x hx (fun q => q)]

theorem reg_First {S : St} (hw : S.base ≤ S.cnt) : Ok (cs n_reg_First [] S) fun q => ∃ b, q.1 = .agg #[.int .i64 1, .int .i64 1, .slice (some ⟨b, 0, none⟩) 1 1, .int .i64 0, .int .i64 0, .bool true, .string .empty, .string .empty, .int .u64 0, .int .u64 0] ∧ Stays S q.2 (fun _ => False) := by
  have hs1 : Stays S (S.push (.cells [.int .i64 0, .int .i64 0, .slice none 0 0, .int .i64 0, .int .i64 0, .bool false, .string .empty, .string .empty, .int .u64 0, .int .u64 0] t_reg_State 0 false)) (fun _ => False) := Stays.push hw
  apply csOk is_reg_First rfl rfl
  simp [funA_run, a_reg_First]
  simp only [Ok_endR, Ok_seqR, Ok_blockR, Ok_opsR, Ok_runL, Ok_runPl, Ok_againR, Ok_putR, Ok_loopR]
  refine (view_First (S := S.push (.cells [.int .i64 0, .int .i64 0, .slice none 0 0, .int .i64 0, .int .i64 0, .bool false, .string .empty, .string .empty, .int .u64 0, .int .u64 0] t_reg_State 0 false)) (Nat.le_succ_of_le hw)).mono ?_
  rintro ⟨v, S2⟩ ⟨b, rfl, hs2⟩
  dsimp only at hs2
  have b2 : S2.base = S.base := hs2.base
  have m2 := hs2.cnt
  simp only [St.push_cntQ] at m2
  have bZ : S2.base ≤ S.cnt := by omega
  have gz : S2.get S.cnt = _ := (hs2.get S.cnt (Nat.lt_succ_self _) (fun q => q)).trans (by rw [St.get_push _ _ _ hw, if_pos rfl])
  simp [b_State1, bZ, gz, putL, loadV_agg g_reg_State s_reg_State]
  refine ⟨b2, by show S.cnt ≤ S2.cnt; omega, fun x hx _ => ?_⟩
  have e3 : ¬ x = S.cnt := by omega
  simp [bZ, e3]
  rw [hs2.get x (Nat.lt_succ_of_lt hx) (fun q => q), hs1.get x hx (fun q => q)]

theorem echo_New {S : St} (hw : S.base ≤ S.cnt) (pt : Nat → Int) : Ok (cs n_echo_New [] S) fun q => ∃ X e, q.1 = .pointer (some ⟨X, 0, none⟩) ∧ EchoAt q.2 X 0 e 0 0 pt ∧ S.cnt ≤ X ∧ Stays S q.2 (fun _ => False) := by
  apply csOk is_echo_New rfl rfl
  simp [funA_run, a_echo_New]
  simp only [Ok_endR, Ok_seqR, Ok_blockR, Ok_opsR, Ok_runL, Ok_runPl, Ok_againR, Ok_putR, Ok_loopR]
  refine (reg_First hw).mono ?_
  rintro ⟨v, S2⟩ ⟨b, rfl, hs2⟩
  dsimp only at hs2
  have b2 : S2.base = S.base := hs2.base
  have m2 := hs2.cnt
  have hw2 : S2.base ≤ S2.cnt := by omega
  have hs3 : Stays S2 (S2.push (recO 18 t_echo_Echo (echoE b))) (fun _ => False) := Stays.push hw2
  have hre := echo_rest (S := S2.push (recO 18 t_echo_Echo (echoE b))) (Nat.le_succ_of_le hw2) (X := S2.cnt) (e := echoE b) (r := 0) (c := 0) (by rw [St.get_push _ _ _ hw2, if_pos rfl]) ⟨hw2, Nat.lt_succ_self _⟩ rfl rfl
  simp [b_Echo, ones_echo, echoO, hre]
  refine ⟨⟨_, ⟨by rw [St.get_set (St.push (St.push _ _) _) _ _ _ hw2, if_pos rfl], ⟨hw2, by show S2.cnt < S2.cnt + 1 + 1; omega⟩, rfl, ?_, rfl, rfl, rfl, rfl, rfl, rfl, fun h => by omega⟩⟩, m2, ?_⟩
  · rw [slOf_0]; rfl
  · refine ⟨b2, by show S.cnt ≤ S2.cnt + 1 + 1; omega, fun x hx _ => ?_⟩
    have e1 : ¬ x = S2.cnt := by omega
    have e2 : ¬ x = S2.cnt + 1 := by omega
    have hw3 : S2.base ≤ S2.cnt + 1 := by omega
    simp [hw2, hw3, e1, e2]
    exact hs2.get x hx (fun q => q)

end Go.AM
