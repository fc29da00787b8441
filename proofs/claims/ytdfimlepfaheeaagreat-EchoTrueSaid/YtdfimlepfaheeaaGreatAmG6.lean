/- AmG6: copies of grids. -/
import Derived.Test.YtdfimlepfaheeaaGreatAmG5
set_option linter.unusedVariables false
set_option linter.unusedSimpArgs false
namespace Go.AM

/-- A copy of a grid, of so many rows so far. -/
structure Copying (S S2 : St) (g cols i : Nat) (L : Nat) (R : Nat → Nat) (cell : Nat → Nat → CV) : Prop where
  hdr : S2.get g = some (.cells [.int .i64 cols, if i = 0 then .slice none 0 0 else .slice (some ⟨L, 0, none⟩) i capx] t_grid_Grid 0 false)
  tbl : 0 < i → S2.get L = some (.cells (flat i fun j => [.slice (some ⟨R j, 0, none⟩) cols capx]) t_S_grid_Cell 1 false)
  row : ∀ j, j < i → S2.get (R j) = some (.cells (flat cols fun k => (cell j k).vals) t_grid_Cell 4 false)
  gn : S.cnt ≤ g ∧ g < S2.cnt
  ln : 0 < i → S.cnt ≤ L ∧ L < S2.cnt ∧ g ≠ L
  rn : ∀ j, j < i → S.cnt ≤ R j ∧ R j < S2.cnt ∧ R j ≠ g ∧ R j ≠ L
  inj : ∀ j k, j < i → k < i → R j = R k → j = k
  st : Stays S S2 (fun _ => False)

set_option maxRecDepth 4000 in
theorem grid_Copy {S : St} {G0 : GL} {cols rows : Nat} {cell : Nat → Nat → CV} (h0 : GridAt S G0 cols rows cell) (hr : 1 ≤ rows ∧ rows ≤ 12) (hc : 1 ≤ cols ∧ cols ≤ 40) :
    Ok (cs n_grid_Grid_Copy [G0.ptr] S) fun q => ∃ G : GL, q.1 = G.ptr ∧ GridAt q.2 G cols rows cell ∧ Stays S q.2 (fun _ => False) ∧ S.cnt ≤ G.g ∧ S.cnt ≤ G.L ∧ ∀ i, i < rows → S.cnt ≤ G.R i := by
  have hw := h0.wf
  have hm := grid_made h0
  have hpos0 : decide (0 < rows) = true := by simp; omega
  rw [hpos0] at hm
  obtain ⟨T, x, h1⟩ := h0.hdr
  have ho : ones [Value.int .i64 cols, .slice none 0 0] = true := rfl
  have h0p := h0.push (.cells [.int .i64 cols, .slice none 0 0] t_grid_Grid 0 false)
  obtain ⟨T1, x1, h1p⟩ := h0p.hdr
  apply csOk is_grid_Grid_Copy rfl rfl
  simp [funA_run, a_grid_Grid_Copy, hm, rowAt_of h1, rowAt_of h1p, b_Grid, Value.cells, ho, newRowV]
  rw [Ok_endR, Ok_seqR, Ok_blockR]
  refine loop_ok (fun k ρ S2 => ∃ i L R, k = rows - i ∧ i ≤ rows ∧ ρ 3 = .pointer (some ⟨S.cnt, 0, none⟩) ∧ ρ 18 = .slice (some ⟨G0.L, 0, none⟩) rows G0.cap ∧ ρ 19 = .int .i64 rows ∧ ρ 20 = .int .i64 (i : Nat) ∧ Copying S S2 S.cnt cols i L R cell) ?_ (n := rows) ⟨0, 0, fun _ => 0, rfl, Nat.zero_le _, ?_⟩
  · rintro k ρ S2 ⟨i, L, R, rfl, hi, e3, e18, e19, e20, hG⟩
    by_cases hlt : i < rows
    · have hl : (i : Int) < rows := by omega
      have hw2 : S2.base ≤ S2.cnt := by rw [hG.st.base]; exact Nat.le_trans hw hG.st.cnt
      have h02 := h0.stays hG.st ⟨fun q => q, fun q => q, fun _ _ q => q⟩
      have hcl := clone_cells (cap := G0.K i) hw2 (show 0 < cols by omega) (by omega) (h02.rowCells hlt) (h02.rb i hlt).2 (ones_flat fun i hi => rfl)
      have hs24 : Stays S2 ((S2.push (.cells [] t_grid_Cell 0 false)).push (.cells (flat cols fun j => (cell i j).vals) t_grid_Cell 4 false)) (fun _ => False) := (Stays.push hw2).trans (Stays.push (Nat.le_succ_of_le hw2)) (fun _ _ q => q)
      have hw4' : (S2.push (.cells [] t_grid_Cell 0 false)).base ≤ (S2.push (.cells [] t_grid_Cell 0 false)).cnt := Nat.le_succ_of_le hw2
      have hR3' : ((S2.push (.cells [] t_grid_Cell 0 false)).push (.cells (flat cols fun j => (cell i j).vals) t_grid_Cell 4 false)).get (S2.cnt + 1) = some (.cells (flat cols fun j => (cell i j).vals) t_grid_Cell 4 false) := by
        rw [St.get_push _ _ _ hw4', if_pos (show S2.cnt + 1 = (S2.push (.cells [] t_grid_Cell 0 false)).cnt from rfl)]
      have hc4' : ((S2.push (.cells [] t_grid_Cell 0 false)).push (.cells (flat cols fun j => (cell i j).vals) t_grid_Cell 4 false)).cnt = S2.cnt + 2 := rfl
      simp [e3, e18, e19, e20, hl, idxSV_ok, hlt, h02.slice hlt, rowAt_of hG.hdr, hcl]
      generalize ((S2.push (.cells [] t_grid_Cell 0 false)).push (.cells (flat cols fun j => (cell i j).vals) t_grid_Cell 4 false)) = S4 at hs24 hR3' hc4' ⊢
      have hhdr4 := hs24.get S.cnt hG.gn.2 (fun q => q)
      rw [hG.hdr] at hhdr4
      have hv : ∀ i L, vsame (if i = 0 then Value.slice none 0 0 else .slice (some ⟨L, 0, none⟩) i capx) (if i = 0 then Value.slice none 0 0 else .slice (some ⟨L, 0, none⟩) i capx) = true := by
        intro i L; split <;> exact vsame_slice _ _ _
      simp [rowAt_of hhdr4, hv]
      have hw4 : S4.base ≤ S4.cnt := by rw [hs24.base]; exact Nat.le_trans hw2 hs24.cnt
      have hs5 : Stays S4 (S4.push (.cells [.slice (some ⟨S2.cnt + 1, 0, none⟩) cols capx] t_S_grid_Cell 0 false)) (fun _ => False) := Stays.push hw4
      have hs25 := hs24.trans hs5 (fun _ _ q => q)
      have hbs := buildSliceV_1 (S := S4) (v := .slice (some ⟨S2.cnt + 1, 0, none⟩) cols capx) e_S_S_grid_Cell (by decide) rfl
      simp [Value.cells] at hbs
      have hhdr5 := hs25.get S.cnt hG.gn.2 (fun q => q)
      rw [hG.hdr] at hhdr5
      have hw5 : (S4.push (.cells [.slice (some ⟨S2.cnt + 1, 0, none⟩) cols capx] t_S_grid_Cell 0 false)).base ≤ (S4.push (.cells [.slice (some ⟨S2.cnt + 1, 0, none⟩) cols capx] t_S_grid_Cell 0 false)).cnt := Nat.le_succ_of_le hw4
      have hg5 : (S4.push (.cells [.slice (some ⟨S2.cnt + 1, 0, none⟩) cols capx] t_S_grid_Cell 0 false)).get S4.cnt = some (.cells [.slice (some ⟨S2.cnt + 1, 0, none⟩) cols capx] t_S_grid_Cell 0 false) := by rw [St.get_push _ _ _ hw4, if_pos rfl]
      have hc2 := hG.gn.2
      have hb2 : S2.base = S.base := hG.st.base
      have hb4 : S4.base = S.base := by rw [hs24.base, hb2]
      obtain ⟨S6, ha, hn6, hcn6, hbs6, hkeep⟩ := append_row (L := L) (R := R) (K := fun _ => capx) hw5 (show i ≤ 12 by omega) (fun hpos => ⟨by show S4.base ≤ L; rw [hb4]; exact Nat.le_trans hw (hG.ln hpos).1, Nat.lt_of_lt_of_le (hG.ln hpos).2.1 hs25.cnt, by rw [hs25.get L (hG.ln hpos).2.1 (fun q => q)]; exact hG.tbl hpos⟩) hg5
      have hhdr6 : S6.get S.cnt = some (.cells [.int .i64 cols, if i = 0 then .slice none 0 0 else .slice (some ⟨L, 0, none⟩) i capx] t_grid_Grid 0 false) := by
        rw [hkeep S.cnt (Nat.lt_of_lt_of_le hc2 hs25.cnt) (fun hpos => (hG.ln hpos).2.2), hhdr5]
      have hb6 : S6.base ≤ S.cnt := by rw [hbs6]; show S4.base ≤ _; rw [hb4]; exact hw
      have hst := storeKV_of (k := 1) (off := 1) (v := .slice (some ⟨S4.cnt + 1, 0, none⟩) (i + 1) capx) rfl hb6 hhdr6 (by simp) rfl
      have hcp : (S4.push (.cells [.slice (some ⟨S2.cnt + 1, 0, none⟩) cols capx] t_S_grid_Cell 0 false)).cnt = S4.cnt + 1 := rfl
      rw [hcp] at ha hn6 hcn6
      simp [rowAt_of hhdr4, rowAt_of hhdr5, hv, hbs, ha, hst, e3, e18, e19, e20]
      have hle := hs24.cnt
      have get7 : ∀ n, n ≠ S.cnt → (S6.set S.cnt (some (.cells (putL [Value.int .i64 cols, if i = 0 then Value.slice none 0 0 else .slice (some ⟨L, 0, none⟩) i capx] 1 (Value.slice (some ⟨S4.cnt + 1, 0, none⟩) (i + 1) capx).cells.toList) t_grid_Grid 0 false))).get n = S6.get n := fun n hn => by rw [St.get_set _ _ _ _ hb6, if_neg hn]
      have get25 : ∀ n, n < S4.cnt → (0 < i → n ≠ L) → S6.get n = S4.get n := fun n hn hne => by
        rw [hkeep n (by omega) hne, hs5.get n hn (fun q => q)]
      refine ⟨rows - (i + 1), by omega, i + 1, rfl, by omega, by rw [wrap64 (by omega) (by omega)]; simp, S4.cnt + 1, fun j => if j = i then S2.cnt + 1 else R j, ?_⟩
      have hSc := hG.st.cnt
      refine ⟨?_, fun _ => ?_, fun j hj => ?_, ⟨hG.gn.1, by show S.cnt < S6.cnt; omega⟩, fun _ => ⟨by omega, by show _ < S6.cnt; omega, by omega⟩, fun j hj => ?_, fun j k hj hk => ?_, ?_⟩
      · rw [St.get_set _ _ _ _ hb6, if_pos rfl, if_neg (show ¬ (i + 1 = 0) by omega)]; rfl
      · rw [get7 _ (by omega)]; simpa using hn6
      · by_cases q : j = i
        · simp only [q, if_true]
          rw [get7 _ (by omega), get25 _ (by omega) (fun hp => by have := (hG.ln hp).2.1; omega)]; exact hR3'
        · simp only [q, if_false]
          have h2 := hG.rn j (by omega)
          rw [get7 _ h2.2.2.1, get25 _ (by omega) (fun _ => h2.2.2.2), hs24.get _ h2.2.1 (fun q => q)]
          exact hG.row j (by omega)
      · by_cases q : j = i
        · simp only [q, if_true]
          exact ⟨by omega, by show S2.cnt + 1 < S6.cnt; omega, by omega, by omega⟩
        · simp only [q, if_false]
          have h2 := hG.rn j (by omega)
          exact ⟨h2.1, by show R j < S6.cnt; omega, h2.2.2.1, by omega⟩
      · by_cases q : j = i <;> by_cases q2 : k = i <;> simp only [q, q2, if_true, if_false]
        · intro _; trivial
        · intro he; have := (hG.rn k (by omega)).2.1; omega
        · intro he; have := (hG.rn j (by omega)).2.1; omega
        · intro he; exact hG.inj j k (by omega) (by omega) he
      · refine ⟨hbs6.trans hb4, by show S.cnt ≤ S6.cnt; omega, fun n hn _ => ?_⟩
        rw [get7 n (by omega), get25 n (by omega) (fun hp => by have := (hG.ln hp).1; omega), hs24.get n (by omega) (fun q => q), hG.st.get n hn (fun q => q)]
    · have hl : ¬ (i : Int) < rows := by omega
      have hie : i = rows := by omega
      subst hie
      have hpos : 0 < i := by omega
      simp [e3, e18, e19, e20, hl]
      have hb : S2.base = S.base := hG.st.base
      have hh := hG.hdr
      rw [if_neg (by omega)] at hh
      refine ⟨⟨S.cnt, L, capx, R, fun _ => capx⟩, rfl, ⟨⟨_, _, hh⟩, ⟨_, _, hG.tbl hpos⟩, fun j hj => ⟨_, _, _, hG.row j hj, Or.inr ⟨rfl, rfl⟩⟩, rfl, ⟨by rw [hb]; exact hw, hG.gn.2⟩, ⟨by rw [hb]; exact Nat.le_trans hw (hG.ln hpos).1, (hG.ln hpos).2.1⟩, fun j hj => ⟨by rw [hb]; exact Nat.le_trans hw (hG.rn j hj).1, (hG.rn j hj).2.1⟩, (hG.ln hpos).2.2, fun j hj => ⟨(hG.rn j hj).2.2.1, (hG.rn j hj).2.2.2⟩, hG.inj, ⟨by omega, by omega⟩⟩, hG.st, Nat.le_refl _, (hG.ln hpos).1, fun j hj => (hG.rn j hj).1⟩
  · simp
    refine ⟨?_, fun h => by omega, fun j hj => by omega, ⟨Nat.le_refl _, Nat.lt_succ_self _⟩, fun h => by omega, fun j hj => by omega, fun j k hj => by omega, Stays.push hw⟩
    rw [St.get_push _ _ _ hw, if_pos rfl]; rfl

end Go.AM
