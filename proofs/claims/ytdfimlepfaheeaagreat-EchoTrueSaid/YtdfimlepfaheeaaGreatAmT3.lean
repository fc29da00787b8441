/- AmT3: new terminals. -/
import Derived.Test.YtdfimlepfaheeaaGreatAmT2
set_option linter.unusedVariables false
set_option linter.unusedSimpArgs false
namespace Go.AM

/-- Grids have no block in common. -/
structure Apart (G H : GL) (rows : Nat) : Prop where
  gg : G.g ≠ H.g
  gl : G.g ≠ H.L
  lg : G.L ≠ H.g
  ll : G.L ≠ H.L
  rg : ∀ i, i < rows → G.R i ≠ H.g ∧ G.R i ≠ H.L
  gr : ∀ i, i < rows → G.g ≠ H.R i ∧ G.L ≠ H.R i
  rr : ∀ i j, i < rows → j < rows → G.R i ≠ H.R j
theorem Apart.symm {G H : GL} {rows : Nat} (h : Apart G H rows) : Apart H G rows :=
  ⟨h.gg.symm, h.lg.symm, h.gl.symm, h.ll.symm, fun i hi => ⟨(h.gr i hi).1.symm, (h.gr i hi).2.symm⟩, fun i hi => ⟨(h.rg i hi).1.symm, (h.rg i hi).2.symm⟩, fun i j hi hj => (h.rr j i hj hi).symm⟩

abbrev blankG : Nat → Nat → CV := fun _ _ => CV.blank

theorem two_fill {S S' : St} {G0 G1 Gi : GL} {cols rows j : Nat} (hi : Gi = G0 ∨ Gi = G1) (ha : Apart G0 G1 rows) (h0 : GridAt S G0 cols rows blankG) (h1 : GridAt S G1 cols rows blankG) (hj : j < rows)
    (hG : GridAt S' Gi cols rows blankG) (hs : Stays S S' (fun n => n = Gi.R j)) : GridAt S' G0 cols rows blankG ∧ GridAt S' G1 cols rows blankG := by
  rcases hi with rfl | rfl
  · exact ⟨hG, h1.stays hs ⟨fun q => (ha.rg j hj).1 q.symm, fun q => (ha.rg j hj).2 q.symm, fun i hi q => ha.rr j i hj hi q.symm⟩⟩
  · exact ⟨h0.stays hs ⟨fun q => (ha.gr j hj).1 q, fun q => (ha.gr j hj).2 q, fun i hi q => ha.rr i j hi hj q⟩, hG⟩

theorem b_Style0 : buildV pg t_style_Style [] = some (.agg #[.int .u8 0, .int .u32 0, .int .u32 0]) := by kernel_rfl
theorem b_saved0 : buildV pg t_term_saved [] = some (.agg #[.int .i64 0, .int .i64 0, .int .u8 0, .int .u32 0, .int .u32 0, .bool false]) := by kernel_rfl
theorem b_modes : buildV pg t_term_modes [(0, .bool true), (3, .bool true)] = some (.agg #[.bool true, .bool false, .bool false, .bool true]) := by kernel_rfl

theorem term_region {S : St} {T : Nat} {c : Nat → Value} (h : S.get T = some (recO 67 t_term_Term c)) (hb : S.base ≤ T) (a b : Int) :
    cs n_term_Term_region [.pointer (some ⟨T, 0, none⟩), .int .i64 a, .int .i64 b] S = some (.tuple #[], S.set T (some (recO 67 t_term_Term (upd (upd c 11 (.int .i64 a)) 12 (.int .i64 b))))) := by
  apply csE is_term_Term_region rfl rfl
  simp [funA_run, a_term_Term_region, h, hb]

/-- What the fields are before a reset. -/
structure TN (c : Nat → Value) (r p : Nat) (G0 G1 : GL) : Prop where
  f0 : c 0 = .pointer (some ⟨r, 0, none⟩)
  f1 : c 1 = .pointer (some ⟨p, 0, none⟩)
  f2 : c 2 = G0.ptr
  f3 : c 3 = G1.ptr
  f63 : c 63 = .string .empty
  f64 : c 64 = .string .empty
  f65 : c 65 = .int .i64 0
  f66 : c 66 = .int .i64 0

def resetC (c : Nat → Value) : Nat → Value := upd (upd (upd (upd (upd (upd (upd (upd (upd (upd (upd (upd (upd (upd c 4 (.int .i64 0)) 8 (.int .u8 0)) 9 (.int .u32 0)) 10 (.int .u32 0)) 57 (.int .i64 0)) 58 (.int .i64 0)) 59 (.int .u8 0)) 60 (.int .u32 0)) 61 (.int .u32 0)) 62 (.bool false)) 13 (.bool true)) 14 (.bool false)) 15 (.bool false)) 16 (.bool true)

set_option maxRecDepth 4000 in
theorem term_reset {S : St} {T : Nat} {c : Nat → Value} {r p : Nat} {G0 G1 : GL} {cols rows : Nat} (hT : S.get T = some (recO 67 t_term_Term c)) (hb : S.base ≤ T ∧ T < S.cnt) (hc : TN c r p G0 G1) (h0 : GridAt S G0 cols rows blankG) (h1 : GridAt S G1 cols rows blankG) (ha : Apart G0 G1 rows)
    (hr : 0 < rows) (hcol : 0 < cols) (t0 : T ≠ G0.g ∧ T ≠ G0.L ∧ ∀ i, i < rows → T ≠ G0.R i) (t1 : T ≠ G1.g ∧ T ≠ G1.L ∧ ∀ i, i < rows → T ≠ G1.R i) :
    Ok (cs n_term_Term_reset [.pointer (some ⟨T, 0, none⟩)] S) fun q => ∃ c', TermG q.2 T c' G0 cols rows blankG ∧ TC c' r p 0 0 ∧ Stays S q.2 (fun n => n = T ∨ ∃ i, i < rows ∧ (n = G0.R i ∨ n = G1.R i)) := by
  have hw := h0.wf
  apply csOk is_term_Term_reset rfl rfl
  simp [funA_run, a_term_Term_reset, hT, hc.f2, hc.f3]
  rw [Ok_endR, Ok_seqR, Ok_blockR]
  refine loop_ok (fun k ρ S2 => ∃ i : Nat, k = 2 - i ∧ i ≤ 2 ∧ ρ 0 = .pointer (some ⟨T, 0, none⟩) ∧ ρ 9 = .agg #[G0.ptr, G1.ptr] ∧ ρ 10 = .int .i64 i ∧ GridAt S2 G0 cols rows blankG ∧ GridAt S2 G1 cols rows blankG ∧ Stays S S2 (fun n => ∃ i, i < rows ∧ (n = G0.R i ∨ n = G1.R i))) ?_ (n := 2) ⟨0, rfl, by omega, ?_⟩
  · rintro k ρ S2 ⟨i, rfl, hi, e0, e9, e10, hG0, hG1, hst⟩
    by_cases hlt : i < 2
    · have hl : (i : Int) < 2 := by omega
      obtain ⟨Gi, hGi, hix⟩ : ∃ Gi, (Gi = G0 ∨ Gi = G1) ∧ (#[G0.ptr, G1.ptr] : Array Value)[i]? = some Gi.ptr := by
        rcases (show i = 0 ∨ i = 1 by omega) with rfl | rfl
        · exact ⟨G0, Or.inl rfl, rfl⟩
        · exact ⟨G1, Or.inr rfl, rfl⟩
      have hGGi : GridAt S2 Gi cols rows blankG := by rcases hGi with rfl | rfl <;> assumption
      have c1 := grid_Rows hGGi
      have hiv := indexV_agg (cs := #[G0.ptr, G1.ptr]) (k := .i64) (i := i) u_2_P_grid_Grid g_P_grid_Grid s_P_grid_Grid (by omega) (by omega)
      simp only [Int.toNat_natCast, hix] at hiv
      simp [e0, e9, e10, hl, hiv, c1]
      rw [Ok_seqR, Ok_blockR, Ok_blockR]
      refine loop_ok (fun k ρ S3 => ∃ j : Nat, k = rows - j ∧ j ≤ rows ∧ ρ 0 = .pointer (some ⟨T, 0, none⟩) ∧ ρ 3 = Gi.ptr ∧ ρ 9 = .agg #[G0.ptr, G1.ptr] ∧ ρ 10 = .int .i64 i ∧ ρ 14 = .int .i64 rows ∧ ρ 15 = .int .i64 j ∧ GridAt S3 G0 cols rows blankG ∧ GridAt S3 G1 cols rows blankG ∧ Stays S S3 (fun n => ∃ i, i < rows ∧ (n = G0.R i ∨ n = G1.R i))) ?_ (n := rows) ⟨0, rfl, by omega, ?_⟩
      · rintro k ρ S3 ⟨j, rfl, hj, e0, e3, e9, e10, e14, e15, hG0, hG1, hst⟩
        by_cases hjl : j < rows
        · have hjl' : (j : Int) < rows := by omega
          simp [e0, e3, e9, e10, e14, e15, hjl']
          rw [Ok_seqR, Ok_blockR, Ok_opsR, Ok_runL, Ok_putR]
          refine (grid_Blank hG0.wf).mono ?_
          rintro ⟨v, S4⟩ ⟨rfl, hs4⟩
          dsimp only at hs4
          have hG0' := hG0.stays hs4 ⟨fun q => q, fun q => q, fun _ _ q => q⟩
          have hG1' := hG1.stays hs4 ⟨fun q => q, fun q => q, fun _ _ q => q⟩
          have hGGi' : GridAt S4 Gi cols rows blankG := by rcases hGi with rfl | rfl <;> assumption
          have hfill := grid_Fill (a := 0) (b := 40) hGGi' hcol hjl CV.blank
          simp
          rw [Ok_runL, Ok_putR]
          refine hfill.mono ?_
          rintro ⟨v, S5⟩ ⟨rfl, hG5, hs5⟩
          dsimp only at hG5 hs5
          have hG5' := hG5.congr (cell' := blankG) (fun _ _ _ _ => by split <;> rfl)
          obtain ⟨a0, a1⟩ := two_fill hGi ha hG0' hG1' hjl hG5' hs5
          simp [e0, e3, e9, e10, e14, e15]
          refine ⟨rows - (j + 1), by omega, j + 1, rfl, by omega, by rw [wrap64 (by have := hG0.small; omega) (by have := hG0.small; omega)]; simp, a0, a1, ?_⟩
          refine (hst.trans (hs4.mono (fun _ q => q.elim)) (fun _ _ q => q)).trans (hs5.mono (B := fun n => ∃ i, i < rows ∧ (n = G0.R i ∨ n = G1.R i)) fun n q => ?_) (fun _ _ q => q)
          rcases hGi with rfl | rfl
          · exact ⟨j, hjl, Or.inl q⟩
          · exact ⟨j, hjl, Or.inr q⟩
        · have hjl' : ¬ (j : Int) < rows := by omega
          have hw64 : IntKind.wrap .i64 ((i : Int) + 1) = i + 1 := wrap64 (by omega) (by omega)
          simp [e0, e3, e9, e10, e14, e15, hjl', hw64]
          exact ⟨2 - (i + 1), by omega, i + 1, rfl, by omega, by simp, hG0, hG1, hst⟩
      · simp [e0, e9, e10]
        exact ⟨hG0, hG1, hst⟩
    · have hl : ¬ (i : Int) < 2 := by omega
      have g2 : S2.get T = some (recO 67 t_term_Term c) := by
        rw [hst.get _ hb.2 (by rintro ⟨i, hi, q | q⟩; exact t0.2.2 i hi q; exact t1.2.2 i hi q)]; exact hT
      have hb2 : S2.base ≤ T := by rw [hst.base]; exact hb.1
      simp [e0, e9, e10, hl, g2, hb2, b_Style0, b_saved0, b_modes]
      rw [Ok_seqR, Ok_blockR]
      refine loop_ok (fun k ρ S3 => ∃ (i : Nat) (c3 : Nat → Value), k = 40 - i ∧ i ≤ 40 ∧ ρ 0 = .pointer (some ⟨T, 0, none⟩) ∧ ρ 39 = .int .i64 i ∧ S3 = S2.set T (some (recO 67 t_term_Term c3)) ∧ ∀ j, j < 17 ∨ 57 ≤ j → c3 j = resetC c j) ?_ (n := 40) ⟨0, resetC c, rfl, by omega, ?_⟩
      · rintro k ρ S3 ⟨i, c3, rfl, hi, e0, e39, rfl, hc3⟩
        by_cases hil : i < 40
        · have hil' : (i : Int) < 40 := by omega
          have hle : 17 + i + 1 ≤ 67 := by omega
          have hw64 : IntKind.wrap .i64 ((i : Int) + 1) = i + 1 := wrap64 (by omega) (by omega)
          by_cases hz : i = 0
          · subst hz
            simp at e39 hw64
            simp [e0, e39, hb2, idxAV_ok, hw64]
            exact ⟨39, by omega, 1, by omega, by omega, by simp, _, rfl, fun j hj => by rw [upd_get, if_neg (by omega)]; exact hc3 j hj⟩
          · have hz' : 0 < i := by omega
            have hz2 : (0 : Int) < i := by omega
            simp [e0, e39, hil', hil, hz, hz', hz2, hb2, idxAV_ok, hle, hw64]
            exact ⟨40 - (i + 1), by omega, i + 1, rfl, by omega, by simp, _, rfl, fun j hj => by rw [upd_get, if_neg (by omega)]; exact hc3 j hj⟩
        · have hil' : ¬ (i : Int) < 40 := by omega
          have hsm := h0.small
          have hTG : TermG (S2.set T (some (recO 67 t_term_Term c3))) T c3 G0 cols rows blankG :=
            ⟨by rw [St.get_set _ _ _ _ hb2, if_pos rfl], ⟨hb2, Nat.lt_of_lt_of_le hb.2 hst.cnt⟩, (hc3 2 (by omega)).trans (by simp [resetC, hc.f2]), (hc3 4 (by omega)).trans (by simp [resetC]),
              hG0.stays (Stays.set (A := fun n => n = T) hb2 rfl) ⟨fun q => t0.1 q.symm, fun q => t0.2.1 q.symm, fun i hi q => t0.2.2 i hi q.symm⟩, t0⟩
          have d1 := term_g hTG
          have d2 := grid_Rows hTG.grid
          have d3 := term_region hTG.get hTG.b.1 0 ((rows : Int) - 1)
          have hT2 := hTG.set (c' := upd (upd c3 11 (.int .i64 0)) 12 (.int .i64 ((rows : Int) - 1))) (by simp) (by simp)
          have d4 := term_move hT2 (r := 0) (k := 0) (by omega) (by omega)
          have w1 : IntKind.wrap .i64 ((rows : Int) - 1) = rows - 1 := wrap64 (by omega) (by omega)
          simp only [St.set_set] at d3 d4
          simp [e0, e39, hil', d1, d2, d3, d4, w1]
          have hT3 := hT2.set (c' := upd (upd (upd (upd (upd c3 11 (.int .i64 0)) 12 (.int .i64 ((rows : Int) - 1))) 5 (.int .i64 0)) 6 (.int .i64 0)) 7 (.bool false)) (by simp) (by simp)
          simp only [St.set_set] at hT3
          refine ⟨_, hT3, ?_, (hst.mono fun n q => Or.inr q).trans (Stays.set (A := fun n => n = T ∨ ∃ i, i < rows ∧ (n = G0.R i ∨ n = G1.R i)) hb2 (Or.inl rfl)) (fun _ _ q => q)⟩
          constructor <;> simp <;> (rw [hc3 _ (by omega)]; simp [resetC, hc.f0, hc.f1, hc.f63, hc.f64, hc.f65, hc.f66])
      · simp [e0]
        rfl
  · simp
    exact ⟨h0, h1, Stays.refl _ _⟩

end Go.AM
