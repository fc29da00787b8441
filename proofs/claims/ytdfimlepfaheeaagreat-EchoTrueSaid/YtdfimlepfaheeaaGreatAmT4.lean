/- AmT4: new terminals, further. -/
import Derived.Test.YtdfimlepfaheeaaGreatAmT3
set_option linter.unusedVariables false
set_option linter.unusedSimpArgs false
namespace Go.AM

def termL (r p : Value) : List Value := [r, p, .pointer none, .pointer none, .int .i64 0, .int .i64 0, .int .i64 0, .bool false, .int .u8 0, .int .u32 0, .int .u32 0, .int .i64 0, .int .i64 0, .bool false, .bool false, .bool false, .bool false,
  .bool false, .bool false, .bool false, .bool false, .bool false, .bool false, .bool false, .bool false, .bool false, .bool false,
  .bool false, .bool false, .bool false, .bool false, .bool false, .bool false, .bool false, .bool false, .bool false, .bool false,
  .bool false, .bool false, .bool false, .bool false, .bool false, .bool false, .bool false, .bool false, .bool false, .bool false,
  .bool false, .bool false, .bool false, .bool false, .bool false, .bool false, .bool false, .bool false, .bool false, .bool false,
  .int .i64 0, .int .i64 0, .int .u8 0, .int .u32 0, .int .u32 0, .bool false, .string .empty, .string .empty, .int .i64 0, .int .i64 0]
def termC (r p : Value) : Nat → Value := fun i => (termL r p).getD i undef
theorem b_Term (r p : Nat) : buildV pg t_term_Term [(0, .pointer (some ⟨r, 0, none⟩)), (1, .pointer (some ⟨p, 0, none⟩))] = some (.agg (termL (.pointer (some ⟨r, 0, none⟩)) (.pointer (some ⟨p, 0, none⟩))).toArray) := by kernel_rfl
theorem termO (r p : Value) : AObj.cells (termL r p) t_term_Term 0 false = recO 67 t_term_Term (termC r p) := by kernel_rfl
theorem ones_term (r p : Nat) : ones (termL (.pointer (some ⟨r, 0, none⟩)) (.pointer (some ⟨p, 0, none⟩))) = true := rfl

set_option maxRecDepth 4000 in
theorem term_New {S : St} (hw : S.base ≤ S.cnt) {rows cols : Nat} (hr : 1 ≤ rows ∧ rows ≤ 12) (hc : 1 ≤ cols ∧ cols ≤ 40) :
    Ok (cs n_term_New [.int .i64 rows, .int .i64 cols] S) fun q => ∃ T r p G, q.1 = .tuple #[.pointer (some ⟨T, 0, none⟩), .int .i64 0] ∧ TermAt q.2 T r p G cols rows 0 0 blankG ∧ Stays S q.2 (fun _ => False) := by
  have hw1 : S.base ≤ S.cnt + 1 := by omega
  have hw2 : S.base ≤ S.cnt + 1 + 1 := by omega
  have hw3 : S.base ≤ S.cnt + 1 + 1 + 1 := by omega
  have c1 := utf_New S
  have c2 := ansi_New (S.push rdr0)
  simp at c2
  apply csOk is_term_New rfl rfl
  simp [funA_run, a_term_New, c1, c2, b_Term, ones_term, termO]
  generalize hc0 : termC (.pointer (some ⟨S.cnt, 0, none⟩)) (.pointer (some ⟨S.cnt + 1, 0, none⟩)) = c0
  generalize hS3 : ((S.push rdr0).push pars0).push (recO 67 t_term_Term c0) = S3
  have g3 : S3.get (S.cnt + 1 + 1) = some (recO 67 t_term_Term c0) := by rw [← hS3]; simp [hw2]
  have b3 : S3.base = S.base := by rw [← hS3]; rfl
  have n3 : S3.cnt = S.cnt + 3 := by rw [← hS3]; rfl
  have hs3 : Stays S S3 (fun _ => False) := by
    rw [← hS3]
    exact ((Stays.push hw).trans (Stays.push hw1) (fun _ _ q => q)).trans (Stays.push hw2) (fun _ _ q => q)
  rw [loopA_step]
  simp
  simp only [Ok_endR, Ok_seqR, Ok_blockR, Ok_opsR, Ok_runL, Ok_runPl, Ok_againR, Ok_putR, Ok_loopR]
  refine (grid_New (S := S3) (by omega) hr hc).mono ?_
  rintro ⟨v, S4⟩ ⟨G0, rfl, hG0, hs4, ng0, nL0, nR0⟩
  dsimp only at hG0 hs4
  have g4 : S4.get (S.cnt + 1 + 1) = some (recO 67 t_term_Term c0) := by rw [hs4.get _ (by omega) (fun q => q)]; exact g3
  have b4 : S4.base ≤ S.cnt + 1 + 1 := by rw [hs4.base]; omega
  simp [g4, b4, idxAV_ok]
  generalize hS5 : S4.set (S.cnt + 1 + 1) (some (recO 67 t_term_Term (upd c0 2 (.pointer (some ⟨G0.g, 0, none⟩))))) = S5
  have hs5 : Stays S4 S5 (fun n => n = S.cnt + 1 + 1) := by rw [← hS5]; exact Stays.set b4 rfl
  have g5 : S5.get (S.cnt + 1 + 1) = some (recO 67 t_term_Term (upd c0 2 (.pointer (some ⟨G0.g, 0, none⟩)))) := by rw [← hS5, St.get_set _ _ _ _ b4, if_pos rfl]
  have n5 : S5.cnt = S4.cnt := by rw [← hS5]; rfl
  have b5 : S5.base = S.base := by rw [hs5.base, hs4.base, b3]
  have m4 := hs4.cnt
  have hG0' := hG0.stays hs5 ⟨by omega, by omega, fun i hi => by have := nR0 i hi; omega⟩
  rw [loopA_step]
  have w1 : IntKind.wrap .i64 1 = 1 := by decide
  simp [w1]
  simp only [Ok_endR, Ok_seqR, Ok_blockR, Ok_opsR, Ok_runL, Ok_runPl, Ok_againR, Ok_putR, Ok_loopR]
  refine (grid_New (S := S5) (by omega) hr hc).mono ?_
  rintro ⟨v, S6⟩ ⟨G1, rfl, hG1, hs6, ng1, nL1, nR1⟩
  dsimp only at hG1 hs6
  have g6 : S6.get (S.cnt + 1 + 1) = some (recO 67 t_term_Term (upd c0 2 (.pointer (some ⟨G0.g, 0, none⟩)))) := by rw [hs6.get _ (by omega) (fun q => q)]; exact g5
  have b6 : S6.base ≤ S.cnt + 1 + 1 := by rw [hs6.base]; omega
  have hG0s := hG0'.stays hs6 ⟨fun q => q, fun q => q, fun _ _ q => q⟩
  have w2 : IntKind.wrap .i64 2 = 2 := by decide
  simp [g6, b6, idxAV_ok, w2]
  have m6 := hs6.cnt
  have hs7 : Stays S6 (S6.set (S.cnt + 1 + 1) (some (recO 67 t_term_Term (upd (upd c0 2 (.pointer (some ⟨G0.g, 0, none⟩))) 3 (.pointer (some ⟨G1.g, 0, none⟩)))))) (fun n => n = S.cnt + 1 + 1) := Stays.set b6 rfl
  have g7 : (S6.set (S.cnt + 1 + 1) (some (recO 67 t_term_Term (upd (upd c0 2 (.pointer (some ⟨G0.g, 0, none⟩))) 3 (.pointer (some ⟨G1.g, 0, none⟩)))))).get (S.cnt + 1 + 1) = some (recO 67 t_term_Term (upd (upd c0 2 (.pointer (some ⟨G0.g, 0, none⟩))) 3 (.pointer (some ⟨G1.g, 0, none⟩)))) := by rw [St.get_set _ _ _ _ b6, if_pos rfl]
  have n7 : (S6.set (S.cnt + 1 + 1) (some (recO 67 t_term_Term (upd (upd c0 2 (.pointer (some ⟨G0.g, 0, none⟩))) 3 (.pointer (some ⟨G1.g, 0, none⟩)))))).cnt = S6.cnt := rfl
  have b7 : (S6.set (S.cnt + 1 + 1) (some (recO 67 t_term_Term (upd (upd c0 2 (.pointer (some ⟨G0.g, 0, none⟩))) 3 (.pointer (some ⟨G1.g, 0, none⟩)))))).base = S6.base := rfl
  generalize S6.set (S.cnt + 1 + 1) (some (recO 67 t_term_Term (upd (upd c0 2 (.pointer (some ⟨G0.g, 0, none⟩))) 3 (.pointer (some ⟨G1.g, 0, none⟩))))) = S7 at hs7 g7 n7 b7 ⊢
  have gG0 := hG0'.gb.2
  have gL0 := hG0'.lb.2
  have hG0t := hG0s.stays hs7 ⟨by omega, by omega, fun i hi => by have := nR0 i hi; omega⟩
  have hG1t := hG1.stays hs7 ⟨by omega, by omega, fun i hi => by have := nR1 i hi; omega⟩
  have hap : Apart G0 G1 rows := ⟨by omega, by omega, by omega, by omega, fun i hi => by have := (hG0'.rb i hi).2; omega, fun i hi => by have := nR1 i hi; omega, fun i j hi hj => by have := (hG0'.rb i hi).2; have := nR1 j hj; omega⟩
  have hTN : TN (upd (upd c0 2 (.pointer (some ⟨G0.g, 0, none⟩))) 3 (.pointer (some ⟨G1.g, 0, none⟩))) S.cnt (S.cnt + 1) G0 G1 := by
    rw [← hc0]; constructor <;> rfl
  have hres := term_reset g7 ⟨by omega, by omega⟩ hTN hG0t hG1t hap (by omega) (by omega) ⟨by omega, by omega, fun i hi => by have := nR0 i hi; omega⟩ ⟨by omega, by omega, fun i hi => by have := nR1 i hi; omega⟩
  rw [loopA_step]
  simp
  simp only [Ok_endR, Ok_seqR, Ok_blockR, Ok_opsR, Ok_runL, Ok_runPl, Ok_againR, Ok_putR, Ok_loopR]
  refine hres.mono ?_
  rintro ⟨v, S8⟩ ⟨c', hTG, hTC, hs8⟩
  dsimp only at hTG hTC hs8
  simp
  have t34 : Stays S3 S4 (fun n => n = S.cnt + 1 + 1 ∨ S3.cnt ≤ n) := hs4.mono fun _ q => q.elim
  have t35 := t34.trans (hs5.mono (B := fun n => n = S.cnt + 1 + 1 ∨ S3.cnt ≤ n) fun _ q => Or.inl q) (fun _ _ q => q)
  have t36 := t35.trans (hs6.mono (B := fun n => n = S.cnt + 1 + 1 ∨ S3.cnt ≤ n) fun _ q => q.elim) (fun _ _ q => q)
  have t37 := t36.trans (hs7.mono (B := fun n => n = S.cnt + 1 + 1 ∨ S3.cnt ≤ n) fun _ q => Or.inl q) (fun _ _ q => q)
  have t38 := t37.trans (hs8.mono (B := fun n => n = S.cnt + 1 + 1 ∨ S3.cnt ≤ n) fun n q => by
    rcases q with q | ⟨i, hi, q | q⟩
    · exact Or.inl q
    · right; have := nR0 i hi; omega
    · right; have := nR1 i hi; omega) (fun _ _ q => q)
  have hne : ¬ S.cnt = S.cnt + 1 + 1 := by omega
  have gr : S3.get S.cnt = some rdr0 := by rw [← hS3]; simp [hw, hw1, hw2, hne]
  have gp : S3.get (S.cnt + 1) = some pars0 := by rw [← hS3]; simp [hw, hw1, hw2]
  have m8 := t38.cnt
  refine ⟨⟨S.cnt, S.cnt + 1, G0, ⟨c', hTG, hTC⟩, ?_, ?_, ?_, ?_, ?_, ?_⟩, ?_⟩
  · rw [t38.get _ (by omega) (by omega)]; exact gr
  · rw [t38.get _ (by omega) (by omega)]; exact gp
  · rw [t38.base]; omega
  · rw [t38.base]; omega
  · omega
  · intro i hi; have := nR0 i hi; omega
  · refine ⟨by rw [t38.base, b3], by omega, fun n hn _ => ?_⟩
    rw [t38.get n (by omega) (by omega), hs3.get n hn (fun q => q)]

theorem grid_New_bad {S : St} {cols : Int} (hc : ¬ (1 ≤ cols ∧ cols ≤ 40)) : cs n_grid_New [.int .i64 2, .int .i64 cols] S = some (.tuple #[.pointer none, .int .i64 1], S) := by
  have hf := grid_fits (S := S) 2 cols
  have h2 : decide ((1 : Int) ≤ 2 ∧ (2 : Int) ≤ 12 ∧ (1 : Int) ≤ cols ∧ (cols : Int) ≤ 40) = false := by simp; omega
  rw [h2] at hf
  apply csE is_grid_New rfl rfl
  simp [funA_run, a_grid_New, hf]

theorem term_New_bad {S : St} {cols : Int} (hc : ¬ (1 ≤ cols ∧ cols ≤ 40)) : Ok (cs n_term_New [.int .i64 2, .int .i64 cols] S) fun q => q.1 = .tuple #[.pointer none, .int .i64 1] := by
  have c1 := utf_New S
  have c2 := ansi_New (S.push rdr0)
  simp at c2
  apply csOk is_term_New rfl rfl
  simp [funA_run, a_term_New, c1, c2, b_Term, ones_term, termO]
  rw [loopA_step]
  simp [grid_New_bad hc]

end Go.AM
