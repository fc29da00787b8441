/- AmT2: what the terminal's functions come to. -/
import Derived.Test.YtdfimlepfaheeaaGreatAmT1
set_option linter.unusedVariables false
set_option linter.unusedSimpArgs false
namespace Go.AM

/-- A terminal's block, and the grid that it shows. -/
structure TermG (S : St) (T : Nat) (c : Nat → Value) (G : GL) (cols rows : Nat) (cell : Nat → Nat → CV) : Prop where
  get : S.get T = some (recO 67 t_term_Term c)
  b : S.base ≤ T ∧ T < S.cnt
  f2 : c 2 = G.ptr
  f4 : c 4 = .int .i64 0
  grid : GridAt S G cols rows cell
  ng : T ≠ G.g ∧ T ≠ G.L ∧ ∀ i, i < rows → T ≠ G.R i

theorem TermG.set {S : St} {T : Nat} {c : Nat → Value} {G : GL} {cols rows : Nat} {cell : Nat → Nat → CV} (h : TermG S T c G cols rows cell) {c' : Nat → Value} (h2 : c' 2 = c 2) (h4 : c' 4 = c 4) : TermG (S.set T (some (recO 67 t_term_Term c'))) T c' G cols rows cell where
  get := by rw [St.get_set _ _ _ _ h.b.1, if_pos rfl]
  b := h.b
  f2 := h2.trans h.f2
  f4 := h4.trans h.f4
  grid := h.grid.stays (Stays.set (A := fun n => n = T) h.b.1 rfl) ⟨fun q => h.ng.1 q.symm, fun q => h.ng.2.1 q.symm, fun i hi q => h.ng.2.2 i hi q.symm⟩
  ng := h.ng

theorem term_g {S : St} {T : Nat} {c : Nat → Value} {G : GL} {cols rows : Nat} {cell : Nat → Nat → CV} (h : TermG S T c G cols rows cell) : cs n_term_Term_g [.pointer (some ⟨T, 0, none⟩)] S = some (G.ptr, S) := by
  have h1 := h.get
  have h2 := h.f2
  have h4 := h.f4
  apply csE is_term_Term_g rfl rfl
  simp [funA_run, a_term_Term_g, h1, h2, h4, idxAV_ok]

theorem term_move {S : St} {T : Nat} {c : Nat → Value} {G : GL} {cols rows : Nat} {cell : Nat → Nat → CV} (h : TermG S T c G cols rows cell) {r k : Int} (hr : 0 ≤ r ∧ r < rows) (hk : 0 ≤ k ∧ k < cols) :
    cs n_term_Term_move [.pointer (some ⟨T, 0, none⟩), .int .i64 r, .int .i64 k] S = some (.tuple #[], S.set T (some (recO 67 t_term_Term (upd (upd (upd c 5 (.int .i64 r)) 6 (.int .i64 k)) 7 (.bool false))))) := by
  have hs := h.grid.small
  have h1 := h.set (c' := upd c 5 (.int .i64 r)) (by simp) (by simp)
  have g0 := h.get
  have hb := h.b.1
  have w1 : IntKind.wrap .i64 ((rows : Int) - 1) = rows - 1 := wrap64 (by omega) (by omega)
  have w2 : IntKind.wrap .i64 ((cols : Int) - 1) = cols - 1 := wrap64 (by omega) (by omega)
  have e1 : ¬ (rows : Int) - 1 < r := by omega
  have e2 : ¬ (cols : Int) - 1 < k := by omega
  have e3 : (if r > 0 then r else 0) = r := by split <;> omega
  have e4 : (if k > 0 then k else 0) = k := by split <;> omega
  have c1 := term_g h
  have c2 := grid_Rows h.grid
  have c3 := term_g h1
  have c4 := grid_Cols h1.grid
  apply csE is_term_Term_move rfl rfl
  simp [funA_run, a_term_Term_move, c1, c2, c3, c4, w1, w2, e1, e2, e3, e4, g0, hb]

/-- What a terminal's fields are that was fed points to print alone. -/
structure TC (c : Nat → Value) (r p : Nat) (row col : Int) : Prop where
  f0 : c 0 = .pointer (some ⟨r, 0, none⟩)
  f1 : c 1 = .pointer (some ⟨p, 0, none⟩)
  f5 : c 5 = .int .i64 row
  f6 : c 6 = .int .i64 col
  f7 : c 7 = .bool false
  f8 : c 8 = .int .u8 0
  f9 : c 9 = .int .u32 0
  f10 : c 10 = .int .u32 0
  f13 : c 13 = .bool true
  f14 : c 14 = .bool false
  f16 : c 16 = .bool true
  f63 : c 63 = .string .empty
  f64 : c 64 = .string .empty
  f65 : c 65 = .int .i64 0
  f66 : c 66 = .int .i64 0

theorem TC.move {c : Nat → Value} {r p : Nat} {row col : Int} (h : TC c r p row col) (r' k' : Int) : TC (upd (upd (upd c 5 (.int .i64 r')) 6 (.int .i64 k')) 7 (.bool false)) r p r' k' := by
  constructor <;> simp [h.f0, h.f1, h.f5, h.f6, h.f7, h.f8, h.f9, h.f10, h.f13, h.f14, h.f16, h.f63, h.f64, h.f65, h.f66]

theorem TermG.stays {S S' : St} {T : Nat} {c : Nat → Value} {G : GL} {cols rows : Nat} {cell cell' : Nat → Nat → CV} {A : Nat → Prop} (h : TermG S T c G cols rows cell) (hs : Stays S S' A) (hA : ¬ A T) (hg : GridAt S' G cols rows cell') : TermG S' T c G cols rows cell' where
  get := by rw [hs.get _ h.b.2 hA]; exact h.get
  b := ⟨hs.base ▸ h.b.1, Nat.lt_of_lt_of_le h.b.2 hs.cnt⟩
  f2 := h.f2
  f4 := h.f4
  grid := hg
  ng := h.ng

theorem b_Cell (p : Int) (a b c : Value) : buildV pg t_grid_Cell [(0, .int .i32 p), (1, .agg #[a, b, c])] = some (.agg #[.int .i32 p, a, b, c]) := by kernel_rfl

theorem term_print {S : St} {T : Nat} {c : Nat → Value} {G : GL} {cols rows : Nat} {cell : Nat → Nat → CV} (h : TermG S T c G cols rows cell) {r p : Nat} {row col : Nat} (hc : TC c r p row col) (hrow : row < rows) (hcol : col + 1 < cols) (pt : Int) :
    Ok (cs n_term_Term_print [.pointer (some ⟨T, 0, none⟩), .int .i32 pt] S) fun q => ∃ c', TermG q.2 T c' G cols rows (fun i j => if i = row ∧ j = col then ⟨pt, 0, 0, 0⟩ else cell i j) ∧ TC c' r p row (col + 1 : Nat) ∧ Stays S q.2 (fun n => n = T ∨ n = G.R row) := by
  have g0 := h.get
  have hb := h.b.1
  have hs := h.grid.small
  have c1 := term_g h
  apply csOk is_term_Term_print rfl rfl
  simp [funA_run, a_term_Term_print, g0, hc.f5, hc.f6, hc.f7, hc.f8, hc.f9, hc.f10, hc.f14, c1, b_Cell]
  rw [Ok_endR, Ok_seqR, Ok_opsR, Ok_runPl, Ok_putR]
  refine (grid_Put h.grid hrow (show col < cols by omega) ⟨pt, 0, 0, 0⟩).mono ?_
  rintro ⟨v, S2⟩ ⟨rfl, hG, hst⟩
  have h2 := h.stays hst (h.ng.2.2 row hrow) hG
  have g2 := h2.get
  have c2 := term_g h2
  have c3 := grid_Cols hG
  have c4 := term_move h2 (r := row) (k := (col : Int) + 1) (by omega) (by omega)
  have w1 : IntKind.wrap .i64 ((cols : Int) - 1) = cols - 1 := wrap64 (by omega) (by omega)
  have w2 : IntKind.wrap .i64 ((col : Int) + 1) = col + 1 := wrap64 (by omega) (by omega)
  have n1 : ¬ (col : Int) = cols - 1 := by omega
  simp only at g2 c2 c3 c4
  simp [g2, hc.f5, hc.f6, hc.f7, hc.f8, hc.f9, hc.f10, hc.f14, c2, c3, w1, w2, n1, c4]
  refine ⟨_, h2.set (by simp) (by simp), hc.move _ _, (hst.mono fun n q => Or.inr q).trans (Stays.set (A := fun n => n = T ∨ n = G.R row) h2.b.1 (Or.inl rfl)) (fun n _ q => q)⟩

theorem term_made {S : St} {T : Nat} {c : Nat → Value} {r : Nat} (h : S.get T = some (recO 67 t_term_Term c)) (h0 : c 0 = .pointer (some ⟨r, 0, none⟩)) : cs n_term_Term_made [.pointer (some ⟨T, 0, none⟩)] S = some (.bool true, S) := by
  apply csE is_term_Term_made rfl rfl
  simp [funA_run, a_term_Term_made, h, h0]

/-- A terminal lies there that was fed points to print alone. -/
structure TermAt (S : St) (T r p : Nat) (G : GL) (cols rows row col : Nat) (cell : Nat → Nat → CV) : Prop where
  g : ∃ c, TermG S T c G cols rows cell ∧ TC c r p row col
  rd : S.get r = some rdr0
  pd : S.get p = some pars0
  rb : S.base ≤ r ∧ r < S.cnt
  pb : S.base ≤ p ∧ p < S.cnt
  ne : r ≠ T ∧ p ≠ T ∧ r ≠ p
  ng : ∀ i, i < rows → r ≠ G.R i ∧ p ≠ G.R i

theorem TermAt.stays {S S' : St} {T r p : Nat} {G : GL} {cols rows row col : Nat} {cell : Nat → Nat → CV} {A : Nat → Prop} (h : TermAt S T r p G cols rows row col cell) (hs : Stays S S' A) (hA : ∀ n, n = T ∨ n = r ∨ n = p ∨ n = G.g ∨ n = G.L ∨ (∃ i, i < rows ∧ n = G.R i) → ¬ A n) : TermAt S' T r p G cols rows row col cell where
  g := by
    obtain ⟨c, h1, h2⟩ := h.g
    exact ⟨c, h1.stays hs (hA T (Or.inl rfl)) (h1.grid.stays hs ⟨hA _ (by simp), hA _ (by simp), fun i hi => hA _ (Or.inr (Or.inr (Or.inr (Or.inr (Or.inr ⟨i, hi, rfl⟩)))))⟩), h2⟩
  rd := by rw [hs.get _ h.rb.2 (hA r (by simp))]; exact h.rd
  pd := by rw [hs.get _ h.pb.2 (hA p (by simp))]; exact h.pd
  rb := ⟨hs.base ▸ h.rb.1, Nat.lt_of_lt_of_le h.rb.2 hs.cnt⟩
  pb := ⟨hs.base ▸ h.pb.1, Nat.lt_of_lt_of_le h.pb.2 hs.cnt⟩
  ne := h.ne
  ng := h.ng

set_option maxRecDepth 4000 in
theorem term_Feed {S : St} {T r p : Nat} {G : GL} {cols rows row col : Nat} {cell : Nat → Nat → CV} (h : TermAt S T r p G cols rows row col cell) (hrow : row < rows) (hcol : col + 1 < cols) {n off cap : Nat} {k : Int} (hb : rowO (S.get n) off 1 = some [.int .u8 k]) (hk : 32 ≤ k ∧ k < 127) :
    Ok (cs n_term_Term_Feed [.pointer (some ⟨T, 0, none⟩), .slice (some ⟨n, off, none⟩) 1 cap] S) fun q => q.1 = .int .i64 0 ∧ TermAt q.2 T r p G cols rows row (col + 1) (fun i j => if i = row ∧ j = col then ⟨k, 0, 0, 0⟩ else cell i j) ∧ Stays S q.2 (fun n => n = T ∨ n = G.R row) := by
  obtain ⟨c, hg, hc⟩ := h.g
  have hw := hg.grid.wf
  have g0 := hg.get
  have c1 := term_made g0 hc.f0
  have c2 := utf_Read (cap := cap) hw h.rd hb (by omega)
  have hs1 : Stays S ((S.push (.cells [.int .i32 k] t_int32 0 false)).push (.cells [.int .i32 k] t_int32 1 false)) (fun _ => False) := (Stays.push hw).trans (Stays.push (Nat.le_succ_of_le hw)) (fun _ _ q => q)
  generalize hS1 : ((S.push (.cells [.int .i32 k] t_int32 0 false)).push (.cells [.int .i32 k] t_int32 1 false)) = S1 at c2 hs1
  have hcnt1 : S1.cnt = S.cnt + 2 := by rw [← hS1]; rfl
  have hrow1 : rowO (S1.get (S.cnt + 1)) 0 1 = some [.int .i32 k] := by
    rw [← hS1]; simp [hw, Nat.le_succ_of_le hw]
  have h1 := h.stays hs1 (fun _ _ q => q)
  obtain ⟨c', hg1, hc1⟩ := h1.g
  have hw1 := hg1.grid.wf
  have g1 := hg1.get
  have hpr := ansi_Feed (cap := capx) hw1 h1.pb.1 h1.pb.2 h1.pd hrow1 (by have := h.pb.2; omega) hk
  apply csOk is_term_Term_Feed rfl rfl
  simp [funA_run, a_term_Term_Feed, c1, g0, hc.f0, c2, g1, hc1.f1]
  rw [Ok_endR, Ok_seqR, Ok_opsR, Ok_runL, Ok_putR]
  refine hpr.mono ?_
  rintro ⟨v, S2⟩ ⟨rfl, he, hs2, hcnt2⟩
  dsimp only at he hs2 hcnt2
  have h2 := h1.stays hs2 (fun _ _ q => q)
  obtain ⟨c2, hg2, hc2⟩ := h2.g
  have hw2 := hg2.grid.wf
  have hs3 : Stays S2 (S2.push (.cells (evL k) t_ansi_Event 0 false)) (fun _ => False) := Stays.push hw2
  have h3 := h2.stays hs3 (fun _ _ q => q)
  obtain ⟨c3, hg3, hc3⟩ := h3.g
  have hpr3 := term_print hg3 hc3 hrow hcol k
  unfold evL at he hs3 h3 hg3 hpr3
  simp
  rw [loopA_step]
  simp [idxSV_ok, he, hw2, putL]
  rw [Ok_seqR, Ok_blockR, Ok_loopR, Ok_seqR, Ok_blockR, Ok_blockR, Ok_opsR, Ok_runL, Ok_putR]
  refine hpr3.mono ?_
  rintro ⟨v, S4⟩ ⟨c4, hg4, hc4, hs4⟩
  dsimp only at hg4 hc4 hs4
  have w1 : IntKind.wrap .i64 1 = 1 := by decide
  simp
  rw [loopA_step]
  simp [w1]
  have hst : Stays S S4 (fun n => n = T ∨ n = G.R row) := (((hs1.trans hs2 (fun _ _ q => q)).trans hs3 (fun _ _ q => q)).mono (fun _ q => q.elim)).trans hs4 (fun _ _ q => q)
  refine ⟨⟨⟨c4, hg4, hc4⟩, ?_, ?_, ?_, ?_, h.ne, h.ng⟩, hst⟩
  · rw [hst.get _ h.rb.2 (by rintro (q | q); exact h.ne.1 q; exact (h.ng row hrow).1 q)]; exact h.rd
  · rw [hst.get _ h.pb.2 (by rintro (q | q); exact h.ne.2.1 q; exact (h.ng row hrow).2 q)]; exact h.pd
  · exact ⟨hst.base ▸ h.rb.1, Nat.lt_of_lt_of_le h.rb.2 hst.cnt⟩
  · exact ⟨hst.base ▸ h.pb.1, Nat.lt_of_lt_of_le h.pb.2 hst.cnt⟩

end Go.AM
