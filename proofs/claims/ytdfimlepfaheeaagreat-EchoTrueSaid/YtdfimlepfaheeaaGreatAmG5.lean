/- AmG5: new grids. -/
import Derived.Test.YtdfimlepfaheeaaGreatAmG4
set_option linter.unusedVariables false
set_option linter.unusedSimpArgs false
namespace Go.AM

theorem Ok_againR {P : Program} {cF : CF} (rs : List AI) (l : List (AI × List AI)) (o : Option (Rho × St)) (Q : Rho × St → Prop) : Ok (againR P cF rs l o) Q = Ok o fun p => Ok (againR P cF rs l (some (p.1, p.2))) Q := by
  cases o <;> simp

def againW (o : Option (Value × St)) (w : Value) : Bool := match o with | some (v, _) => vsame v w | none => false
@[simp] theorem againW_some (v w : Value) (S : St) : againW (some (v, S)) w = vsame v w := Eq.trans rfl rfl
@[simp] theorem againA_load1 {P : Program} {cF : CF} (d : Nat) (a : Operand) (ρ : Rho) (S : St) : againA P cF ⟨some d, none, .load1 a⟩ ρ S = againW (doA P cF (.load1 a) (evO ρ) S) (ρ d) := by
  simp only [againA, wantedA, isCall, againW, if_true, Bool.not_false, Bool.true_and, get_rho]
  cases doA P cF (.load1 a) (evO ρ) S <;> rfl
attribute [simp] vsame_slice

theorem b_Grid (n : Int) : buildV pg t_grid_Grid [(0, .int .i64 n)] = some (.agg #[.int .i64 n, .slice none 0 0]) := by kernel_rfl

/-- A grid of so many rows so far. -/
structure Growing (S S2 : St) (g cols i : Nat) (L : Nat) (R : Nat → Nat) : Prop where
  hdr : S2.get g = some (.cells [.int .i64 cols, if i = 0 then .slice none 0 0 else .slice (some ⟨L, 0, none⟩) i capx] t_grid_Grid 0 false)
  tbl : 0 < i → S2.get L = some (.cells (flat i fun j => [.slice (some ⟨R j, 0, none⟩) cols cols]) t_S_grid_Cell 1 false)
  row : ∀ j, j < i → S2.get (R j) = some (.cells (flat cols fun _ => CV.blank.vals) t_grid_Cell 0 false)
  gn : S.cnt ≤ g ∧ g < S2.cnt
  ln : 0 < i → S.cnt ≤ L ∧ L < S2.cnt ∧ g ≠ L
  rn : ∀ j, j < i → S.cnt ≤ R j ∧ R j < S2.cnt ∧ R j ≠ g ∧ R j ≠ L
  inj : ∀ j k, j < i → k < i → R j = R k → j = k
  st : Stays S S2 (fun _ => False)

/-- One more element behind a table that was nil, or grew. -/
theorem append_row {S5 : St} {i L Rn cols b : Nat} {Kn : Nat} {R K : Nat → Nat} (hw : S5.base ≤ S5.cnt) (hi : i ≤ 12) (hL : 0 < i → S5.base ≤ L ∧ L < S5.cnt ∧ S5.get L = some (.cells (flat i fun j => [.slice (some ⟨R j, 0, none⟩) cols (K j)]) t_S_grid_Cell 1 false))
    (hb : S5.get b = some (.cells [.slice (some ⟨Rn, 0, none⟩) cols Kn] t_S_grid_Cell 0 false)) :
    ∃ S6, appendV pg t_S_S_grid_Cell t_S_S_grid_Cell (if i = 0 then .slice none 0 0 else .slice (some ⟨L, 0, none⟩) i capx) (.slice (some ⟨b, 0, none⟩) 1 1) S5 = some (.slice (some ⟨S5.cnt, 0, none⟩) (i + 1) capx, S6) ∧
      S6.get S5.cnt = some (.cells (flat (i + 1) fun j => [.slice (some ⟨if j = i then Rn else R j, 0, none⟩) cols (if j = i then Kn else K j)]) t_S_grid_Cell 1 false) ∧ S6.cnt = S5.cnt + 1 ∧ S6.base = S5.base ∧ ∀ n, n < S5.cnt → (0 < i → n ≠ L) → S6.get n = S5.get n := by
  have hsrc : srcV pg t_S_S_grid_Cell 1 (.slice (some ⟨b, 0, none⟩) 1 1) S5 = some (1, [.slice (some ⟨Rn, 0, none⟩) cols Kn]) :=
    srcV_slice e_S_S_grid_Cell (by decide) (by rw [rowAt_of hb (by simp)]; rfl) rfl
  by_cases h0 : i = 0
  · subst h0
    refine ⟨_, appendV_nil e_S_S_grid_Cell (by decide) hsrc (by decide) (by decide), ?_, rfl, rfl, fun n hn _ => ?_⟩
    · rw [St.get_push _ _ _ hw, if_pos rfl]; rfl
    · rw [St.get_push _ _ _ hw, if_neg (by omega)]
  · obtain ⟨h1, h2, h3⟩ := hL (by omega)
    have hlen : (flat i fun j => [Value.slice (some ⟨R j, 0, none⟩) cols (K j)]).length = i * 1 := flat_length fun _ _ => rfl
    rw [if_neg h0]
    refine ⟨_, appendV_grow e_S_S_grid_Cell (by decide) h1 h3 hlen hsrc (by decide) (by omega) rfl (ones_flat fun _ _ => rfl), ?_, rfl, rfl, fun n hn hne => ?_⟩
    · rw [show S5.cnt = (S5.set L none).cnt from rfl, St.get_push _ _ _ (show (S5.set L none).base ≤ (S5.set L none).cnt from hw), if_pos rfl]
      have e1 : (flat (i + 1) fun j => [Value.slice (some ⟨if j = i then Rn else R j, 0, none⟩) cols (if j = i then Kn else K j)]) = (flat i fun j => [Value.slice (some ⟨R j, 0, none⟩) cols (K j)]) ++ [Value.slice (some ⟨Rn, 0, none⟩) cols Kn] := by
        simp only [flat, if_true]
        rw [flat_congr (g := fun j => [Value.slice (some ⟨R j, 0, none⟩) cols (K j)]) (fun j hj => by rw [if_neg (by omega), if_neg (by omega)])]
      rw [e1]
    · rw [St.get_push _ _ _ (show (S5.set L none).base ≤ (S5.set L none).cnt from hw), if_neg (by show n ≠ S5.cnt; omega), St.get_set _ _ _ _ h1, if_neg (hne (by omega))]

set_option maxRecDepth 4000 in
theorem grid_New {S : St} (hw : S.base ≤ S.cnt) {rows cols : Nat} (hr : 1 ≤ rows ∧ rows ≤ 12) (hc : 1 ≤ cols ∧ cols ≤ 40) :
    Ok (cs n_grid_New [.int .i64 rows, .int .i64 cols] S) fun q => ∃ G : GL, q.1 = .tuple #[G.ptr, .int .i64 0] ∧ GridAt q.2 G cols rows (fun _ _ => CV.blank) ∧ Stays S q.2 (fun _ => False) ∧ S.cnt ≤ G.g ∧ S.cnt ≤ G.L ∧ ∀ i, i < rows → S.cnt ≤ G.R i := by
  have hf := grid_fits (S := S) rows cols
  have hf2 : decide ((1 : Int) ≤ rows ∧ (rows : Int) ≤ 12 ∧ (1 : Int) ≤ cols ∧ (cols : Int) ≤ 40) = true := by simp; omega
  rw [hf2] at hf
  have ho : ones [Value.int .i64 cols, .slice none 0 0] = true := rfl
  apply csOk is_grid_New rfl rfl
  simp [funA_run, a_grid_New, hf, b_Grid, Value.cells, ho, newRowV]
  rw [Ok_endR, Ok_seqR, Ok_blockR]
  refine loop_ok (fun k ρ S2 => ∃ i L R, k = rows - i ∧ i ≤ rows ∧ ρ 1 = .int .i64 cols ∧ ρ 6 = .pointer (some ⟨S.cnt, 0, none⟩) ∧ ρ 14 = .int .i64 rows ∧ ρ 15 = .int .i64 (i : Nat) ∧ Growing S S2 S.cnt cols i L R) ?_ (n := rows) ⟨0, 0, fun _ => 0, rfl, Nat.zero_le _, ?_⟩
  · rintro k ρ S2 ⟨i, L, R, rfl, hi, e1, e6, e14, e15, hG⟩
    by_cases hlt : i < rows
    · have hl : (i : Int) < rows := by omega
      have hw2 : S2.base ≤ S2.cnt := by rw [hG.st.base]; exact Nat.le_trans hw hG.st.cnt
      simp [e1, e6, e14, e15, hl, rowAt_of hG.hdr]
      rw [Ok_seqR, Ok_blockR, Ok_opsR, Ok_againR, Ok_putR]
      refine (grid_Blank hw2).mono ?_
      rintro ⟨v, S3⟩ ⟨rfl, hs3⟩
      have hhdr3 := hs3.get S.cnt hG.gn.2 (fun q => q)
      rw [hG.hdr] at hhdr3
      have hv : ∀ i L, vsame (if i = 0 then Value.slice none 0 0 else .slice (some ⟨L, 0, none⟩) i capx) (if i = 0 then Value.slice none 0 0 else .slice (some ⟨L, 0, none⟩) i capx) = true := by
        intro i L; split <;> exact vsame_slice _ _ _
      simp [rowAt_of hhdr3, hv]
      rw [Ok_againR, Ok_putR]
      have hw3 : S3.base ≤ S3.cnt := by rw [hs3.base]; exact Nat.le_trans hw2 hs3.cnt
      refine (grid_line hw3 (by omega) (by omega) CV.blank).mono ?_
      rintro ⟨v, S4⟩ ⟨Rn, hR1, hR2, rfl, hR3, hs4⟩
      have hR1 : S3.cnt ≤ Rn := hR1
      have hR2 : Rn < S4.cnt := hR2
      have hc34 : S3.cnt ≤ S4.cnt := hs4.cnt
      have hcS : S2.cnt ≤ S3.cnt := hs3.cnt
      have hs24 : Stays S2 S4 (fun _ => False) := hs3.trans hs4 (fun _ _ q => q)
      have hhdr4 := hs24.get S.cnt hG.gn.2 (fun q => q)
      rw [hG.hdr] at hhdr4
      have hw4 : S4.base ≤ S4.cnt := by rw [hs4.base]; exact Nat.le_trans hw3 hs4.cnt
      have hs5 : Stays S4 (S4.push (.cells [.slice (some ⟨Rn, 0, none⟩) cols cols] t_S_grid_Cell 0 false)) (fun _ => False) := Stays.push hw4
      have hs25 := hs24.trans hs5 (fun _ _ q => q)
      have hbs := buildSliceV_1 (S := S4) (v := .slice (some ⟨Rn, 0, none⟩) cols cols) e_S_S_grid_Cell (by decide) rfl
      simp [Value.cells] at hbs
      have hhdr5 := hs25.get S.cnt hG.gn.2 (fun q => q)
      rw [hG.hdr] at hhdr5
      have hw5 : (S4.push (.cells [.slice (some ⟨Rn, 0, none⟩) cols cols] t_S_grid_Cell 0 false)).base ≤ (S4.push (.cells [.slice (some ⟨Rn, 0, none⟩) cols cols] t_S_grid_Cell 0 false)).cnt := Nat.le_succ_of_le hw4
      have hg5 : (S4.push (.cells [.slice (some ⟨Rn, 0, none⟩) cols cols] t_S_grid_Cell 0 false)).get S4.cnt = some (.cells [.slice (some ⟨Rn, 0, none⟩) cols cols] t_S_grid_Cell 0 false) := by rw [St.get_push _ _ _ hw4, if_pos rfl]
      have hc2 := hG.gn.2
      have hc23 := hs3.cnt
      have hc24 := hs24.cnt
      have hb2 : S2.base = S.base := hG.st.base
      have hb4 : S4.base = S.base := by rw [hs24.base, hb2]
      obtain ⟨S6, ha, hn6, hcn6, hbs6, hkeep⟩ := append_row (L := L) (R := R) (K := fun _ => cols) hw5 (show i ≤ 12 by omega) (fun hpos => ⟨by show S4.base ≤ L; rw [hb4]; exact Nat.le_trans hw (hG.ln hpos).1, Nat.lt_of_lt_of_le (hG.ln hpos).2.1 hs25.cnt, by rw [hs25.get L (hG.ln hpos).2.1 (fun q => q)]; exact hG.tbl hpos⟩) hg5
      have hhdr6 : S6.get S.cnt = some (.cells [.int .i64 cols, if i = 0 then .slice none 0 0 else .slice (some ⟨L, 0, none⟩) i capx] t_grid_Grid 0 false) := by
        rw [hkeep S.cnt (Nat.lt_of_lt_of_le hc2 hs25.cnt) (fun hpos => (hG.ln hpos).2.2), hhdr5]
      have hst := storeKV_of (k := 1) (off := 1) (v := .slice (some ⟨S4.cnt + 1, 0, none⟩) (i + 1) capx) rfl (show S6.base ≤ S.cnt by rw [hbs6]; show S4.base ≤ _; rw [hb4]; exact hw) hhdr6 (by simp) rfl
      have hcp : (S4.push (.cells [.slice (some ⟨Rn, 0, none⟩) cols cols] t_S_grid_Cell 0 false)).cnt = S4.cnt + 1 := rfl
      rw [hcp] at ha hn6 hcn6
      simp [rowAt_of hhdr4, rowAt_of hhdr5, hv, hbs, ha, hst, e1, e6, e14, e15]
      have hb6 : S6.base ≤ S.cnt := by rw [hbs6]; show S4.base ≤ _; rw [hb4]; exact hw
      have hle := hs24.cnt
      have get7 : ∀ n, n ≠ S.cnt → (S6.set S.cnt (some (.cells (putL [Value.int .i64 cols, if i = 0 then Value.slice none 0 0 else .slice (some ⟨L, 0, none⟩) i capx] 1 (Value.slice (some ⟨S4.cnt + 1, 0, none⟩) (i + 1) capx).cells.toList) t_grid_Grid 0 false))).get n = S6.get n := fun n hn => by rw [St.get_set _ _ _ _ hb6, if_neg hn]
      have get25 : ∀ n, n < S4.cnt → (0 < i → n ≠ L) → S6.get n = S4.get n := fun n hn hne => by
        rw [hkeep n (by omega) hne, hs5.get n hn (fun q => q)]
      refine ⟨rows - (i + 1), by omega, i + 1, rfl, by omega, by rw [wrap64 (by omega) (by omega)]; simp, S4.cnt + 1, fun j => if j = i then Rn else R j, ?_⟩
      have hc3 := hs3.cnt
      refine ⟨?_, fun _ => ?_, fun j hj => ?_, ⟨hG.gn.1, by show S.cnt < S6.cnt; omega⟩, fun _ => ⟨by omega, by show _ < S6.cnt; omega, by omega⟩, fun j hj => ?_, fun j k hj hk => ?_, ?_⟩
      · rw [St.get_set _ _ _ _ hb6, if_pos rfl, if_neg (show ¬ (i + 1 = 0) by omega)]; rfl
      · rw [get7 _ (by omega)]; simpa using hn6
      · by_cases q : j = i
        · simp only [q, if_true]
          rw [get7 _ (by omega), get25 _ (by omega) (fun hp => by have := (hG.ln hp).2.1; omega)]; exact hR3
        · simp only [q, if_false]
          have h2 := hG.rn j (by omega)
          rw [get7 _ h2.2.2.1, get25 _ (by omega) (fun _ => h2.2.2.2), hs24.get _ h2.2.1 (fun q => q)]
          exact hG.row j (by omega)
      · by_cases q : j = i
        · simp only [q, if_true]
          exact ⟨by omega, by show Rn < S6.cnt; omega, by omega, by omega⟩
        · simp only [q, if_false]
          have h2 := hG.rn j (by omega)
          exact ⟨h2.1, by show R j < S6.cnt; omega, h2.2.2.1, by omega⟩
      · by_cases q : j = i <;> by_cases q2 : k = i <;> simp only [q, q2, if_true, if_false]
        · intro _; trivial
        · intro he; have := (hG.rn k (by omega)).2.1; omega
        · intro he; have := (hG.rn j (by omega)).2.1; omega
        · intro he; exact hG.inj j k (by omega) (by omega) he
      · refine ⟨hbs6.trans hb4, by show S.cnt ≤ S6.cnt; omega, fun n hn _ => ?_⟩
        rw [get7 n (by omega), get25 n (by omega) (fun hp => by have := (hG.ln hp).1; omega), hs24.get n (by omega) (fun q => q), hG.st.get n hn (fun q => q)]
    · have hl : ¬ (i : Int) < rows := by omega
      have hie : i = rows := by omega
      subst hie
      have hpos : 0 < i := by omega
      simp [e1, e6, e14, e15, hl]
      have hb : S2.base = S.base := hG.st.base
      have hh := hG.hdr
      rw [if_neg (by omega)] at hh
      refine ⟨⟨S.cnt, L, capx, R, fun _ => cols⟩, rfl, ⟨⟨_, _, hh⟩, ⟨_, _, hG.tbl hpos⟩, fun j hj => ⟨_, _, _, hG.row j hj, Or.inl rfl⟩, rfl, ⟨by rw [hb]; exact hw, hG.gn.2⟩, ⟨by rw [hb]; exact Nat.le_trans hw (hG.ln hpos).1, (hG.ln hpos).2.1⟩, fun j hj => ⟨by rw [hb]; exact Nat.le_trans hw (hG.rn j hj).1, (hG.rn j hj).2.1⟩, (hG.ln hpos).2.2, fun j hj => ⟨(hG.rn j hj).2.2.1, (hG.rn j hj).2.2.2⟩, hG.inj, ⟨by omega, by omega⟩⟩, hG.st, Nat.le_refl _, (hG.ln hpos).1, fun j hj => (hG.rn j hj).1⟩
  · simp
    refine ⟨?_, fun h => by omega, fun j hj => by omega, ⟨Nat.le_refl _, Nat.lt_succ_self _⟩, fun h => by omega, fun j hj => by omega, fun j k hj => by omega, Stays.push hw⟩
    rw [St.get_push _ _ _ hw, if_pos rfl]; rfl

end Go.AM
