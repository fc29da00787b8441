/- AmE4: echoes: keys are typed. -/
import Derived.Test.YtdfimlepfaheeaaGreatAmE3
set_option linter.unusedVariables false
set_option linter.unusedSimpArgs false
namespace Go.AM

theorem b_Guess (a : Int) (b c d : Int) : buildV pg t_echo_Guess [(0, .int .u64 a), (1, .int .i64 b), (2, .int .i64 c), (3, .int .i32 d)] = some (.agg #[.int .u64 a, .int .i64 b, .int .i64 c, .int .i32 d]) := by kernel_rfl

@[simp] theorem againA_gen {P : Program} {cF : CF} (d : Nat) (g : Option (Tmp × Bool)) (o : Op) (ty : Nat) (ρ : Rho) (S : St) : againA P cF ⟨some d, g, .gen o ty⟩ ρ S = if wantedA g ρ = true then againQ (doA P cF (.gen o ty) (evO ρ) S) (ρ d) else true := againA_any _ _ _ _ _ rfl
@[simp] theorem againA_len {P : Program} {cF : CF} (d : Nat) (g : Option (Tmp × Bool)) (x : Operand) (ρ : Rho) (S : St) : againA P cF ⟨some d, g, .len x⟩ ρ S = if wantedA g ρ = true then againQ (doA P cF (.len x) (evO ρ) S) (ρ d) else true := againA_any _ _ _ _ _ rfl

theorem appendV_full {P : Program} {S : St} {t tx e k b : Nat} (he : elemOk P t e k b = true) (hk0 : k ≠ 0) {m off len cap n : Nat} {x : Value} {olds news : List Value} (hs : srcV P tx k x S = some (n, news)) (hn : 0 < n) (hc : cap ≠ capx) (hlt : cap < len + n)
    (hr : rowAt S m off (len * k) = some olds) (hsm : (2 * (len + n) + 256) * b ≤ 2 ^ 48 ∧ len + n < 2 ^ 60) :
    appendV P t tx (.slice (some ⟨m, off, none⟩) len cap) x S = some (.slice (some ⟨S.cnt, 0, none⟩) (len + n) capx, S.push (.cells (olds ++ news) e k false)) := by
  obtain ⟨hu, i, z, hi, hz, hk, hby, hzs, haf⟩ := elemOk_of he
  subst hk hby
  have h1 : ¬ len + n ≤ cap := by omega
  simp only [rowAt_O] at hr
  simp [appendV, hu, hi, hz, hzs, haf, hs, Nat.ne_of_gt hn, hc, h1, hr, freshRow, hsm, hk0]

@[simp] theorem sliceW_slOf (P : Program) (t : Nat) (L n : Nat) (lo hi mx : Option Value) (S : St) (o : Option (Value × St)) : sliceW P t (slOf L n) lo hi mx S o = valR S (sliceV P t (slOf L n) lo hi mx S) := by
  unfold slOf; split <;> rfl

/-- The guesses but for their capacity, and one more behind them. -/
theorem append_guess {S5 : St} {L a m b : Nat} {pt : Nat → Int} (hw : S5.base ≤ S5.cnt) (hm : m ≤ 1000) (hL : 0 < m → S5.get L = some (.cells (flat m fun j => gv pt (a + j)) t_echo_Guess 4 false) ∧ S5.base ≤ L ∧ L < S5.cnt)
    (hb : S5.get b = some (.cells (gv pt (a + m)) t_echo_Guess 0 false)) (hbL : 0 < m → b ≠ L) :
    ∃ S6 v, (∀ S' : St, (0 < m → S'.get L = some (.cells (flat m fun j => gv pt (a + j)) t_echo_Guess 4 false)) → sliceV pg t_S_echo_Guess (slOf L m) none (some (.int .i64 m)) (some (.int .i64 m)) S' = some v) ∧ vsame v v = true ∧ appendV pg t_S_echo_Guess t_S_echo_Guess v (.slice (some ⟨b, 0, none⟩) 1 1) S5 = some (.slice (some ⟨S5.cnt, 0, none⟩) (m + 1) capx, S6) ∧
      S6.get S5.cnt = some (.cells (flat (m + 1) fun j => gv pt (a + j)) t_echo_Guess 4 false) ∧ S6.cnt = S5.cnt + 1 ∧ S6.base = S5.base ∧ ∀ x, x < S5.cnt → S6.get x = S5.get x := by
  have hsrc : srcV pg t_S_echo_Guess 4 (.slice (some ⟨b, 0, none⟩) 1 1) S5 = some (1, gv pt (a + m)) :=
    srcV_slice e_S_echo_Guess (by decide) (by rw [rowAt_O, hb]; rfl) rfl
  by_cases h0 : m = 0
  · subst h0
    have ha := appendV_nil (S := S5) (tx := t_S_echo_Guess) e_S_echo_Guess (by decide) hsrc (by decide) (by decide)
    refine ⟨S5.push (.cells (gv pt a) t_echo_Guess 4 false), .slice none 0 0, ?_, by simp, ?_, ?_, rfl, rfl, fun x hx => ?_⟩
    · intro S' _; rw [slOf_0]; simp [sliceV, boundV, s_echo_Guess]
    · exact ha
    · rw [St.get_push _ _ _ hw, if_pos rfl]; rfl
    · rw [St.get_push _ _ _ hw, if_neg (by omega)]
  · obtain ⟨h1, h2, h3⟩ := hL (by omega)
    rw [slOf_pos L (by omega)]
    have hl : (flat m fun j => gv pt (a + j)).length = m * 4 := flat_length fun _ _ => rfl
    refine ⟨S5.push (.cells (flat (m + 1) fun j => gv pt (a + j)) t_echo_Guess 4 false), .slice (some ⟨L, 0, none⟩) m m, ?_, by simp, ?_, ?_, rfl, rfl, fun x hx => ?_⟩
    · intro S' hS'
      have h1 := hS' (by omega)
      have hmx : m < capx := by unfold capx; omega
      have hs4 : sizeO pg t_echo_Guess = some 4 := s_echo_Guess
      simp [sliceV, boundV, hs4, h1, cutS, h0, hmx]
    · have hm1 : ¬ m = capx := by unfold capx; omega
      exact appendV_full (S := S5) e_S_echo_Guess (by decide) hsrc (by decide) hm1 (by omega) (by rw [rowAt_O, h1, rowO_cells (by omega), List.drop_zero, List.take_of_length_le (by omega)]) (by omega)
    · rw [St.get_push _ _ _ hw, if_pos rfl]
    · rw [St.get_push _ _ _ hw, if_neg (by omega)]

set_option maxRecDepth 4000 in
theorem echo_print {S : St} {X L : Nat} {e : Nat → Value} {a m cols : Nat} {pt : Nat → Int} (h : EchoAt S X L e a m pt) (h2 : e 2 = .int .i64 cols) (hcols : cols ≤ 40) (hm : a + m + 1 < cols) {k : Int} (hk : 0 ≤ k ∧ k < 256) (hpt : pt (a + m) = k) :
    Ok (cs n_echo_Echo_print [.pointer (some ⟨X, 0, none⟩), .int .u8 k] S) fun q => ∃ L' e', q.2.get X = some (recO 18 t_echo_Echo e') ∧ e' 11 = slOf L' (m + 1) ∧ e' 13 = .int .i64 ((a + m + 1 : Nat) : Int) ∧ (∀ i, i ≠ 11 → i ≠ 13 → e' i = e i) ∧
      q.2.get L' = some (.cells (flat (m + 1) fun j => gv pt (a + j)) t_echo_Guess 4 false) ∧ S.cnt ≤ L' ∧ L' < q.2.cnt ∧ Stays S q.2 (fun n => n = X) := by
  have hw : S.base ≤ S.cnt := Nat.le_of_lt (Nat.lt_of_le_of_lt h.b.1 h.b.2)
  have hw1 : S.base ≤ S.cnt + 1 := by omega
  have hw2 : S.base ≤ S.cnt + 1 + 1 := by omega
  have g0 := h.get
  have hbX := h.b.1
  have x0 : ¬ X = S.cnt := by have := h.b.2; omega
  have x1 : ¬ X = S.cnt + 1 := by have := h.b.2; omega
  have f13 := h.f13
  have f15 := h.f15
  generalize hn : a + m = n at *
  have w1 : IntKind.wrap .i64 ((cols : Int) - 1) = cols - 1 := wrap64 (by omega) (by omega)
  have w2 : IntKind.wrap .i32 k = k := IntWalk.i32_in _ (by omega)
  have w3 : IntKind.wrap .i64 ((n : Int) + 1) = n + 1 := wrap64 (by omega) (by omega)
  have c1 : ¬ (cols : Int) - 1 ≤ n := by omega
  have c2 : ¬ (64 : Int) ≤ m := by omega
  have hs2 : Stays S ((S.push (.cells (gv pt n) t_echo_Guess 0 false)).push (.cells (gv pt n) t_echo_Guess 0 false)) (fun _ => False) := (Stays.push hw).trans (Stays.push hw1) (fun _ _ q => q)
  obtain ⟨S6, v, d1, d2, d3, d4, d5, d6, d7⟩ := append_guess (S5 := (S.push (.cells (gv pt n) t_echo_Guess 0 false)).push (.cells (gv pt n) t_echo_Guess 0 false)) (L := L) (a := a) (m := m) (b := S.cnt + 1) (pt := pt) hw2 (by omega)
    (fun hp => by obtain ⟨a1, a2, a3, a4⟩ := h.tbl hp; exact ⟨by rw [hs2.get L a3 (fun q => q)]; exact a1, a2, Nat.lt_succ_of_lt (Nat.lt_succ_of_lt a3)⟩)
    (by rw [hn]; simp [hw, hw1]) (fun hp => by have := (h.tbl hp).2.2.1; omega)
  have hbs := buildSliceV_1 (S := S.push (.cells (gv pt n) t_echo_Guess 0 false)) (v := .agg (gv pt n).toArray) e_S_echo_Guess (by decide) rfl
  have hs1 : Stays S (S.push (.cells (gv pt n) t_echo_Guess 0 false)) (fun _ => False) := Stays.push hw
  have v1 := d1 (S.push (.cells (gv pt n) t_echo_Guess 0 false)) (fun hp => by rw [hs1.get L (h.tbl hp).2.2.1 (fun q => q)]; exact (h.tbl hp).1)
  have v2 := d1 ((S.push (.cells (gv pt n) t_echo_Guess 0 false)).push (.cells (gv pt n) t_echo_Guess 0 false)) (fun hp => by rw [hs2.get L (h.tbl hp).2.2.1 (fun q => q)]; exact (h.tbl hp).1)
  clear d1
  have k7 : S6.get X = _ := (d7 X (by have := h.b.2; show X < S.cnt + 1 + 1; omega)).trans ((hs2.get X h.b.2 (fun q => q)).trans g0)
  have b6 : S6.base ≤ X := by rw [d6]; exact hbX
  have hgn : gv pt n = [.int .u64 n, .int .i64 0, .int .i64 n, .int .i32 k] := by unfold gv; rw [hpt]
  simp only [St.push_cntQ, hgn, cells_agg, List.toList_toArray] at v1 v2 d3 hbs d4 d5
  apply csOk is_echo_Echo_print rfl rfl
  simp [funA_run, a_echo_Echo_print, g0, f13, h2, h.f11, h.f12, f15, w1, w2, c1, c2, convW_int u_uint8 u_int32, b_Guess, hw, hw1, hbX, x0, x1, putL, v1, v2, d2, d3, hbs, k7, b6, w3]
  refine ⟨S.cnt + 1 + 1, _, rfl, ?_, ?_, ?_, ?_, by omega, by omega, ?_⟩
  · rw [slOf_pos _ (by omega)]; simp
  · simp
  · intro i h1 h2; simp [h1, h2]
  · have := h.b.2
    rw [if_neg (by omega)]; exact d4
  · refine ⟨by rw [St.set_baseQ, d6]; rfl, by show S.cnt ≤ S6.cnt; omega, fun x hx hX => ?_⟩
    rw [St.get_set _ _ _ _ b6, if_neg hX, d7 x (Nat.lt_succ_of_lt (Nat.lt_succ_of_lt hx)), hs2.get x hx (fun q => q)]

set_option maxRecDepth 4000 in
theorem echo_Type {S : St} {X L : Nat} {e : Nat → Value} {a m cols : Nat} {pt : Nat → Int} (h : EchoAt S X L e a m pt) (h2 : e 2 = .int .i64 cols) (hcols : cols ≤ 40) (hm : a + m + 1 < cols) {k : Int} (hk : 32 ≤ k ∧ k < 127) (hpt : pt (a + m) = k)
    {n off cap : Nat} (hrow : rowO (S.get n) off 1 = some [.int .u8 k]) :
    Ok (cs n_echo_Echo_Type [.pointer (some ⟨X, 0, none⟩), .slice (some ⟨n, off, none⟩) 1 cap] S) fun q => q.1 = .int .i64 0 ∧ ∃ L' e', EchoAt q.2 X L' e' a (m + 1) pt ∧ (∀ i, i ≤ 10 → e' i = e i) ∧ S.cnt ≤ L' ∧ Stays S q.2 (fun n => n = X) := by
  have g0 := h.get
  have hbX := h.b.1
  have hk1 : ¬ k < 32 := by omega
  have hk2 : k ≤ 126 := by omega
  apply csOk is_echo_Echo_Type rfl rfl
  simp [funA_run, a_echo_Echo_Type, g0, echo_is g0 h.f0]
  rw [loopA_step]
  simp [g0, h.f14, hrow, idxSV_ok, hk.1, hk2]
  simp only [Ok_endR, Ok_seqR, Ok_blockR, Ok_opsR, Ok_runL, Ok_runPl, Ok_againR, Ok_putR, Ok_loopR]
  refine (echo_print h h2 hcols hm (by omega) hpt).mono ?_
  rintro ⟨v, S2⟩ ⟨L', e', k1, k2, k3, k4, k5, k6, k7, k8⟩
  dsimp only at k1 k5 k7 k8
  have f15 := (k4 15 (by decide) (by decide)).trans h.f15
  have b2 : S2.base ≤ X := by rw [k8.base]; exact hbX
  have w1 : IntKind.wrap .u64 ((a : Int) + m + 1) = ((a + (m + 1) : Nat) : Int) := by rw [IntWalk.u64_in _ (by omega)]; simp; omega
  have w2 : IntKind.wrap .i64 1 = 1 := by decide
  simp [k1, f15, b2]
  rw [loopA_step]
  simp [w2]
  rw [w1]
  have hX2 := h.b.2
  have m2 := k8.cnt
  refine ⟨L', _, ⟨by rw [St.get_set _ _ _ _ b2, if_pos rfl], ⟨b2, by show X < S2.cnt; omega⟩, ?_, ?_, ?_, ?_, ?_, ?_, ?_, ?_, fun _ => ⟨?_, ?_, ?_, by omega⟩⟩, ?_, k6, k8.trans (Stays.set (A := fun n => n = X) b2 rfl) (fun _ _ q => q)⟩
  · simp; exact (k4 0 (by decide) (by decide)).trans h.f0
  · simp; exact k2
  · simp; exact (k4 12 (by decide) (by decide)).trans h.f12
  · simp; rw [k3]; simp; omega
  · simp; exact (k4 14 (by decide) (by decide)).trans h.f14
  · simp
  · simp; exact (k4 16 (by decide) (by decide)).trans h.f16
  · simp; exact (k4 17 (by decide) (by decide)).trans h.f17
  · rw [St.get_set _ _ _ _ b2, if_neg (by omega)]; exact k5
  · show S2.base ≤ L'; omega
  · exact k7
  · intro i hi
    rw [upd_get, if_neg (by omega)]; exact k4 i (by omega) (by omega)

end Go.AM
