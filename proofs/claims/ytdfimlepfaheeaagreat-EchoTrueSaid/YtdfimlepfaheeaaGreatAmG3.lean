/- AmG3: new rows, new grids. -/
import Derived.Test.YtdfimlepfaheeaaGreatAmG2
set_option linter.unusedVariables false
set_option linter.unusedSimpArgs false
namespace Go.AM

theorem mul_all (S : St) : (List.range 64).map (fun n => callP pg hk codes 100 10 n_math_bits_Mul [.int .u64 1, .int .u64 (Int.ofNat n)] S) = (List.range 64).map (fun n => some (.tuple #[.int .u64 0, .int .u64 (Int.ofNat n)], S)) := by kernel_rfl

theorem bits_Mul {S : St} {n : Nat} (hn : n < 64) : cs n_math_bits_Mul [.int .u64 1, .int .u64 n] S = some (.tuple #[.int .u64 0, .int .u64 n], S) :=
  callP_ok (fun f a h => codes_ok f a h) 10 _ _ _ _ ((List.map_inj_left.mp (mul_all S)) n (List.mem_range.mpr hn))

theorem z_grid_Cell : zeroO pg t_grid_Cell = some (.agg #[.int .i32 0, .int .u8 0, .int .u32 0, .int .u32 0]) := by kernel_rfl

def CV.zero : CV := ⟨0, 0, 0, 0⟩

set_option maxRecDepth 4000 in
theorem slices_Repeat {S : St} (hw : S.base ≤ S.cnt) {n : Nat} (hn0 : 0 < n) (hn : n < 64) (x : CV) {m cap : Nat} {T G g} (hm : S.get m = some (.cells x.vals T G g)) (hmc : m < S.cnt) :
    Ok (cs n_slices_Repeat_grid_Cell_grid_Cell [.slice (some ⟨m, 0, none⟩) 1 cap, .int .i64 n] S) fun q => q.1 = .slice (some ⟨S.cnt, 0, none⟩) n n ∧ q.2.get S.cnt = some (.cells (flat n fun _ => x.vals) t_grid_Cell 0 false) ∧ Stays S q.2 (fun _ => False) ∧ S.cnt < q.2.cnt := by
  apply csOk is_slices_Repeat_grid_Cell_grid_Cell rfl rfl
  have e1 : ¬ (n : Int) < 0 := by omega
  have w1 : IntKind.wrap .u64 1 = 1 := by decide
  have w2 : IntKind.wrap .u64 n = n := IntWalk.u64_in _ (by omega)
  have w3 : IntKind.wrap .i64 n = n := IntWalk.i64_in _ (by omega)
  have e2 : ¬ (9223372036854775807 : Int) < n := by omega
  have hms := makeSliceV_ok (S := S) (n := n) e_S_grid_Cell (by omega) (by decide) z_grid_Cell
  have hfl : (List.replicate n [Value.int .i32 0, .int .u8 0, .int .u32 0, .int .u32 0]).flatten = flat n fun _ => CV.zero.vals := flat_replicate n _
  have hms' : makeSliceV pg t_S_grid_Cell (.int .i64 n) (.int .i64 n) S = some (.slice (some ⟨S.cnt, 0, none⟩) n n, S.push (.cells (flat n fun _ => CV.zero.vals) t_grid_Cell 0 false)) := by rw [hms, ← hfl]; rfl
  have g0 : (S.push (.cells (flat n fun _ => CV.zero.vals) t_grid_Cell 0 false)).get S.cnt = some (.cells (flat n fun _ => CV.zero.vals) t_grid_Cell 0 false) := by rw [St.get_push _ _ _ hw, if_pos rfl]
  have gm : (S.push (.cells (flat n fun _ => CV.zero.vals) t_grid_Cell 0 false)).get m = some (.cells x.vals T G g) := by rw [St.get_push _ _ _ hw, if_neg (by omega)]; exact hm
  have hl : (flat n fun _ => CV.zero.vals).length = n * 4 := flat_length fun i hi => rfl
  have hput := putRow_of (S := S.push (.cells (flat n fun _ => CV.zero.vals) t_grid_Cell 0 false)) (vs := x.vals) (off := 0) (show _ ≤ S.cnt from hw) g0 (by rw [CV.vals_length, hl]; omega) rfl
  have hmin : Nat.min 1 n = 1 := by simp [Nat.min_def]; omega
  have hsrc : rowAt (S.push (.cells (flat n fun _ => CV.zero.vals) t_grid_Cell 0 false)) m 0 (1 * 4) = some x.vals := by rw [rowAt_of gm (by simp)]; rfl
  have hcopy := copyV_slices (tx := t_S_grid_Cell) (dc := n) (sc := cap) (sl := 1) (dl := n) e_S_grid_Cell (by rw [hmin]; decide) (by rw [hmin]; exact hsrc) hput
  rw [hmin] at hcopy
  simp [funA_run, a_slices_Repeat_grid_Cell_grid_Cell, e1, w1, w2, w3, convW_int u_int u_uint, convW_int u_uint u_int, bits_Mul hn, e2, hms', hcopy, goInt]
  rw [Ok_endR, Ok_seqR, Ok_blockR]
  refine loop_ok (fun k ρ S2 => ∃ i : Nat, k = n - i ∧ 1 ≤ i ∧ i ≤ n ∧ ρ 7 = .slice (some ⟨S.cnt, 0, none⟩) n n ∧ ρ 8 = .int .i64 i ∧ S2.get S.cnt = some (.cells (flat n fun j => (if j < i then x else CV.zero).vals) t_grid_Cell 0 false) ∧ Stays S S2 (fun _ => False) ∧ S.cnt < S2.cnt) ?_ (n := n - 1) ⟨1, rfl, Nat.le_refl _, hn0, ?_⟩
  · rintro k ρ S2 ⟨i, rfl, hi1, hin, e7, e8, hg, hst, hcnt⟩
    by_cases hi : i < n
    · have hl2 : (flat n fun j => (if j < i then x else CV.zero).vals).length = n * 4 := flat_length fun i hi => rfl
      have hb2 : S2.base ≤ S.cnt := by rw [hst.base]; exact hw
      have q1 := sliceV_known (S := S2) (n := S.cnt) (off := 0) (len := n) (cap := n) e_S_grid_Cell (boundV_nat .i64 i) boundV_none boundV_none (by simp) (by simp [capx]; omega) (by simp; omega)
      have q2 := sliceV_known (S := S2) (n := S.cnt) (off := 0) (len := n) (cap := n) e_S_grid_Cell boundV_none (boundV_nat .i64 i) boundV_none (by simp) (by simp [capx]; omega) (by simp; omega)
      have hn_i : n ≠ i := by omega
      have hn_0 : n ≠ 0 := by omega
      simp [cutS, hn_i] at q1
      simp [cutS, hn_0] at q2
      have hpos : 0 < Nat.min i (n - i) := by simp [Nat.min_def]; split <;> omega
      have hle : i + Nat.min i (n - i) ≤ n := by simp [Nat.min_def]; split <;> omega
      have hle2 : Nat.min i (n - i) ≤ i := Nat.min_le_left _ _
      have hrow : rowAt S2 S.cnt 0 (Nat.min i (n - i) * 4) = some (flat (Nat.min i (n - i)) fun _ => x.vals) := by
        have h3 : Nat.min i (n - i) * 4 ≤ n * 4 := Nat.mul_le_mul_right 4 (by omega)
        rw [rowAt_of hg (by rw [hl2]; omega)]
        have := flat_rows (n := n) (k := 4) (a := 0) (m := Nat.min i (n - i)) (f := fun j => (if j < i then x else CV.zero).vals) (fun i hi => rfl) (by omega)
        rw [Nat.zero_mul] at this
        rw [this]
        congr 1
        exact flat_congr fun j hj => by rw [if_pos (by omega)]
      have hlm : (flat (Nat.min i (n - i)) fun _ => x.vals).length = Nat.min i (n - i) * 4 := flat_length fun i hi => rfl
      have hput2 := putRow_of (S := S2) (vs := flat (Nat.min i (n - i)) fun _ => x.vals) (off := i * 4) hb2 hg (by rw [hlm, hl2, ← Nat.add_mul]; exact Nat.mul_le_mul_right 4 hle) (ones_flat fun i hi => rfl)
      have hcopy2 := copyV_slices (tx := t_S_grid_Cell) (dl := n - i) (dc := n - i) (sc := n) e_S_grid_Cell hpos hrow hput2
      have hlt : (i : Int) < n := by omega
      simp [e7, e8, hlt, q1, q2, hcopy2, hi, goInt]
      refine ⟨n - (i + Nat.min i (n - i)), by omega, i + Nat.min i (n - i), rfl, by omega, hle, ?_, ?_, ?_, hcnt⟩
      · rw [wrap64 (by omega) (by omega)]; simp [Nat.min_def]
      · rw [St.get_set _ _ _ _ hb2, if_pos rfl, flat_puts (k := 4) (f := fun j => (if j < i then x else CV.zero).vals) (g := fun _ => x.vals) (fun i hi => rfl) (fun i hi => rfl) hle]
        congr 2
        refine flat_congr fun j hj => ?_
        by_cases c1 : j < i
        · rw [if_neg (by omega), if_pos c1, if_pos (by omega)]
        · by_cases c2 : j < i + Nat.min i (n - i)
          · rw [if_pos (by omega), if_pos c2]
          · rw [if_neg (by omega), if_neg c1, if_neg c2]
      · refine ⟨hst.base, hst.cnt, fun a ha hA => ?_⟩
        rw [St.get_set _ _ _ _ hb2, if_neg (by omega)]
        exact hst.get a ha hA
    · have hie : i = n := by omega
      subst hie
      simp [e7, e8]
      refine ⟨?_, hst, hcnt⟩
      rw [hg]; congr 2
      exact flat_congr fun j hj => by rw [if_pos hj]
  · have hs2 : (S.push (.cells (flat n fun _ => CV.zero.vals) t_grid_Cell 0 false)).base ≤ S.cnt := hw
    refine ⟨by simp, by simp, ?_, ?_, Nat.lt_succ_self _⟩
    · rw [St.get_set _ _ _ _ hs2, if_pos rfl]
      congr 2
      have := flat_put (n := n) (k := 4) (j := 0) (f := fun _ => CV.zero.vals) (vs := x.vals) (fun i hi => rfl) hn0 rfl
      rw [Nat.zero_mul] at this
      rw [this]
      exact flat_congr fun j hj => by by_cases c : j = 0 <;> simp [c]
    · refine ⟨rfl, Nat.le_succ _, fun a ha hA => ?_⟩
      rw [St.get_set _ _ _ _ hs2, if_neg (by omega), St.get_push _ _ _ hw, if_neg (by omega)]

theorem Stays.pushN {S : St} {o : AObj} {S' : St} (hw : S.base ≤ S.cnt) (h : Stays (S.push o) S' (fun _ => False)) : Stays S S' (fun _ => False) :=
  (Stays.push hw).trans h (fun _ _ h => h)

theorem grid_line {S : St} (hw : S.base ≤ S.cnt) {n : Nat} (hn0 : 0 < n) (hn : n < 64) (x : CV) :
    Ok (cs n_grid_line [.int .i64 n, x.agg] S) fun q => ∃ R, S.cnt ≤ R ∧ R < q.2.cnt ∧ q.1 = .slice (some ⟨R, 0, none⟩) n n ∧ q.2.get R = some (.cells (flat n fun _ => x.vals) t_grid_Cell 0 false) ∧ Stays S q.2 (fun _ => False) := by
  have hpush : (S.push (.cells x.vals t_grid_Cell 0 false)).get S.cnt = some (.cells x.vals t_grid_Cell 0 false) := by rw [St.get_push _ _ _ hw, if_pos rfl]
  have hbox : rowAt (S.push (.cells x.vals t_grid_Cell 0 false)) S.cnt 0 4 = some x.vals := by rw [rowAt_of hpush (by simp)]; rfl
  have hw2 : (S.push (.cells x.vals t_grid_Cell 0 false)).base ≤ (S.push (.cells x.vals t_grid_Cell 0 false)).cnt := Nat.le_succ_of_le hw
  have hb := buildSliceV_1 (S := S.push (.cells x.vals t_grid_Cell 0 false)) (v := .agg x.vals.toArray) e_S_grid_Cell (by decide) rfl
  have hw3 : ((S.push (.cells x.vals t_grid_Cell 0 false)).push (.cells x.vals t_grid_Cell 0 false)).base ≤ ((S.push (.cells x.vals t_grid_Cell 0 false)).push (.cells x.vals t_grid_Cell 0 false)).cnt := Nat.le_succ_of_le hw2
  have hg2 : ((S.push (.cells x.vals t_grid_Cell 0 false)).push (.cells x.vals t_grid_Cell 0 false)).get (S.push (.cells x.vals t_grid_Cell 0 false)).cnt = some (.cells x.vals t_grid_Cell 0 false) := by rw [St.get_push _ _ _ hw2, if_pos rfl]
  apply csOk is_grid_line rfl rfl
  simp [funA_run, a_grid_line, CV.agg, Value.cells, ones_vals, newRowV, hbox]
  simp [Value.cells] at hb
  simp [hb]
  rw [Ok_endR, Ok_seqR, Ok_opsR, Ok_runL, Ok_putR]
  refine (slices_Repeat hw3 hn0 hn x (cap := 1) hg2 (Nat.lt_succ_self _)).mono ?_
  rintro ⟨v, S'⟩ ⟨rfl, h1, h2, h3⟩
  simp
  refine ⟨_, ?_, h3, rfl, h1, Stays.pushN hw (Stays.pushN hw2 h2)⟩
  exact Nat.le_succ_of_le (Nat.le_succ _)

end Go.AM
