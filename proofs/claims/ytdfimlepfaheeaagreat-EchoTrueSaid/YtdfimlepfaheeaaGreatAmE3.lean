/- AmE3: echoes: small functions. -/
import Derived.Test.YtdfimlepfaheeaaGreatAmE2
set_option linter.unusedVariables false
set_option linter.unusedSimpArgs false
namespace Go.AM

/-- A guess of the k-th key: that it is shown in the first row. -/
def gv (pt : Nat → Int) (k : Nat) : List Value := [.int .u64 k, .int .i64 0, .int .i64 k, .int .i32 (pt k)]

/-- An echo: a guesses came true, m are there. -/
structure EchoAt (S : St) (X L : Nat) (e : Nat → Value) (a m : Nat) (pt : Nat → Int) : Prop where
  get : S.get X = some (recO 18 t_echo_Echo e)
  b : S.base ≤ X ∧ X < S.cnt
  f0 : e 0 = .bool true
  f11 : e 11 = slOf L m
  f12 : e 12 = .int .i64 0
  f13 : e 13 = .int .i64 ((a + m : Nat) : Int)
  f14 : e 14 = .bool false
  f15 : e 15 = .int .u64 ((a + m : Nat) : Int)
  f16 : e 16 = .int .i64 (a : Nat)
  f17 : e 17 = .int .i64 0
  tbl : 0 < m → S.get L = some (.cells (flat m fun j => gv pt (a + j)) t_echo_Guess 4 false) ∧ S.base ≤ L ∧ L < S.cnt ∧ L ≠ X

/-- What it saw. -/
structure Seen (S : St) (X C : Nat) (e : Nat → Value) (rows cols row col : Nat) (f : Nat → CV) : Prop where
  f1 : e 1 = .int .i64 rows
  f2 : e 2 = .int .i64 cols
  f3 : e 3 = .slice (some ⟨C, 0, none⟩) (rows * cols) capx
  f4 : e 4 = .int .i64 row
  f5 : e 5 = .int .i64 col
  f6 : e 6 = .bool true
  tbl : S.get C = some (.cells (flat (rows * cols) fun k => (f k).vals) t_grid_Cell 4 false)
  cb : S.base ≤ C ∧ C < S.cnt ∧ C ≠ X

theorem EchoAt.stays {S S' : St} {X L : Nat} {e : Nat → Value} {a m : Nat} {pt : Nat → Int} {A : Nat → Prop} (h : EchoAt S X L e a m pt) (hs : Stays S S' A) (h1 : ¬ A X) (h2 : 0 < m → ¬ A L) : EchoAt S' X L e a m pt where
  get := by rw [hs.get _ h.b.2 h1]; exact h.get
  b := ⟨hs.base ▸ h.b.1, Nat.lt_of_lt_of_le h.b.2 hs.cnt⟩
  f0 := h.f0
  f11 := h.f11
  f12 := h.f12
  f13 := h.f13
  f14 := h.f14
  f15 := h.f15
  f16 := h.f16
  f17 := h.f17
  tbl := fun hm => by
    obtain ⟨a1, a2, a3, a4⟩ := h.tbl hm
    exact ⟨by rw [hs.get _ a3 (h2 hm)]; exact a1, hs.base ▸ a2, Nat.lt_of_lt_of_le a3 hs.cnt, a4⟩

theorem Seen.stays {S S' : St} {X C : Nat} {e : Nat → Value} {rows cols row col : Nat} {f : Nat → CV} {A : Nat → Prop} (h : Seen S X C e rows cols row col f) (hs : Stays S S' A) (h1 : ¬ A C) : Seen S' X C e rows cols row col f where
  f1 := h.f1
  f2 := h.f2
  f3 := h.f3
  f4 := h.f4
  f5 := h.f5
  f6 := h.f6
  tbl := by rw [hs.get _ h.cb.2.1 h1]; exact h.tbl
  cb := ⟨hs.base ▸ h.cb.1, Nat.lt_of_lt_of_le h.cb.2.1 hs.cnt, h.cb.2.2⟩

theorem echo_is {S : St} {X : Nat} {e : Nat → Value} (h : S.get X = some (recO 18 t_echo_Echo e)) (h0 : e 0 = .bool true) : cs n_echo_Echo_is [.pointer (some ⟨X, 0, none⟩)] S = some (.bool true, S) := by
  apply csE is_echo_Echo_is rfl rfl
  simp [funA_run, a_echo_Echo_is, h, h0]

theorem echo_Quiet {S : St} {X L : Nat} {e : Nat → Value} {a m : Nat} {pt : Nat → Int} (h : EchoAt S X L e a m pt) : cs n_echo_Echo_Quiet [.pointer (some ⟨X, 0, none⟩)] S = some (.bool false, S) := by
  apply csE is_echo_Echo_Quiet rfl rfl
  simp [funA_run, a_echo_Echo_Quiet, h.get, h.f14, echo_is h.get h.f0]
theorem echo_Hits {S : St} {X L : Nat} {e : Nat → Value} {a m : Nat} {pt : Nat → Int} (h : EchoAt S X L e a m pt) : cs n_echo_Echo_Hits [.pointer (some ⟨X, 0, none⟩)] S = some (.int .i64 a, S) := by
  apply csE is_echo_Echo_Hits rfl rfl
  simp [funA_run, a_echo_Echo_Hits, h.get, h.f16, echo_is h.get h.f0]
theorem echo_Misses {S : St} {X L : Nat} {e : Nat → Value} {a m : Nat} {pt : Nat → Int} (h : EchoAt S X L e a m pt) : cs n_echo_Echo_Misses [.pointer (some ⟨X, 0, none⟩)] S = some (.int .i64 0, S) := by
  apply csE is_echo_Echo_Misses rfl rfl
  simp [funA_run, a_echo_Echo_Misses, h.get, h.f17, echo_is h.get h.f0]

theorem clone_guess {S : St} (hw : S.base ≤ S.cnt) {n off len cap : Nat} {l : List Value} (hl : 0 < len) (hsm : len ≤ 1000000) (hr : rowAt S n off (len * 4) = some l) (hn : n < S.cnt) (ho : ones l = true) :
    cs n_slices_Clone_echo_Guess_echo_Guess [.slice (some ⟨n, off, none⟩) len cap] S = some (.slice (some ⟨S.cnt + 1, 0, none⟩) len capx, (S.push (.cells [] t_echo_Guess 0 false)).push (.cells l t_echo_Guess 4 false)) := by
  have hpush : (S.push (.cells [] t_echo_Guess 0 false)).get S.cnt = some (.cells [] t_echo_Guess 0 false) := by rw [St.get_push _ _ _ hw, if_pos rfl]
  have hr' : rowAt (S.push (.cells [] t_echo_Guess 0 false)) n off (len * 4) = some l := by
    rw [← hr]; simp only [rowAt]; rw [St.get_push _ _ _ hw, if_neg (by omega)]
  apply csE is_slices_Clone_echo_Guess_echo_Guess rfl rfl
  have ha := appendV_fresh (S := S.push (.cells [] t_echo_Guess 0 false)) e_S_echo_Guess (by decide) (srcV_slice (cap := cap) e_S_echo_Guess hl hr' ho) hl (by omega) hpush
  have hc : (S.push (.cells [] t_echo_Guess 0 false)).cnt = S.cnt + 1 := rfl
  rw [hc] at ha
  simp [funA_run, a_slices_Clone_echo_Guess_echo_Guess, binV, af, af1, eqV, buildSliceV_0 e_S_echo_Guess, ha]

theorem clone_guess_nil {S : St} : cs n_slices_Clone_echo_Guess_echo_Guess [.slice none 0 0] S = some (.slice none 0 0, S) := by
  apply csE is_slices_Clone_echo_Guess_echo_Guess rfl rfl
  simp [funA_run, a_slices_Clone_echo_Guess_echo_Guess, binV_slN u_S_echo_Guess]

theorem clone_guess_0 {S : St} (hw : S.base ≤ S.cnt) {n off cap : Nat} : cs n_slices_Clone_echo_Guess_echo_Guess [.slice (some ⟨n, off, none⟩) 0 cap] S = some (.slice (some ⟨S.cnt, 0, none⟩) 0 0, S.push (.cells [] t_echo_Guess 0 false)) := by
  apply csE is_slices_Clone_echo_Guess_echo_Guess rfl rfl
  have ha := appendV_same (S := S.push (.cells [] t_echo_Guess 0 false)) (m := S.cnt) (off := 0) (len := 0) (cap := 0) e_S_echo_Guess (srcV_empty (cap := cap) e_S_echo_Guess (a := ⟨n, off, none⟩) rfl) (Nat.le_refl _)
  simp [funA_run, a_slices_Clone_echo_Guess_echo_Guess, binV, af, af1, eqV, buildSliceV_0 e_S_echo_Guess, ha]

theorem echo_Guesses {S : St} {X L : Nat} {e : Nat → Value} {a m : Nat} {pt : Nat → Int} (h : EchoAt S X L e a m pt) (hm : m ≤ 1000) : Ok (cs n_echo_Echo_Guesses [.pointer (some ⟨X, 0, none⟩)] S) fun q => lenV q.1 = some (.int .i64 m) ∧ Stays S q.2 (fun _ => False) := by
  have hw : S.base ≤ S.cnt := Nat.le_of_lt (Nat.lt_of_le_of_lt h.b.1 h.b.2)
  apply csOk is_echo_Echo_Guesses rfl rfl
  by_cases h0 : m = 0
  · subst h0
    simp [funA_run, a_echo_Echo_Guesses, h.get, h.f11, echo_is h.get h.f0, slOf_0, clone_guess_nil]
    exact Stays.refl _ _
  · obtain ⟨a1, a2, a3, a4⟩ := h.tbl (by omega)
    have hl : (flat m fun j => gv pt (a + j)).length = m * 4 := flat_length fun _ _ => rfl
    have hc := clone_guess (S := S) (n := L) (off := 0) (len := m) (cap := capx) hw (by omega) (by omega) (by rw [rowAt_O, a1, rowO_cells (by omega), List.drop_zero, List.take_of_length_le (by omega)]) a3 (ones_flat fun _ _ => rfl)
    simp [funA_run, a_echo_Echo_Guesses, h.get, h.f11, echo_is h.get h.f0, slOf_pos L (show 0 < m by omega), hc]
    exact (Stays.push hw).trans (Stays.push (Nat.le_succ_of_le hw)) (fun _ _ q => q)

end Go.AM
