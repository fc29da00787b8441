/- AmE8: IT COMES TRUE. -/
import Derived.Test.YtdfimlepfaheeaaGreatAmE7
set_option linter.unusedVariables false
set_option linter.unusedSimpArgs false
namespace Go.AM

/-- Bytes that are handed over. -/
structure Bytes (S : St) (v : Value) (n : Nat) (b : Nat → Int) : Prop where
  val : ∃ a c, v = .slice a n c ∧ (0 < n → ∃ m off, a = some ⟨m, off, none⟩ ∧ m < S.base ∧ ∀ i, i < n → rowO (S.get m) (off + i) 1 = some [.int .u8 (b i)])
  byte : ∀ i, i < n → 0 ≤ b i ∧ b i < 256
  small : n < 2 ^ 63

theorem Bytes.stays {S S' : St} {v : Value} {n : Nat} {b : Nat → Int} {A : Nat → Prop} (h : Bytes S v n b) (hw : S.base ≤ S.cnt) (hs : Stays S S' A) (hA : ∀ m, m < S.base → ¬ A m) : Bytes S' v n b where
  val := by
    obtain ⟨a, c, h1, h2⟩ := h.val
    refine ⟨a, c, h1, fun hp => ?_⟩
    obtain ⟨m, off, h3, h4, h5⟩ := h2 hp
    exact ⟨m, off, h3, by rw [hs.base]; exact h4, fun i hi => by rw [hs.get m (Nat.lt_of_lt_of_le h4 hw) (hA m h4)]; exact h5 i hi⟩
  byte := h.byte
  small := h.small

theorem Bytes.len {S : St} {v : Value} {n : Nat} {b : Nat → Int} (h : Bytes S v n b) : lenV v = some (.int .i64 n) := by
  obtain ⟨a, c, h1, h2⟩ := h.val
  subst h1; rfl
theorem Bytes.idx {S : St} {v : Value} {n : Nat} {b : Nat → Int} (h : Bytes S v n b) {i : Nat} (hi : i < n) : ∃ m off, idxSV 1 v (.int .i64 (i : Int)) = some (.pointer (some ⟨m, off, none⟩)) ∧ rowO (S.get m) off 1 = some [.int .u8 (b i)] := by
  obtain ⟨a, c, h1, h2⟩ := h.val
  obtain ⟨m, off, h3, h4, h5⟩ := h2 (by omega)
  subst h1 h3
  exact ⟨m, off + i, by rw [idxSV_ok (by omega) (by omega)]; simp, h5 i hi⟩

def keyOf (b : Int) : Int := 32 + b.tmod 95
theorem keyOf_b {b : Int} (h : 0 ≤ b) : 32 ≤ keyOf b ∧ keyOf b < 127 := by
  unfold keyOf
  have h1 := Int.tmod_nonneg 95 h
  have h2 := Int.tmod_lt_of_pos b (show (0 : Int) < 95 by decide)
  omega

theorem alive_hook (S : St) : cs n_law35_alive [] S = some (.bool true, S) := by
  unfold cs
  exact callS_hook (k := fun args S => match args with | [] => some (.bool true, S) | _ => none) rfl rfl

/-- A key more. -/
theorem append_key {S5 : St} {i K b : Nat} {key : Nat → Int} (hw : S5.base ≤ S5.cnt) (hi : i ≤ 1000) (hK : 0 < i → S5.get K = some (.cells (flat i fun j => [.int .u8 (key j)]) t_uint8 1 false) ∧ S5.base ≤ K ∧ K < S5.cnt)
    (hb : S5.get b = some (.cells [.int .u8 (key i)] t_uint8 0 false)) :
    ∃ S6, appendV pg t_S_uint8 t_S_uint8 (slOf K i) (.slice (some ⟨b, 0, none⟩) 1 1) S5 = some (.slice (some ⟨S5.cnt, 0, none⟩) (i + 1) capx, S6) ∧
      S6.get S5.cnt = some (.cells (flat (i + 1) fun j => [.int .u8 (key j)]) t_uint8 1 false) ∧ S6.cnt = S5.cnt + 1 ∧ S6.base = S5.base ∧ ∀ x, x < S5.cnt → (0 < i → x ≠ K) → S6.get x = S5.get x := by
  have hsrc : srcV pg t_S_uint8 1 (.slice (some ⟨b, 0, none⟩) 1 1) S5 = some (1, [.int .u8 (key i)]) :=
    srcV_slice e_S_uint8 (by decide) (by rw [rowAt_O, hb]; rfl) rfl
  by_cases h0 : i = 0
  · subst h0
    have ha := appendV_nil (S := S5) (tx := t_S_uint8) e_S_uint8 (by decide) hsrc (by decide) (by decide)
    refine ⟨S5.push (.cells [.int .u8 (key 0)] t_uint8 1 false), ?_, ?_, rfl, rfl, fun x hx _ => ?_⟩
    · rw [slOf_0]; exact ha
    · rw [St.get_push _ _ _ hw, if_pos rfl]; rfl
    · rw [St.get_push _ _ _ hw, if_neg (by omega)]
  · obtain ⟨h1, h2, h3⟩ := hK (by omega)
    rw [slOf_pos K (by omega)]
    have hl : (flat i fun j => [Value.int .u8 (key j)]).length = i * 1 := flat_length fun _ _ => rfl
    have ha := appendV_grow e_S_uint8 (by decide) h2 h1 hl hsrc (by decide) (by omega) rfl (ones_flat fun _ _ => rfl)
    refine ⟨(S5.set K none).push (.cells ((flat i fun j => [Value.int .u8 (key j)]) ++ [.int .u8 (key i)]) t_uint8 1 false), ha, ?_, rfl, rfl, fun x hx hne => ?_⟩
    · rw [show S5.cnt = (S5.set K none).cnt from rfl, St.get_push _ _ _ (show (S5.set K none).base ≤ (S5.set K none).cnt from hw), if_pos rfl]
      rfl
    · rw [St.get_push _ _ _ (show (S5.set K none).base ≤ (S5.set K none).cnt from hw), if_neg (by show x ≠ S5.cnt; omega), St.get_set _ _ _ _ h2, if_neg (hne (by omega))]

/-- What the terminal's cells are behind so many keys. -/
def cellF (key : Nat → Int) (took : Nat) (i j : Nat) : CV := if i = 0 ∧ j < took then ⟨key j, 0, 0, 0⟩ else CV.blank

theorem cellF_0 (key : Nat → Int) : cellF key 0 = blankG := by
  funext i j; unfold cellF; rw [if_neg (by omega)]
theorem cellF_step (key : Nat → Int) (took : Nat) : (fun i j => if i = 0 ∧ j = took then (⟨key took, 0, 0, 0⟩ : CV) else cellF key took i j) = cellF key (took + 1) := by
  funext i j
  unfold cellF
  by_cases h0 : i = 0
  · by_cases h1 : j = took
    · subst h1; rw [if_pos ⟨h0, rfl⟩, if_pos ⟨h0, by omega⟩]
    · rw [if_neg (by omega)]
      by_cases h2 : j < took
      · rw [if_pos ⟨h0, h2⟩, if_pos ⟨h0, by omega⟩]
      · rw [if_neg (by omega), if_neg (by omega)]
  · rw [if_neg (by omega), if_neg (by omega), if_neg (by omega)]

theorem cellF_ok {key : Nat → Int} {took cols : Nat} (hk : ∀ i, i < took → 32 ≤ key i ∧ key i < 127) (k : Nat) : (cellsAt cols (cellF key took) k).Ok' ∧ (cellsAt cols (cellF key took) k).fl = 0 := by
  unfold cellsAt cellF
  split
  · rename_i h
    have := hk _ h.2
    exact ⟨⟨⟨by show 0 ≤ key _; omega, by show key _ ≤ _; omega, Or.inl (by show key _ < _; omega)⟩, Or.inl rfl, Or.inl rfl⟩, rfl⟩
  · exact ⟨⟨⟨by decide, by decide, Or.inl (by decide)⟩, Or.inl rfl, Or.inl rfl⟩, rfl⟩
theorem cellF_p {key : Nat → Int} {took cols k : Nat} (hk : k < cols) (h : k < took) : (cellsAt cols (cellF key took) k).p = key k := by
  unfold cellsAt cellF
  rw [Nat.div_eq_of_lt hk, Nat.mod_eq_of_lt hk, if_pos ⟨rfl, h⟩]

/-- One key of the keys. -/
theorem key_slice {S : St} {K nk i : Nat} {key : Nat → Int} (hK : S.get K = some (.cells (flat nk fun j => [.int .u8 (key j)]) t_uint8 1 false)) (hi : i < nk) :
    sliceV pg t_S_uint8 (.slice (some ⟨K, 0, none⟩) nk capx) (some (.int .i64 (i : Int))) (some (.int .i64 ((i : Int) + 1))) none S = some (.slice (some ⟨K, i, none⟩) 1 capx) := by
  have h := sliceV_open (S := S) (n := K) (off := 0) (len := nk) (lo := some (.int .i64 (i : Int))) (hi := some (.int .i64 ((i + 1 : Nat) : Int))) e_S_uint8 (boundV_nat .i64 i) (boundV_nat .i64 (i + 1)) hK (by decide) (by simp; omega)
  simpa using h
theorem key_row {S : St} {K nk i : Nat} {key : Nat → Int} (hK : S.get K = some (.cells (flat nk fun j => [.int .u8 (key j)]) t_uint8 1 false)) (hi : i < nk) : rowO (S.get K) i 1 = some [.int .u8 (key i)] := by
  have := rowO_flat (k := 1) (f := fun j => [Value.int .u8 (key j)]) hK (fun _ _ => rfl) hi
  simpa using this
theorem key_idx {K nk i : Nat} (hi : i < nk) : idxSV 1 (.slice (some ⟨K, 0, none⟩) nk capx) (.int .i64 (i : Int)) = some (.pointer (some ⟨K, i, none⟩)) := by
  rw [idxSV_ok (by omega) (by omega)]; simp

end Go.AM
