/- AmE1: which views may be. -/
import Derived.Test.YtdfimlepfaheeaaGreatAmT5
set_option linter.unusedVariables false
set_option linter.unusedSimpArgs false
namespace Go.AM

theorem opS_lenStr {P : Program} {ρ : Operand → Value} {S : St} {x : Operand} {t : Nat} {ty : Nat} {s : ByteArray} (hu : P.underlying t = some .string) (hx : ρ x = .string s) :
    opS P ρ ⟨none, .call ⟨.builtin .len, #[x], #[t]⟩, ty, "", #[], none⟩ S = some (.int .i64 s.size, S) := by
  have h5 : runPure P (Builtin.len_ #[t] ty #[.string s]) = some (.int .i64 s.size) := by
    show runPure P (Sem.bind (underlying t) _) = _
    exact runPure_bind (runPure_underlying hu) rfl
  have h4 : runPure P (execOp ρ ⟨none, .call ⟨.builtin .len, #[x], #[t]⟩, ty, "", #[], none⟩) = some (.value (.int .i64 s.size)) := by
    simp only [execOp, resolve, List.map_toArray, List.map, hx]
    exact runPure_bind (a := _) rfl (runPure_bind (a := .int .i64 s.size) h5 rfl)
  simp only [opS, builtinS, hu, hx]
  exact fallback_of (by simp [Op.operands, Call.operands, hx, af, af1]) h4 rfl
def lenW (P : Program) (t : Nat) (v : Value) (S : St) (o : Option (Value × St)) : Option (Value × St) :=
  match P.underlying t, v with
  | some .string, .string s => some (.int .i64 s.size, S)
  | _, _ => o
theorem lenW_str {P : Program} {t : Nat} (hu : P.underlying t = some .string) (s : ByteArray) (S : St) (o : Option (Value × St)) : lenW P t (.string s) S o = some (.int .i64 s.size, S) := by simp [lenW, hu]
@[simp] theorem gen_lenStr {P : Program} {ρ : Operand → Value} {S : St} (x : Operand) (t : Nat) (ty : Nat) : opS P ρ ⟨none, .call ⟨.builtin .len, #[x], #[t]⟩, ty, "", #[], none⟩ S = lenW P t (ρ x) S (opSk P ρ ⟨none, .call ⟨.builtin .len, #[x], #[t]⟩, ty, "", #[], none⟩ S) := by
  unfold lenW
  split
  · rename_i s hu h; exact opS_lenStr hu h
  · rfl
@[simp] theorem callV_func (cF : CF) (f : Nat) (args : List Value) (S : St) : callV cF (.func (.func f) #[] #[]) args S = cF f args S := by
  simp [callV]

def PtOk (p : Int) : Prop := 0 ≤ p ∧ p ≤ 1114111 ∧ (p < 55296 ∨ 57343 < p)
def ColOk (c : Int) : Prop := c = 0 ∨ (16777216 ≤ c ∧ c ≤ 16777471) ∨ (33554432 ≤ c ∧ c < 50331648)
structure CV.Ok' (c : CV) : Prop where
  p : PtOk c.p
  fg : ColOk c.fg
  bg : ColOk c.bg

theorem utf_Is {S : St} {p : Int} (h : PtOk p) : cs n_utf_Is [.int .i32 p] S = some (.bool true, S) := by
  obtain ⟨h1, h2, h3⟩ := h
  apply csE is_utf_Is rfl rfl
  by_cases h4 : p < 55296
  · simp [funA_run, a_utf_Is, h1, h2, h4]
  · have h5 : 57343 < p := by omega
    simp [funA_run, a_utf_Is, h1, h2, h4, h5]

theorem style_isColour {S : St} {c : Int} (h : ColOk c) : cs n_style_isColour [.int .u32 c] S = some (.bool true, S) := by
  apply csE is_style_isColour rfl rfl
  rcases h with h | ⟨h1, h2⟩ | ⟨h1, h2⟩
  · simp [funA_run, a_style_isColour, h]
  · have h0 : ¬ c = 0 := by omega
    simp [funA_run, a_style_isColour, h0, h1, h2]
  · have h0 : ¬ c = 0 := by omega
    have h3 : 16777216 ≤ c := by omega
    have h4 : ¬ c ≤ 16777471 := by omega
    simp [funA_run, a_style_isColour, h0, h1, h2, h3, h4]

theorem style_Right {S : St} (hw : S.base ≤ S.cnt) {fl fg bg : Int} (h1 : ColOk fg) (h2 : ColOk bg) : cs n_style_Right [.agg #[.int .u8 fl, .int .u32 fg, .int .u32 bg]] S = some (.bool true, S.push (.cells [.int .u8 fl, .int .u32 fg, .int .u32 bg] t_style_Style 0 false)) := by
  apply csE is_style_Right rfl rfl
  simp [funA_run, a_style_Right, hw, style_isColour h1, style_isColour h2]

theorem view_isCell {S : St} (hw : S.base ≤ S.cnt) {c : CV} (h : c.Ok') : Ok (cs n_view_isCell [c.agg] S) fun q => q.1 = .bool true ∧ Stays S q.2 (fun _ => False) := by
  have hw1 : S.base ≤ S.cnt + 1 := by omega
  apply csOk is_view_isCell rfl rfl
  simp [funA_run, a_view_isCell, CV.agg, CV.vals, hw, utf_Is h.p, style_Right, h.fg, h.bg, hw1]
  exact (Stays.push hw).trans (Stays.push hw1) (fun _ _ q => q)

theorem view_Right_1 {S : St} (hw : S.base ≤ S.cnt) {c : CV} (h : c.Ok') : Ok (cs n_view_Right_1 [c.agg] S) fun q => q.1 = .bool false ∧ Stays S q.2 (fun _ => False) := by
  have hw1 : S.base ≤ S.cnt + 1 := by omega
  have hs : Stays S (S.push (.cells c.vals t_grid_Cell 0 false)) (fun _ => False) := Stays.push hw
  have h1 := view_isCell (S := S.push (.cells c.vals t_grid_Cell 0 false)) hw1 h
  unfold CV.agg CV.vals at h1
  apply csOk is_view_Right_1 rfl rfl
  simp [funA_run, a_view_Right_1, CV.agg, CV.vals, hw]
  simp only [Ok_endR, Ok_seqR, Ok_blockR, Ok_opsR, Ok_runL, Ok_runPl, Ok_againR, Ok_putR, Ok_loopR]
  refine h1.mono ?_
  rintro ⟨v, S2⟩ ⟨rfl, h2⟩
  simp
  exact hs.trans h2 (fun _ _ q => q)

end Go.AM
