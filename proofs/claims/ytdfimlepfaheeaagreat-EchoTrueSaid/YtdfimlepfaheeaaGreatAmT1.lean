/- AmT1: what readers and parsers come to. -/
import Derived.Test.YtdfimlepfaheeaaGreatAmQ
import Derived.Test.YtdfimlepfaheeaaGreatAmG6
set_option linter.unusedVariables false
set_option linter.unusedSimpArgs false
namespace Go.AM

def rdr0 : AObj := .cells [.bool true, .int .i32 0, .int .i64 0, .int .i64 0, .int .u8 0, .int .u8 0] t_utf_Reader 0 false
theorem b_Reader : buildV pg t_utf_Reader [(0, .bool true)] = some (.agg #[.bool true, .int .i32 0, .int .i64 0, .int .i64 0, .int .u8 0, .int .u8 0]) := by kernel_rfl
theorem utf_New (S : St) : cs n_utf_New [] S = some (.pointer (some ⟨S.cnt, 0, none⟩), S.push rdr0) := by
  apply csE is_utf_New rfl rfl
  simp [funA_run, a_utf_New, b_Reader, newRowV, rdr0]

def parsO (out : Value) : AObj := .cells [.bool true, .int .i64 0, .int .i64 0, .int .i32 0, .int .u8 0, .int .u8 0, .int .u8 0, .slice none 0 0, .string .empty, .bool false, .bool false, .bool false, .slice none 0 0, out] t_ansi_Parser 0 false
def pars0 : AObj := parsO (.slice none 0 0)
theorem b_Parser : buildV pg t_ansi_Parser [(0, .bool true)] = some (.agg #[.bool true, .int .i64 0, .int .i64 0, .int .i32 0, .int .u8 0, .int .u8 0, .int .u8 0, .slice none 0 0, .string .empty, .bool false, .bool false, .bool false, .slice none 0 0, .slice none 0 0]) := by kernel_rfl
theorem ansi_New (S : St) : cs n_ansi_New [] S = some (.pointer (some ⟨S.cnt, 0, none⟩), S.push pars0) := by
  apply csE is_ansi_New rfl rfl
  simp [funA_run, a_ansi_New, b_Parser, newRowV, pars0, parsO]

theorem b_Event0 : buildV pg t_ansi_Event [] = some (.agg #[.int .i64 0, .int .i32 0, .int .u8 0, .int .u8 0, .int .u8 0, .slice none 0 0, .string .empty]) := by kernel_rfl
theorem b_Event1 (p : Int) : buildV pg t_ansi_Event [(0, .int .i64 1), (1, .int .i32 p)] = some (.agg #[.int .i64 1, .int .i32 p, .int .u8 0, .int .u8 0, .int .u8 0, .slice none 0 0, .string .empty]) := by kernel_rfl

theorem ansi_enter {S : St} {p : Nat} (hb : S.base ≤ p) {out : Value} (h : S.get p = some (parsO out)) : cs n_ansi_Parser_enter [.pointer (some ⟨p, 0, none⟩), .int .i64 0] S = some (.tuple #[], S.set p (some (parsO out))) := by
  unfold parsO at h ⊢
  apply csE is_ansi_Parser_enter rfl rfl
  simp [funA_run, a_ansi_Parser_enter, b_Event0, hb, h, putL]

/-- One byte below 128 is read as itself. -/
theorem utf_Read {S : St} {r n off cap : Nat} {k : Int} (hw : S.base ≤ S.cnt) (hr : S.get r = some rdr0) (hrow : rowO (S.get n) off 1 = some [.int .u8 k]) (hk : 0 ≤ k ∧ k < 128) :
    cs n_utf_Reader_Read [.pointer (some ⟨r, 0, none⟩), .slice (some ⟨n, off, none⟩) 1 cap] S = some (.tuple #[.slice (some ⟨S.cnt + 1, 0, none⟩) 1 capx, .int .i64 0],
      (S.push (.cells [.int .i32 k] t_int32 0 false)).push (.cells [.int .i32 k] t_int32 1 false)) := by
  unfold rdr0 at hr
  have w1 : IntKind.wrap .i32 k = k := IntWalk.i32_in _ (by omega)
  have hbs := buildSliceV_1 (S := S) (v := .int .i32 k) e_S_int32 (by decide) rfl
  simp at hbs
  have hrow2 : rowAt (S.push (.cells [.int .i32 k] t_int32 0 false)) S.cnt 0 (1 * 1) = some [.int .i32 k] := by rw [rowAt_O, St.get_push _ _ _ hw, if_pos rfl]; rfl
  have ha := appendV_nil (S := S.push (.cells [.int .i32 k] t_int32 0 false)) (tx := t_S_int32) e_S_int32 (by decide) (srcV_slice (cap := 1) e_S_int32 (by decide) hrow2 rfl) (by decide) (by decide)
  simp at ha
  apply csE is_utf_Reader_Read rfl rfl
  simp [funA_run, a_utf_Reader_Read, hr]
  rw [loopA_step]
  have w2 : IntKind.wrap .i64 1 = 1 := by decide
  simp [hr, idxSV_ok, hrow, hk.2, convW_int u_uint8 u_int32, w1, hbs, ha]
  rw [loopA_step]
  simp [w2]

def evL (k : Int) : List Value := [.int .i64 1, .int .i32 k, .int .u8 0, .int .u8 0, .int .u8 0, .slice none 0 0, .string .empty]

theorem ansi_take {S : St} {p : Nat} {k : Int} (hw : S.base ≤ S.cnt) (hb : S.base ≤ p) (hp : p < S.cnt) (h : S.get p = some pars0) (hk : 32 ≤ k ∧ k < 127) :
    cs n_ansi_Parser_take [.pointer (some ⟨p, 0, none⟩), .int .i32 k] S = some (.tuple #[], (((S.set p (some pars0)).push (.cells (evL k) t_ansi_Event 0 false)).push (.cells (evL k) t_ansi_Event 7 false)).set p (some (parsO (.slice (some ⟨S.cnt + 1, 0, none⟩) 1 capx)))) := by
  have h0 := ansi_enter hb (out := .slice none 0 0) h
  have hbs := buildSliceV_1 (S := S.set p (some (parsO (.slice none 0 0)))) (v := .agg (evL k).toArray) e_S_ansi_Event (by decide) rfl
  have hw1 : (S.set p (some (parsO (.slice none 0 0)))).base ≤ (S.set p (some (parsO (.slice none 0 0)))).cnt := hw
  have hrow2 : rowAt ((S.set p (some (parsO (.slice none 0 0)))).push (.cells (evL k) t_ansi_Event 0 false)) S.cnt 0 (1 * 7) = some (evL k) := by rw [rowAt_O, St.get_push _ _ _ hw1, if_pos (show S.cnt = (S.set p (some (parsO (.slice none 0 0)))).cnt from rfl)]; rfl
  have ha := appendV_nil (S := (S.set p (some (parsO (.slice none 0 0)))).push (.cells (evL k) t_ansi_Event 0 false)) (tx := t_S_ansi_Event) e_S_ansi_Event (by decide) (srcV_slice (cap := 1) e_S_ansi_Event (by decide) hrow2 rfl) (by decide) (by decide)
  have n1 : ¬ k = 24 := by omega
  have n2 : ¬ k = 26 := by omega
  have n3 : ¬ k = 127 := by omega
  have n4 : ¬ k = 27 := by omega
  have n5 : ¬ k < 32 := by omega
  have n6 : ¬ p = S.cnt := by omega
  have n7 : ¬ p = S.cnt + 1 := by omega
  have hw2 : S.base ≤ S.cnt + 1 := by omega
  unfold pars0 parsO at *
  simp [evL] at hbs ha ⊢
  apply csE is_ansi_Parser_take rfl rfl
  simp [funA_run, a_ansi_Parser_take, h, h0, hb, n1, n2, n3, n4, n5, n6, n7, hw, hw2, hbs, ha, b_Event1, putL]

theorem Stays.again {S : St} {p : Nat} {a b : Option AObj} (hb : S.base ≤ p) (h : S.get p = b) : Stays S ((S.set p a).set p b) (fun _ => False) :=
  ⟨rfl, Nat.le_refl _, fun n hn _ => by
    rw [St.set_set, St.get_set _ _ _ _ hb]; split
    · rename_i e; rw [e, h]
    · rfl⟩

theorem ansi_Feed {S : St} {p n off cap : Nat} {k : Int} (hw : S.base ≤ S.cnt) (hb : S.base ≤ p) (hp : p < S.cnt) (h : S.get p = some pars0) (hrow : rowO (S.get n) off 1 = some [.int .i32 k]) (hnp : n ≠ p) (hk : 32 ≤ k ∧ k < 127) :
    Ok (cs n_ansi_Parser_Feed [.pointer (some ⟨p, 0, none⟩), .slice (some ⟨n, off, none⟩) 1 cap] S) fun q => q.1 = .tuple #[.slice (some ⟨S.cnt + 1, 0, none⟩) 1 capx, .int .i64 0] ∧ q.2.get (S.cnt + 1) = some (.cells (evL k) t_ansi_Event 7 false) ∧ Stays S q.2 (fun _ => False) ∧ q.2.cnt = S.cnt + 2 := by
  have h0 : (S.set p (some pars0)).get p = some pars0 := by rw [St.get_set _ _ _ _ hb, if_pos rfl]
  have ht := ansi_take (S := S.set p (some pars0)) hw hb hp h0 hk
  have n1 : ¬ k < 0 := by omega
  have n2 : ¬ 1114111 < k := by omega
  have n3 : ¬ 55296 ≤ k := by omega
  have n6 : ¬ p = S.cnt := by omega
  have n7 : ¬ p = S.cnt + 1 := by omega
  have hw2 : S.base ≤ S.cnt + 1 := by omega
  have w2 : IntKind.wrap .i64 1 = 1 := by decide
  unfold pars0 parsO at *
  apply csOk is_ansi_Parser_Feed rfl rfl
  simp [funA_run, a_ansi_Parser_Feed, h, hb, putL]
  rw [loopA_step]
  simp at ht
  simp [hb, hrow, hnp, idxSV_ok, n1, n2, n3, ht]
  rw [loopA_step]
  simp [w2, hb, hw, hw2, n6, n7, putL]
  refine ⟨by omega, rfl, Nat.le_trans (Nat.le_succ _) (Nat.le_succ _), fun m hm _ => ?_⟩
  have m1 : ¬ m = S.cnt := by omega
  have m2 : ¬ m = S.cnt + 1 := by omega
  by_cases e : m = p
  · subst e; simp [hb, hw, hw2, h]
  · simp [hb, hw, hw2, e, m1, m2]

end Go.AM
