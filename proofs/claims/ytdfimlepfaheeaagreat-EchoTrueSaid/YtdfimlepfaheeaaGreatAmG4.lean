/- AmG4: new grids. -/
import Derived.Test.YtdfimlepfaheeaaGreatAmG3
set_option linter.unusedVariables false
set_option linter.unusedSimpArgs false
namespace Go.AM

def cellR (a : Option Value) (b : Option (List Value)) : Option (List Value) := a.bind fun v => b.bind fun l => some (v :: l)
@[simp] theorem resA_cell {P : Program} (t ty : Nat) (rs : List ResultVar) (ρ : Rho) (S : St) : resA P (.cell t ty :: rs) ρ S = cellR (loadV P ty (ρ t) S) (resA P rs ρ S) := Eq.trans rfl rfl
@[simp] theorem cellR_some (v : Value) (b : Option (List Value)) : cellR (some v) b = consR v b := Eq.trans rfl rfl

theorem loadV_agg {P : Program} {t k n off : Nat} {S : St} (ha : aggO P t = some true) (hs : sizeO P t = some k) : loadV P t (.pointer (some ⟨n, off, none⟩)) S = (rowAt S n off k).map fun l => .agg l.toArray := by
  simp only [loadV, ha, hs]
theorem loadV_one {P : Program} {t k n off : Nat} {S : St} (ha : aggO P t = some false) (hs : sizeO P t = some k) : loadV P t (.pointer (some ⟨n, off, none⟩)) S = (rowAt S n off 1).bind fun l => l.head? := by
  simp only [loadV, ha, hs]

def CV.blank : CV := ⟨32, 0, 0, 0⟩

theorem b_blank : buildV pg t_grid_Cell [(0, .int .i32 32)] = some CV.blank.agg := by kernel_rfl

theorem grid_Blank {S : St} (hw : S.base ≤ S.cnt) : Ok (cs n_grid_Blank [] S) fun q => q.1 = CV.blank.agg ∧ Stays S q.2 (fun _ => False) := by
  have hpush : (S.push (.cells CV.zero.vals t_grid_Cell 0 false)).get S.cnt = some (.cells CV.zero.vals t_grid_Cell 0 false) := by rw [St.get_push _ _ _ hw, if_pos rfl]
  have hb : (S.push (.cells CV.zero.vals t_grid_Cell 0 false)).base ≤ S.cnt := hw
  have hst := storeKV_of (k := 4) (v := CV.blank.agg) (off := 0) rfl hb hpush (by decide) rfl
  have hput : putL CV.zero.vals 0 CV.blank.agg.cells.toList = CV.blank.vals := rfl
  rw [hput] at hst
  have hg : ((S.push (.cells CV.zero.vals t_grid_Cell 0 false)).set S.cnt (some (.cells CV.blank.vals t_grid_Cell 0 false))).get S.cnt = some (.cells CV.blank.vals t_grid_Cell 0 false) := by rw [St.get_set _ _ _ _ hb, if_pos rfl]
  have hrow : rowAt ((S.push (.cells CV.zero.vals t_grid_Cell 0 false)).set S.cnt (some (.cells CV.blank.vals t_grid_Cell 0 false))) S.cnt 0 4 = some CV.blank.vals := by rw [rowAt_of hg (by decide)]; rfl
  have hz : [Value.int .i32 0, .int .u8 0, .int .u32 0, .int .u32 0] = CV.zero.vals := rfl
  apply csOk is_grid_Blank rfl rfl
  simp [funA_run, a_grid_Blank, newRowV, b_blank, hz, hst, loadV_agg g_grid_Cell s_grid_Cell, hrow]
  refine ⟨rfl, ?_⟩
  refine ⟨rfl, Nat.le_succ _, fun a ha hA => ?_⟩
  rw [St.get_set _ _ _ _ hb, if_neg (by omega), St.get_push _ _ _ hw, if_neg (by omega)]

theorem grid_fits {S : St} (r c : Int) : cs n_grid_fits [.int .i64 r, .int .i64 c] S = some (.bool (decide (1 ≤ r ∧ r ≤ 12 ∧ 1 ≤ c ∧ c ≤ 40)), S) := by
  apply csE is_grid_fits rfl rfl
  by_cases h1 : 1 ≤ r <;> by_cases h2 : r ≤ 12 <;> by_cases h3 : 1 ≤ c <;> by_cases h4 : c ≤ 40 <;>
    simp [funA_run, a_grid_fits, h1, h2, h3, h4]

theorem appendV_grow {P : Program} {S : St} {t tx e k b : Nat} (he : elemOk P t e k b = true) (hk0 : k ≠ 0) {m len n : Nat} {x : Value} {c news : List Value} {st : Bool} (hm : S.base ≤ m) (hg : S.get m = some (.cells c e k st)) (hc : c.length = len * k) (hs : srcV P tx k x S = some (n, news)) (hn : 0 < n)
    (hsm : (2 * (len + n) + 256) * b ≤ 2 ^ 48 ∧ len + n < 2 ^ 60) (ho : ones news = true) (hoc : ones c = true) :
    appendV P t tx (.slice (some ⟨m, 0, none⟩) len capx) x S = some (.slice (some ⟨S.cnt, 0, none⟩) (len + n) capx, (S.set m none).push (.cells (c ++ news) e k st)) := by
  obtain ⟨hu, i, z, hi, hz, hk, hby, hzs, haf⟩ := elemOk_of he
  subst hk hby
  have h1 : ¬ (len + n) * i.size ≤ len * i.size := by
    have : 0 < i.size := by omega
    have := Nat.mul_lt_mul_of_pos_right (show len < len + n by omega) this
    omega
  simp [appendV, hu, hi, hz, hzs, haf, hs, Nat.ne_of_gt hn, hg, Nat.not_lt.mpr hm, hc, h1, hk0, ho, hoc, hsm]

end Go.AM
