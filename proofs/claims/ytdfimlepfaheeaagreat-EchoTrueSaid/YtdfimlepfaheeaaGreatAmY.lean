/- AmY: arguments. -/
import Derived.Test.YtdfimlepfaheeaaGreatAmX
import Derived.Test.YtdfimlepfaheeaaGreatAmE8
import Derived.WalkKit
import Derived.ProofKit
import Derived.ChangeSlices
import Derived.Carry
set_option linter.unusedVariables false
set_option linter.unusedSimpArgs false
namespace Go.AM
open Go.ChangeShapes Go.WideShapes Go.ChangeAt Go.RowKit

theorem ofW_row {w : World} {b o : Nat} {v : Value} (hc : w.cell? ⟨b, o, none⟩ = some v) (hp : plainV w.heap.size v = true) (h1 : v.oneCell' = true) : b < w.heap.size ∧ rowO ((St.ofW w).get b) o 1 = some [v] := by
  unfold World.cell? at hc
  split at hc
  · rename_i cs e fr hb
    simp at hc
    have hlt : b < w.heap.size := by
      rcases Nat.lt_or_ge b w.heap.size with h | h
      · exact h
      · simp only at hb; rw [Array.getElem?_eq_none h] at hb; cases hb
    refine ⟨hlt, ?_⟩
    have ho : o < cs.size := by
      rcases Nat.lt_or_ge o cs.size with h | h
      · exact h
      · rw [Array.getElem?_eq_none h] at hc; cases hc
    have hrow : (((cs.toList.map fun v => if plainV w.heap.size v = true then v else .agg #[]).drop o).take 1) = [v] := by
      apply List.ext_getElem?
      intro j
      rcases j with _ | j
      · rw [List.getElem?_take_of_lt (by decide), List.getElem?_drop, List.getElem?_map, Nat.add_zero, Array.getElem?_toList, hc]
        simp [hp]
      · rw [List.getElem?_eq_none (by rw [List.length_take]; omega), List.getElem?_eq_none (by simp)]
    rw [St.ofW_get]
    simp only at hb
    rw [hb]
    simp only [oldO, rowO]
    rw [hrow, if_pos ⟨by simp; omega, by simp [h1]⟩]
  · cases hc

/-- A slice that is handed over. -/
theorem slice_plain {P : Program} {W : World} {base : Nat} {t e : TypeId} {v : Value} (ht : P.underlying t = some (.slice e)) (hval : Value.okWide P W .any base t v) :
    v = .slice none 0 0 ∨ ∃ b off len cap, v = .slice (some ⟨b, off, none⟩) len cap ∧ len ≤ cap ∧ cap < 2 ^ 63 ∧ b < W.heap.size ∧ plainV W.heap.size v = true := by
  obtain ⟨a, len, cap, rfl⟩ := okWide_slice ht hval
  cases a with
  | none =>
    left
    simp only [Value.okWide, ht, Cell.okWide, Cell.ok] at hval
    rcases len with _ | len <;> rcases cap with _ | cap <;> simp_all
  | some a =>
    right
    simp only [Value.okWide, ht, Cell.okWide, Cell.ok] at hval
    obtain ⟨h1, h2, h3, h4, row, cells, h5, h6⟩ := hval
    obtain ⟨b, off, spot⟩ := a
    simp only at h4 h5
    subst h4
    have hlt : b < W.heap.size := by
      unfold World.shape? at h5
      split at h5
      · rename_i cs e fr hb
        rcases Nat.lt_or_ge b W.heap.size with h | h
        · exact h
        · rw [Array.getElem?_eq_none h] at hb; cases hb
      · cases h5
    have h2' : cap < 2 ^ 63 := by
      have : IntKind.i64.max = 9223372036854775807 := by decide
      omega
    refine ⟨b, off, len, cap, rfl, h1, h2', hlt, ?_⟩
    simp only [plainV, Bool.and_eq_true, Nat.blt_eq]
    exact ⟨hlt, by unfold capx; omega⟩

/-- Bytes that are handed over. -/
theorem bytes_arg {H : Type} {enc : TypeId × Value → H} {P : Program} {W : World} {base : Nat} {t e : TypeId} {v : Value} {d : DataW H} {ps : List MemPlace} (ht : P.underlying t = some (.slice e)) (he : P.underlying e = some (.int .u8)) (hc : P.cellsOf e = 1)
    (hval : Value.okWide P W .any base t v) (hd : DataW.Trod enc P W 0 (fun _ => true) true t v d ps) : plainV W.heap.size v = true ∧ ∃ n b, Bytes (St.ofW W) v n b := by
  rcases slice_plain ht hval with rfl | ⟨b, off, len, cap, rfl, h1, h2, h3, h4⟩
  · exact ⟨rfl, 0, fun _ => 0, ⟨⟨none, 0, rfl, fun h => by omega⟩, fun i hi => by omega, by decide⟩⟩
  · refine ⟨h4, len, ?_⟩
    obtain ⟨fuel, hf⟩ := hd
    rcases open_ints ht he hc hf with ⟨q, _⟩ | ⟨a, len', cap', zs, q, _, _, _, hz, _, hcell, hwf⟩
    · simp [Value.cells] at q
    · simp [Value.cells] at q
      obtain ⟨rfl, rfl, rfl⟩ := q
      simp at hz
      refine ⟨fun i => zs.getD i 0, ⟨⟨some ⟨b, off, none⟩, cap, rfl, fun _ => ⟨b, off, rfl, h3, fun i hi => ?_⟩⟩, fun i hi => ?_, by omega⟩⟩
      · have hci := hcell i (by omega)
        have hadd : Addr.add ⟨b, off, none⟩ i = ⟨b, off + i, none⟩ := by
          unfold Addr.add
          split
          · rename_i h; subst h; rfl
          · rfl
        rw [hadd] at hci
        exact (ofW_row hci rfl rfl).2
      · have hm : zs.getD i 0 ∈ zs := by
          have hlt : i < zs.length := by omega
          rw [List.getD_eq_getElem?_getD, List.getElem?_eq_getElem hlt]
          exact List.getElem_mem hlt
        have := hwf _ hm
        simp only [Lit.wf, Bool.and_eq_true, decide_eq_true_eq] at this
        have e1 : IntKind.u8.min = 0 := by decide
        have e2 : IntKind.u8.max = 255 := by decide
        omega

end Go.AM
