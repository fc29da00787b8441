/- AmE6: echoes: what is shown; new ones. -/
import Derived.Test.YtdfimlepfaheeaaGreatAmE5
set_option linter.unusedVariables false
set_option linter.unusedSimpArgs false
namespace Go.AM

theorem opS_binPure {P : Program} {ρ : Operand → Value} {S : St} {op : BinOp} {t yt ty : TypeId} {x y : Operand} {a b v : Value} (hx : ρ x = a) (hy : ρ y = b) (ha : af a = true) (hb : af b = true) (hg : eqGuard op t x y a b = Pure.pure ()) (hu : runPure P (Go.binOp op t a b) = some v) (hv : af v = true) :
    opS P ρ ⟨none, .binOp op t x y yt, ty, "", #[], none⟩ S = some (v, S) := by
  have h4 : runPure P (execOp ρ ⟨none, .binOp op t x y yt, ty, "", #[], none⟩) = some (.value v) := by
    simp only [execOp, hx, hy, hg]
    show runPure P (Sem.bind (Sem.bind (Sem.pure ()) _) _) = _
    simp only [Sem.bind]
    generalize Go.binOp op t a b = s at hu
    induction s with
    | pure b => simp [runPure] at hu; subst hu; rfl
    | program k ih => exact ih P (by simpa [runPure] using hu)
    | _ => simp [runPure] at hu
  simp only [opS]
  rw [hx, hy, if_pos (by rw [ha, hb]; rfl)]
  simp [fallback, Op.operands, h4, hv, hx, hy, ha, hb]

def andI (k : IntKind) (a b : Int) : Int := k.wrap ((BitVec.ofInt k.bits a &&& BitVec.ofInt k.bits b).toNat : Nat)
def orI (k : IntKind) (a b : Int) : Int := k.wrap ((BitVec.ofInt k.bits a ||| BitVec.ofInt k.bits b).toNat : Nat)
def bitW (op : BinOp) (u v : Value) (S : St) (o : Option (Value × St)) : Option (Value × St) :=
  match op, u, v with
  | .and, .int k a, .int k' b => if k = k' then some (.int k (andI k a b), S) else o
  | .or, .int k a, .int k' b => if k = k' then some (.int k (orI k a b), S) else o
  | _, _, _ => o
@[simp] theorem bitW_and (k : IntKind) (a b : Int) (S : St) (o : Option (Value × St)) : bitW .and (.int k a) (.int k b) S o = some (.int k (andI k a b), S) := by simp [bitW]
@[simp] theorem bitW_or (k : IntKind) (a b : Int) (S : St) (o : Option (Value × St)) : bitW .or (.int k a) (.int k b) S o = some (.int k (orI k a b), S) := by simp [bitW]
@[simp] theorem gen_binOp {P : Program} {ρ : Operand → Value} {S : St} (op : BinOp) (t yt ty : Nat) (x y : Operand) : opS P ρ ⟨none, .binOp op t x y yt, ty, "", #[], none⟩ S = bitW op (ρ x) (ρ y) S (opSk P ρ ⟨none, .binOp op t x y yt, ty, "", #[], none⟩ S) := by
  unfold bitW
  split
  · rename_i k a k' b hx hy
    split
    · rename_i hk; subst hk
      exact opS_binPure hx hy rfl rfl (by unfold eqGuard; rfl) (by simp [Go.binOp, Op.intBits, runPure, andI]; rfl) rfl
    · rfl
  · rename_i k a k' b hx hy
    split
    · rename_i hk; subst hk
      exact opS_binPure hx hy rfl rfl (by unfold eqGuard; rfl) (by simp [Go.binOp, Op.intBits, runPure, orI]; rfl) rfl
    · rfl
  · rfl

theorem andI_3 (a : Int) : 0 ≤ andI .u8 a 3 ∧ andI .u8 a 3 ≤ 3 := by
  have h : (BitVec.ofInt IntKind.u8.bits a &&& BitVec.ofInt IntKind.u8.bits 3).toNat ≤ 3 := by
    rw [BitVec.toNat_and]
    exact Nat.and_le_right
  unfold andI
  generalize (BitVec.ofInt IntKind.u8.bits a &&& BitVec.ofInt IntKind.u8.bits 3).toNat = n at h
  rw [IntWalk.u8_in _ (by omega)]
  omega
theorem orI_08 : orI .u8 0 8 = 8 := by decide

@[simp] theorem St.push_setQ {S : St} {n : Nat} (a b : AObj) (h : n = S.cnt) : (S.push a).set n (some b) = S.push b := by subst h; exact St.push_set S a b

/-! ## One cell of a row of cells -/

theorem flat_get4 {N : Nat} {f : Nat → List Value} (hf : ∀ i, i < N → (f i).length = 4) {k d : Nat} (hk : k < N) (hd : d < 4) : (flat N f)[k * 4 + d]? = (f k)[d]? := by
  have h := flat_row hf hk
  have h2 : (((flat N f).drop (k * 4)).take 4)[d]? = (f k)[d]? := by rw [h]
  rw [List.getElem?_take_of_lt hd, List.getElem?_drop] at h2
  exact h2
theorem flat_set {N idx e : Nat} {f : Nat → List Value} (hf : ∀ i, i < N → (f i).length = 4) (hi : idx < N) (he : e < 4) (x : Value) : putL (flat N f) (idx * 4 + e) [x] = flat N fun k => if k = idx then (f k).set e x else f k := by
  have hl : (flat N f).length = N * 4 := flat_length hf
  have hf' : ∀ i, i < N → (if i = idx then (f i).set e x else f i).length = 4 := fun i h => by split <;> simp [hf i h]
  have hl' : (flat N fun k => if k = idx then (f k).set e x else f k).length = N * 4 := flat_length hf'
  apply List.ext_getElem?
  intro i
  have hp : idx * 4 + e + [x].length ≤ (flat N f).length := by rw [hl]; simp; omega
  by_cases hi2 : i < N * 4
  · obtain ⟨k, d, rfl, hd⟩ : ∃ k d, i = k * 4 + d ∧ d < 4 := ⟨i / 4, i % 4, by omega, by omega⟩
    have hk : k < N := by omega
    rw [putL_get _ _ _ hp, flat_get4 hf hk hd, flat_get4 hf' hk hd]
    by_cases hke : k = idx
    · subst hke
      by_cases hde : d = e
      · subst hde
        have := hf k hk
        have hx : [x].length = 1 := rfl
        rw [if_pos (by omega), if_pos rfl, Nat.sub_self, List.getElem?_set_self (by omega)]
        rfl
      · rw [if_neg (by simp; omega), if_pos rfl, List.getElem?_set_ne (by omega)]
    · rw [if_neg (by simp; omega), if_neg hke]
  · rw [List.getElem?_eq_none (by rw [putL_length _ _ _ hp, hl]; omega), List.getElem?_eq_none (by rw [hl']; omega)]
def CV.setP (c : CV) (p : Int) : CV := ⟨p, c.fl, c.fg, c.bg⟩
def CV.setFl (c : CV) (x : Int) : CV := ⟨c.p, x, c.fg, c.bg⟩
theorem putL_p {N idx : Nat} {f : Nat → CV} (hi : idx < N) (p : Int) : putL (flat N fun k => (f k).vals) (idx * 4) [.int .i32 p] = flat N fun k => (if k = idx then (f k).setP p else f k).vals := by
  have := flat_set (e := 0) (f := fun k => (f k).vals) (fun _ _ => rfl) hi (by decide) (.int .i32 p)
  rw [Nat.add_zero] at this
  rw [this]
  exact flat_congr fun k _ => by split <;> rfl
theorem putL_fl {N idx : Nat} {f : Nat → CV} (hi : idx < N) (x : Int) : putL (flat N fun k => (f k).vals) (idx * 4 + 1) [.int .u8 x] = flat N fun k => (if k = idx then (f k).setFl x else f k).vals := by
  rw [flat_set (e := 1) (f := fun k => (f k).vals) (fun _ _ => rfl) hi (by decide) (.int .u8 x)]
  exact flat_congr fun k _ => by split <;> rfl
theorem rowO_fl {N idx : Nat} {f : Nat → CV} {T g : Nat} {s : Bool} (hi : idx < N) : rowO (some (.cells (flat N fun k => (f k).vals) T g s)) (idx * 4 + 1) 1 = some [.int .u8 (f idx).fl] := by
  have hl : (flat N fun k => (f k).vals).length = N * 4 := flat_length fun _ _ => rfl
  rw [rowO_cells (by omega)]
  have h := flat_get4 (f := fun k => (f k).vals) (fun _ _ => rfl) hi (d := 1) (by decide)
  congr 1
  apply List.ext_getElem?
  intro j
  rcases j with _ | j
  · rw [List.getElem?_take_of_lt (by decide), List.getElem?_drop, Nat.add_zero, h]; rfl
  · rw [List.getElem?_eq_none (by rw [List.length_take]; omega), List.getElem?_eq_none (by simp)]
theorem rowO_p {N idx : Nat} {f : Nat → CV} {T g : Nat} {s : Bool} (hi : idx < N) : rowO (some (.cells (flat N fun k => (f k).vals) T g s)) (idx * 4) 1 = some [.int .i32 (f idx).p] := by
  have hl : (flat N fun k => (f k).vals).length = N * 4 := flat_length fun _ _ => rfl
  rw [rowO_cells (by omega)]
  have h := flat_get4 (f := fun k => (f k).vals) (fun _ _ => rfl) hi (d := 0) (by decide)
  congr 1
  apply List.ext_getElem?
  intro j
  rcases j with _ | j
  · rw [List.getElem?_take_of_lt (by decide), List.getElem?_drop, h]; rfl
  · rw [List.getElem?_eq_none (by rw [List.length_take]; omega), List.getElem?_eq_none (by simp)]

end Go.AM
