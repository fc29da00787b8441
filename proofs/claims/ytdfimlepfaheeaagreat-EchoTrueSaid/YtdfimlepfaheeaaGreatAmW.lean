/- AmW: operations kept in the text's form. -/
import Derived.Test.YtdfimlepfaheeaaGreatAmU
set_option linter.unusedVariables false
set_option linter.unusedSimpArgs false
namespace Go.AM
section
variable {P : Program} {ρ : Operand → Value} {S : St}

theorem fallback_of {o : Oper} {v : Value} (h1 : (o.op.operands.toList.all fun x => af (ρ x)) = true) (h2 : runPure P (execOp ρ o) = some (.value v)) (h3 : af v = true) : fallback P ρ o S = some (v, S) := by
  simp [fallback, h2, h3]
  simpa using h1

theorem opS_min {x y : Operand} {ts : Array TypeId} {ty : Nat} {k : IntKind} {a b : Int} (hx : ρ x = .int k a) (hy : ρ y = .int k b) :
    opS P ρ ⟨none, .call ⟨.builtin .min, #[x, y], ts⟩, ty, "", #[], none⟩ S = some (.int k (if b < a then b else a), S) := by
  have h4 : runPure P (execOp ρ ⟨none, .call ⟨.builtin .min, #[x, y], ts⟩, ty, "", #[], none⟩) = some (.value (.int k (if b < a then b else a))) := by
    simp only [execOp, resolve, List.map_toArray, List.map, hx, hy]
    rfl
  simp only [opS, builtinS]
  exact fallback_of (by simp [Op.operands, Call.operands, hx, hy, af, af1]) h4 rfl
theorem opS_max {x y : Operand} {ts : Array TypeId} {ty : Nat} {k : IntKind} {a b : Int} (hx : ρ x = .int k a) (hy : ρ y = .int k b) :
    opS P ρ ⟨none, .call ⟨.builtin .max, #[x, y], ts⟩, ty, "", #[], none⟩ S = some (.int k (if b > a then b else a), S) := by
  have h4 : runPure P (execOp ρ ⟨none, .call ⟨.builtin .max, #[x, y], ts⟩, ty, "", #[], none⟩) = some (.value (.int k (if b > a then b else a))) := by
    simp only [execOp, resolve, List.map_toArray, List.map, hx, hy]
    rfl
  simp only [opS, builtinS]
  exact fallback_of (by simp [Op.operands, Call.operands, hx, hy, af, af1]) h4 rfl
/-- The operation, not to be looked into again. -/
def opSk (P : Program) (ρ : Operand → Value) (o : Oper) (S : St) : Option (Value × St) := opS P ρ o S

def minR (u v : Value) (S : St) (o : Option (Value × St)) : Option (Value × St) :=
  match u, v with
  | .int k a, .int k' b => if k = k' then some (.int k (if b < a then b else a), S) else o
  | _, _ => o
def maxR (u v : Value) (S : St) (o : Option (Value × St)) : Option (Value × St) :=
  match u, v with
  | .int k a, .int k' b => if k = k' then some (.int k (if b > a then b else a), S) else o
  | _, _ => o
@[simp] theorem minR_int (k : IntKind) (a b : Int) (o : Option (Value × St)) : minR (.int k a) (.int k b) S o = some (.int k (if b < a then b else a), S) := by simp [minR]
@[simp] theorem maxR_int (k : IntKind) (a b : Int) (o : Option (Value × St)) : maxR (.int k a) (.int k b) S o = some (.int k (if b > a then b else a), S) := by simp [maxR]
@[simp] theorem gen_min (x y : Operand) (ts : Array TypeId) (ty : Nat) : opS P ρ ⟨none, .call ⟨.builtin .min, #[x, y], ts⟩, ty, "", #[], none⟩ S = minR (ρ x) (ρ y) S (opSk P ρ ⟨none, .call ⟨.builtin .min, #[x, y], ts⟩, ty, "", #[], none⟩ S) := by
  unfold minR
  split
  · rename_i k a k' b hx hy
    split
    · rename_i hk; subst hk; exact opS_min hx hy
    · rfl
  · rfl
@[simp] theorem gen_max (x y : Operand) (ts : Array TypeId) (ty : Nat) : opS P ρ ⟨none, .call ⟨.builtin .max, #[x, y], ts⟩, ty, "", #[], none⟩ S = maxR (ρ x) (ρ y) S (opSk P ρ ⟨none, .call ⟨.builtin .max, #[x, y], ts⟩, ty, "", #[], none⟩ S) := by
  unfold maxR
  split
  · rename_i k a k' b hx hy
    split
    · rename_i hk; subst hk; exact opS_max hx hy
    · rfl
  · rfl

/-! ## Slices -/

def sliceW (P : Program) (t : TypeId) (v : Value) (lo hi mx : Option Value) (S : St) (o : Option (Value × St)) : Option (Value × St) :=
  match v with
  | .string _ => o
  | v => valR S (sliceV P t v lo hi mx S)
@[simp] theorem sliceW_slice (t : Nat) (a : Option Addr) (l c : Nat) (lo hi mx : Option Value) (o : Option (Value × St)) : sliceW P t (.slice a l c) lo hi mx S o = valR S (sliceV P t (.slice a l c) lo hi mx S) := Eq.trans rfl rfl
@[simp] theorem sliceW_ptr (t : Nat) (a : Option Addr) (lo hi mx : Option Value) (o : Option (Value × St)) : sliceW P t (.pointer a) lo hi mx S o = valR S (sliceV P t (.pointer a) lo hi mx S) := Eq.trans rfl rfl
@[simp] theorem gen_slice (t : Nat) (x : Operand) (lo hi mx : Option Operand) (ty : Nat) : opS P ρ ⟨none, .slice t x lo hi mx, ty, "", #[], none⟩ S = sliceW P t (ρ x) (lo.map ρ) (hi.map ρ) (mx.map ρ) S (opSk P ρ ⟨none, .slice t x lo hi mx, ty, "", #[], none⟩ S) := by
  unfold sliceW
  split
  · rfl
  · rename_i hv
    simp only [opS, valR]

@[simp] theorem boundV_none : boundV none = some none := rfl
@[simp] theorem boundV_nat (k : IntKind) (n : Nat) : boundV (some (.int k (n : Int))) = some (some n) := by simp [boundV]
@[simp] theorem boundV_0 (k : IntKind) : boundV (some (.int k 0)) = some (some 0) := by simp [boundV]
@[simp] theorem boundV_1 (k : IntKind) : boundV (some (.int k 1)) = some (some 1) := by simp [boundV]
theorem boundV_int {k : IntKind} {i : Int} (h : 0 ≤ i) : boundV (some (.int k i)) = some (some i.toNat) := by simp [boundV, h]

/-- A slice of a slice of known capacity. -/
theorem sliceV_known {t e k b : Nat} (he : elemOk P t e k b = true) {n off len cap : Nat} {lo hi mx : Option Value} {lo' hi' mx' : Option Nat} (h1 : boundV lo = some lo') (h2 : boundV hi = some hi') (h3 : boundV mx = some mx') (h4 : ¬ (mx'.isSome = true ∧ hi'.isNone = true)) (hc : cap ≠ capx)
    (hb : lo'.getD 0 ≤ hi'.getD len ∧ hi'.getD len ≤ mx'.getD cap ∧ mx'.getD cap ≤ cap ∧ len ≤ cap) :
    sliceV P t (.slice (some ⟨n, off, none⟩) len cap) lo hi mx S = some (cutS n off k (lo'.getD 0) (hi'.getD len) (mx'.getD cap)) := by
  obtain ⟨hu, i, z, hi', hz, hk, hby, hzs, haf⟩ := elemOk_of he
  have hs : sizeO P e = some k := by simp [sizeO, hi', hk]
  simp only [sliceV, h1, h2, h3, if_neg h4, hu, hs, if_neg hc, if_pos hb]
/-- A slice of one of unknown capacity, with no third bound. -/
theorem sliceV_open {t e k b : Nat} (he : elemOk P t e k b = true) {n off len : Nat} {lo hi : Option Value} {lo' hi' : Option Nat} (h1 : boundV lo = some lo') (h2 : boundV hi = some hi') {c : List Value} {T : Nat} {g : Bool} (hg : S.get n = some (.cells c T k g)) (hk0 : k ≠ 0)
    (hb : lo'.getD 0 ≤ hi'.getD len ∧ hi'.getD len ≤ len) :
    sliceV P t (.slice (some ⟨n, off, none⟩) len capx) lo hi none S = some (.slice (some ⟨n, off + lo'.getD 0 * k, none⟩) (hi'.getD len - lo'.getD 0) capx) := by
  obtain ⟨hu, i, z, hi', hz, hk, hby, hzs, haf⟩ := elemOk_of he
  have hs : sizeO P e = some k := by simp [sizeO, hi', hk]
  simp [sliceV, h1, h2, hu, hs, hg, hk0, hb]

/-! ## New slices, append, copy -/

@[simp] theorem gen_buildSlice (t n : Nat) (ps : Array (Nat × Operand)) (ty : Nat) : opS P ρ ⟨none, .buildSlice t n ps, ty, "", #[], none⟩ S = buildSliceV P t n (ps.toList.map fun (i, x) => (i, ρ x)) S := rfl
@[simp] theorem gen_append (s x : Operand) (t tx ty : Nat) : opS P ρ ⟨none, .call ⟨.builtin .append, #[s, x], #[t, tx]⟩, ty, "", #[], none⟩ S = appendV P t tx (ρ s) (ρ x) S := rfl
@[simp] theorem gen_copy (s x : Operand) (t tx ty : Nat) : opS P ρ ⟨none, .call ⟨.builtin .copy, #[s, x], #[t, tx]⟩, ty, "", #[], none⟩ S = copyV P t tx (ρ s) (ρ x) S := rfl
@[simp] theorem gen_build (t : Nat) (ps : Array (Nat × Operand)) (ty : Nat) : opS P ρ ⟨none, .build t ps, ty, "", #[], none⟩ S = valR S (buildV P t (ps.toList.map fun (i, x) => (i, ρ x))) := rfl
@[simp] theorem gen_makeSlice (t : Nat) (l c : Operand) (ty : Nat) : opS P ρ ⟨none, .makeSlice t l c, ty, "", #[], none⟩ S = makeSliceV P t (ρ l) (ρ c) S := rfl

theorem buildSliceV_0 {t e k b : Nat} (he : elemOk P t e k b = true) : buildSliceV P t 0 [] S = some (.slice (some ⟨S.cnt, 0, none⟩) 0 0, S.push (.cells [] e 0 false)) := by
  obtain ⟨hu, i, z, hi, hz, hk, hby, hzs, haf⟩ := elemOk_of he
  have hs : sizeO P e = some k := by simp [sizeO, hi, hk]
  have hzo : zeroO P e = some z := by simp [zeroO, hi, hz]
  simp [buildSliceV, hu, hs, hzo, hzs, haf, fillL, capx]

theorem buildSliceV_1 {t e k b : Nat} (he : elemOk P t e k b = true) (hk : k ≤ 1000) {v : Value} (hv : v.cells.size = k) : buildSliceV P t 1 [(0, v)] S = some (.slice (some ⟨S.cnt, 0, none⟩) 1 1, S.push (.cells v.cells.toList e 0 false)) := by
  obtain ⟨hu, i, z, hi, hz, hk', hby, hzs, haf⟩ := elemOk_of he
  have hs : sizeO P e = some k := by simp [sizeO, hi, hk']
  have hzo : zeroO P e = some z := by simp [zeroO, hi, hz]
  have hk2 : k ≤ 2 ^ 24 := by omega
  have hlen : z.cells.toList.length = k := by simpa using hzs
  have hlv : v.cells.toList.length = k := by simpa using hv
  have hput : putL z.cells.toList 0 v.cells.toList = v.cells.toList := by
    simp [putL, hv, hzs]
  simp [buildSliceV, hu, hs, hzo, hzs, haf, fillL, capx, hk2, hv, hput]

theorem srcV_slice {tx e k b : Nat} (he : elemOk P tx e k b = true) {n off len cap : Nat} {l : List Value} (hl : 0 < len) (hr : rowAt S n off (len * k) = some l) (ho : ones l = true) : srcV P tx k (.slice (some ⟨n, off, none⟩) len cap) S = some (len, l) := by
  obtain ⟨hu, _⟩ := elemOk_of he
  simp [srcV, hu, Nat.ne_of_gt hl, hr, ho]
theorem srcV_empty {tx e k b : Nat} (he : elemOk P tx e k b = true) {a : Addr} {cap : Nat} (ha : a.spot = none) : srcV P tx k (.slice (some a) 0 cap) S = some (0, []) := by
  obtain ⟨hu, _⟩ := elemOk_of he
  obtain ⟨n, off, sp⟩ := a
  simp only at ha
  subst ha
  simp [srcV, hu]
theorem srcV_nil {tx e k b : Nat} (he : elemOk P tx e k b = true) {cap : Nat} : srcV P tx k (.slice none 0 cap) S = some (0, []) := by
  obtain ⟨hu, _⟩ := elemOk_of he
  simp [srcV, hu]

theorem appendV_fresh {t tx e k b : Nat} (he : elemOk P t e k b = true) (hk0 : k ≠ 0) {m n : Nat} {x : Value} {news c : List Value} {T G : Nat} {g : Bool} (hs : srcV P tx k x S = some (n, news)) (hn : 0 < n) (hsm : (2 * n + 256) * b ≤ 2 ^ 48 ∧ n < 2 ^ 60) (hg : S.get m = some (.cells c T G g)) :
    appendV P t tx (.slice (some ⟨m, 0, none⟩) 0 0) x S = some (.slice (some ⟨S.cnt, 0, none⟩) n capx, S.push (.cells news e k false)) := by
  obtain ⟨hu, i, z, hi, hz, hk, hby, hzs, haf⟩ := elemOk_of he
  subst hk hby
  simp [appendV, hu, hi, hz, hzs, haf, hs, Nat.ne_of_gt hn, capx, freshRow, hsm, hk0, rowAt, hg]
theorem appendV_nil {t tx e k b : Nat} (he : elemOk P t e k b = true) (hk0 : k ≠ 0) {n : Nat} {x : Value} {news : List Value} (hs : srcV P tx k x S = some (n, news)) (hn : 0 < n) (hsm : (2 * n + 256) * b ≤ 2 ^ 48 ∧ n < 2 ^ 60) :
    appendV P t tx (.slice none 0 0) x S = some (.slice (some ⟨S.cnt, 0, none⟩) n capx, S.push (.cells news e k false)) := by
  obtain ⟨hu, i, z, hi, hz, hk, hby, hzs, haf⟩ := elemOk_of he
  subst hk hby
  simp [appendV, hu, hi, hz, hzs, haf, hs, Nat.ne_of_gt hn, freshRow, hsm, hk0]
theorem appendV_same {t tx e k b : Nat} (he : elemOk P t e k b = true) {m off len cap : Nat} {x : Value} {news : List Value} (hs : srcV P tx k x S = some (0, news)) (hlc : len ≤ cap) :
    appendV P t tx (.slice (some ⟨m, off, none⟩) len cap) x S = some (.slice (some ⟨m, off, none⟩) len cap, S) := by
  obtain ⟨hu, i, z, hi, hz, hk, hby, hzs, haf⟩ := elemOk_of he
  subst hk hby
  simp [appendV, hu, hi, hz, hzs, haf, hs, hlc]
/-! ## Numbers of another kind -/

theorem convertV_int (a b : Nat) (k : IntKind) (n : Int) : convertV P a b (.int k n) S = none := by
  unfold convertV
  split <;> simp_all
theorem runPure_bind {α β : Type} {s : Sem α} {f : α → Sem β} {a : α} {b : β} (h1 : runPure P s = some a) (h2 : runPure P (f a) = some b) : runPure P (s >>= f) = some b := by
  show runPure P (Sem.bind s f) = some b
  induction s with
  | pure x => simp only [runPure, Option.some.injEq] at h1; subst h1; exact h2
  | program k ih => exact ih P (by simpa [runPure] using h1)
  | _ => simp [runPure] at h1
theorem runPure_underlying {t : Nat} {d : TypeDesc} (h : P.underlying t = some d) : runPure P (underlying t) = some d := by
  simp only [underlying]
  show runPure P (Sem.bind (Sem.program _) _) = _
  simp only [Sem.bind, runPure, h]
  rfl
theorem opS_conv {a b : Nat} {x : Operand} {ty : Nat} {k ka kb : IntKind} {n : Int} (hua : P.underlying a = some (.int ka)) (hub : P.underlying b = some (.int kb)) (hx : ρ x = .int k n) :
    opS P ρ ⟨none, .convert a b x, ty, "", #[], none⟩ S = some (.int kb (kb.wrap n), S) := by
  have h4 : runPure P (execOp ρ ⟨none, .convert a b x, ty, "", #[], none⟩) = some (.value (.int kb (kb.wrap n))) := by
    simp only [execOp, hx]
    refine runPure_bind (a := .int kb (kb.wrap n)) ?_ rfl
    simp only [convert]
    refine runPure_bind (runPure_underlying hua) ?_
    refine runPure_bind (runPure_underlying hub) ?_
    rfl
  simp only [opS, hx, convertV_int]
  exact fallback_of (by simp [Op.operands, hx, af, af1]) h4 rfl
def convW (P : Program) (a b : Nat) (v : Value) (S : St) (o : Option (Value × St)) : Option (Value × St) :=
  match v, P.underlying a, P.underlying b with
  | .int _ n, some (.int _), some (.int kb) => some (.int kb (kb.wrap n), S)
  | _, _, _ => o
@[simp] theorem gen_convert (a b : Nat) (x : Operand) (ty : Nat) : opS P ρ ⟨none, .convert a b x, ty, "", #[], none⟩ S = convW P a b (ρ x) S (opSk P ρ ⟨none, .convert a b x, ty, "", #[], none⟩ S) := by
  unfold convW
  split
  · rename_i k n ka kb hx hua hub; exact opS_conv hua hub hx
  · rfl
theorem convW_int {a b : Nat} {k ka kb : IntKind} {n : Int} {o : Option (Value × St)} (hua : P.underlying a = some (.int ka)) (hub : P.underlying b = some (.int kb)) : convW P a b (.int k n) S o = some (.int kb (kb.wrap n), S) := by
  simp [convW, hua, hub]

/-! ## Copies -/

theorem copyV_slices {t tx e k b : Nat} (he : elemOk P t e k b = true) {d o dl dc m off sl sc : Nat} {l : List Value} {S' : St} (hn : 0 < Nat.min sl dl) (hr : rowAt S m off (Nat.min sl dl * k) = some l) (hp : putRow S d o l = some S') :
    copyV P t tx (.slice (some ⟨d, o, none⟩) dl dc) (.slice (some ⟨m, off, none⟩) sl sc) S = some (goInt (Nat.min sl dl), S') := by
  obtain ⟨hu, i, z, hi, hz, hk, hby, hzs, haf⟩ := elemOk_of he
  have hs : sizeO P e = some k := by simp [sizeO, hi, hk]
  have hn' : ¬ Nat.min sl dl = 0 := by omega
  simp only [copyV, hu, hs]
  rw [if_neg hn', hr]
  simp [hp]

theorem makeSliceV_ok {t e k b : Nat} (he : elemOk P t e k b = true) {n : Nat} (hn : n < 2 ^ 40) (hb : b < 2 ^ 6) {z : Value} (hz : zeroO P e = some z) : makeSliceV P t (.int .i64 n) (.int .i64 n) S = some (.slice (some ⟨S.cnt, 0, none⟩) n n, S.push (.cells ((List.replicate n z.cells.toList).flatten) e 0 false)) := by
  obtain ⟨hu, i, z', hi, hz', hk, hby, hzs, haf⟩ := elemOk_of he
  have : z = z' := by simp [zeroO, hi, hz'] at hz; exact hz.symm
  subst this
  subst hby
  have h1 : (i.bytes : Int) * (n : Int) ≤ 2 ^ 47 := by
    have h2 : i.bytes * n ≤ 2 ^ 6 * 2 ^ 40 := Nat.mul_le_mul (by omega) (by omega)
    have h3 : ((i.bytes * n : Nat) : Int) ≤ ((2 ^ 6 * 2 ^ 40 : Nat) : Int) := Int.ofNat_le.mpr h2
    rw [Int.natCast_mul] at h3
    refine Int.le_trans h3 (by decide)
  have h5 : (n : Int) < 2 ^ 47 := by
    have : (2 : Int) ^ 47 = 140737488355328 := by decide
    have : (2 : Nat) ^ 40 = 1099511627776 := by decide
    omega
  simp only [makeSliceV, hu, hi, hz']
  rw [if_pos ⟨by omega, Int.le_refl _, h5, h1, by rw [hzs, hk], haf⟩]
  simp

theorem flat_replicate (n : Nat) (v : List Value) : (List.replicate n v).flatten = flat n fun _ => v := by
  induction n with
  | zero => rfl
  | succ n ih => rw [List.replicate_succ']; simp [flat, ih]

/-! ## Looked at again -/

theorem vsame_slice (a : Option Addr) (l c : Nat) : vsame (.slice a l c) (.slice a l c) = true := by
  simp [vsame, vbeq]
end
end Go.AM
