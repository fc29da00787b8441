/- AmU: rows of equal elements in memory, and what leaves what as it was. -/
import Derived.Test.YtdfimlepfaheeaaGreatAmR
set_option linter.unusedVariables false
set_option linter.unusedSimpArgs false
namespace Go.AM

/-! ## Rows -/

/-- The cells of n elements. -/
def flat (n : Nat) (f : Nat → List Value) : List Value :=
  match n with
  | 0 => []
  | n + 1 => flat n f ++ f n

theorem flat_congr {n : Nat} {f g : Nat → List Value} (h : ∀ i, i < n → f i = g i) : flat n f = flat n g := by
  induction n with
  | zero => rfl
  | succ n ih => simp only [flat]; rw [ih (fun i hi => h i (by omega)), h n (by omega)]

theorem flat_length {n k : Nat} {f : Nat → List Value} (h : ∀ i, i < n → (f i).length = k) : (flat n f).length = n * k := by
  induction n with
  | zero => simp [flat]
  | succ n ih => simp only [flat, List.length_append]; rw [ih (fun i hi => h i (by omega)), h n (by omega), Nat.succ_mul]

theorem flat_row {n k j : Nat} {f : Nat → List Value} (h : ∀ i, i < n → (f i).length = k) (hj : j < n) : ((flat n f).drop (j * k)).take k = f j := by
  induction n with
  | zero => omega
  | succ n ih =>
    have hl : (flat n f).length = n * k := flat_length fun i hi => h i (by omega)
    simp only [flat]
    by_cases e : j = n
    · subst e
      rw [List.drop_append_of_le_length (by omega), List.drop_of_length_le (by omega), List.nil_append, List.take_of_length_le (by rw [h j (by omega)]; exact Nat.le_refl _)]
    · have hjn : j < n := by omega
      have h1 : (j + 1) * k ≤ n * k := Nat.mul_le_mul_right k hjn
      have h2 : (j + 1) * k = j * k + k := Nat.succ_mul j k
      rw [List.drop_append_of_le_length (by omega), List.take_append_of_le_length (by rw [List.length_drop]; omega)]
      exact ih (fun i hi => h i (by omega)) hjn

theorem flat_rows {n k a m : Nat} {f : Nat → List Value} (h : ∀ i, i < n → (f i).length = k) (hm : a + m ≤ n) : ((flat n f).drop (a * k)).take (m * k) = flat m fun i => f (a + i) := by
  induction m with
  | zero => simp [flat]
  | succ m ih =>
    have ih := ih (by omega)
    simp only [flat]
    rw [← ih, Nat.succ_mul, List.take_add, List.drop_drop, ← Nat.add_mul]
    rw [flat_row h (by omega)]

theorem flat_put {n k j : Nat} {f : Nat → List Value} {vs : List Value} (h : ∀ i, i < n → (f i).length = k) (hj : j < n) (hv : vs.length = k) : putL (flat n f) (j * k) vs = flat n fun i => if i = j then vs else f i := by
  induction n with
  | zero => omega
  | succ n ih =>
    have hl : (flat n f).length = n * k := flat_length fun i hi => h i (by omega)
    simp only [flat]
    by_cases e : j = n
    · subst e
      have h1 : flat j (fun i => if i = j then vs else f i) = flat j f := flat_congr fun i hi => by rw [if_neg (by omega)]
      rw [h1, if_pos rfl]
      simp only [putL]
      rw [List.take_append_of_le_length (by omega), List.take_of_length_le (by omega), List.drop_append, List.drop_of_length_le (by omega), List.drop_of_length_le (by rw [h j (by omega)]; omega)]
      simp
    · have hjn : j < n := by omega
      have h1 : (j + 1) * k ≤ n * k := Nat.mul_le_mul_right k hjn
      have h2 : (j + 1) * k = j * k + k := Nat.succ_mul j k
      rw [← ih (fun i hi => h i (by omega)) hjn, if_neg (fun q => e q.symm)]
      simp only [putL]
      rw [List.take_append_of_le_length (by omega), List.drop_append_of_le_length (by omega)]
      simp

theorem flat_add (n m : Nat) (f : Nat → List Value) : flat (n + m) f = flat n f ++ flat m fun i => f (n + i) := by
  induction m with
  | zero => simp [flat]
  | succ m ih => rw [← Nat.add_assoc]; simp only [flat]; rw [ih, List.append_assoc]

theorem flat_puts {n k a m : Nat} {f g : Nat → List Value} (h : ∀ i, i < n → (f i).length = k) (hg : ∀ i, i < m → (g i).length = k) (hm : a + m ≤ n) : putL (flat n f) (a * k) (flat m g) = flat n fun i => if a ≤ i ∧ i < a + m then g (i - a) else f i := by
  obtain ⟨r, rfl⟩ : ∃ r, n = a + m + r := ⟨n - (a + m), by omega⟩
  have hl : (flat a f).length = a * k := flat_length fun i hi => h i (by omega)
  have hl2 : (flat m fun i => f (a + i)).length = m * k := flat_length fun i hi => h _ (by omega)
  have hl3 : (flat m g).length = m * k := flat_length hg
  have e1 : flat a (fun i => if a ≤ i ∧ i < a + m then g (i - a) else f i) = flat a f := flat_congr fun i hi => by rw [if_neg (by omega)]
  have e2 : (flat m fun i => if a ≤ a + i ∧ a + i < a + m then g (a + i - a) else f (a + i)) = flat m g := flat_congr fun i hi => by rw [if_pos (by omega)]; congr 1; omega
  have e3 : (flat r fun i => if a ≤ a + m + i ∧ a + m + i < a + m then g (a + m + i - a) else f (a + m + i)) = flat r fun i => f (a + m + i) := flat_congr fun i hi => by rw [if_neg (by omega)]
  rw [flat_add (a + m) r, flat_add a m, flat_add (a + m) r, flat_add a m, e1, e2, e3]
  generalize flat a f = A at *
  generalize (flat m fun i => f (a + i)) = B at *
  generalize flat m g = G at *
  generalize (flat r fun i => f (a + m + i)) = C
  simp only [putL, hl3, List.append_assoc]
  rw [List.take_append_of_le_length (by omega), List.take_of_length_le (by omega)]
  rw [List.drop_append, List.drop_of_length_le (by omega), List.nil_append, List.drop_append, List.drop_of_length_le (by omega), List.nil_append]
  rw [show a * k + m * k - A.length - B.length = 0 by omega, List.drop_zero]

/-! ## What stays -/

/-- The later state is the earlier one but for the named blocks and new ones. -/
structure Stays (S S' : St) (A : Nat → Prop) : Prop where
  base : S'.base = S.base
  cnt : S.cnt ≤ S'.cnt
  get : ∀ n, n < S.cnt → ¬ A n → S'.get n = S.get n

theorem Stays.refl (S : St) (A : Nat → Prop) : Stays S S A := ⟨rfl, Nat.le_refl _, fun _ _ _ => rfl⟩
theorem Stays.trans {S S' S'' : St} {A B : Nat → Prop} (h : Stays S S' A) (h' : Stays S' S'' B) (hAB : ∀ n, n < S.cnt → B n → A n) : Stays S S'' A :=
  ⟨h'.base.trans h.base, Nat.le_trans h.cnt h'.cnt, fun n hn hA => by rw [h'.get n (Nat.lt_of_lt_of_le hn h.cnt) (fun q => hA (hAB n hn q)), h.get n hn hA]⟩
theorem Stays.mono {S S' : St} {A B : Nat → Prop} (h : Stays S S' A) (hAB : ∀ n, A n → B n) : Stays S S' B :=
  ⟨h.base, h.cnt, fun n hn hB => h.get n hn fun q => hB (hAB n q)⟩
theorem Stays.set {S : St} {n : Nat} {o : Option AObj} {A : Nat → Prop} (hb : S.base ≤ n) (hA : A n) : Stays S (S.set n o) A :=
  ⟨rfl, Nat.le_refl _, fun m hm hm' => by rw [St.get_set _ _ _ _ hb, if_neg (fun q => by subst q; exact hm' hA)]⟩
theorem Stays.push {S : St} {o : AObj} {A : Nat → Prop} (hb : S.base ≤ S.cnt) : Stays S (S.push o) A :=
  ⟨rfl, Nat.le_succ _, fun m hm _ => by rw [St.get_push _ _ _ hb, if_neg (by omega)]⟩

end Go.AM
