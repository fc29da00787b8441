/- AmO: short facts of types. -/
import Derived.Test.YtdfimlepfaheeaaGreatAmP
set_option linter.unusedVariables false
namespace Go.AM
variable {P : Program}
def isPtr : Option TypeDesc → Bool
  | some (.pointer _) => true
  | _ => false
@[simp] theorem isPtr_some (e : Nat) : isPtr (some (.pointer e)) = true := rfl
theorem isPtr_of {t : Nat} (h : isPtr (P.underlying t) = true) : ∃ e, P.underlying t = some (.pointer e) := by
  unfold isPtr at h
  split at h
  · rename_i e he; exact ⟨e, he⟩
  · cases h

/-- The types of a slice and of its elements. -/
def elemOk (P : Program) (t e k by_ : Nat) : Bool :=
  (match P.underlying t with | some (.slice e') => Nat.beq e' e | _ => false) &&
  (match P.info? e with | some i => (match i.zero with | some z => Nat.beq i.size k && Nat.beq i.bytes by_ && Nat.beq z.cells.size k && afs z.cells.toList | none => false) | none => false)
theorem elemOk_of {t e k b : Nat} (h : elemOk P t e k b = true) : P.underlying t = some (.slice e) ∧ ∃ i z, P.info? e = some i ∧ i.zero = some z ∧ i.size = k ∧ i.bytes = b ∧ z.cells.size = k ∧ afs z.cells.toList = true := by
  unfold elemOk at h
  rw [Bool.and_eq_true] at h
  obtain ⟨h1, h2⟩ := h
  split at h1
  · rename_i e' he
    have : e' = e := by simpa using h1
    subst this
    refine ⟨he, ?_⟩
    split at h2
    · rename_i i hi
      split at h2
      · rename_i z hz
        simp only [Bool.and_eq_true] at h2
        obtain ⟨⟨⟨a1, a2⟩, a3⟩, a4⟩ := h2
        exact ⟨i, z, hi, hz, by simpa using a1, by simpa using a2, by simpa using a3, a4⟩
      · cases h2
    · cases h2
  · cases h1

/-- The abstract machine's hook: this function's answer is known. -/
def hookOf (n : Nat) : HK := fun f => if Nat.beq f n then some fun args S => (match args with | [] => some (.bool true, S) | _ => none) else none
end Go.AM
