/- AmV: the machine over this program. -/
import Derived.Test.YtdfimlepfaheeaaGreatAmC3
import Derived.Test.YtdfimlepfaheeaaGreatAmU
set_option linter.unusedVariables false
set_option linter.unusedSimpArgs false
namespace Go.AM
open Go.Proofs

def hk : HK := hookOf n_law35_alive
/-- What a call comes to. -/
noncomputable def cs : CF := callS pg hk

theorem csE {f : Nat} {a : AFn} (hf : isFn pg f = some a) (hH : hk f = none) {args : List Value} (hn : Nat.ble args.length a.n = true) {S : St} {r : Value × St} (h : funA pg cs loopA a (startR args) S = some r) : cs f args S = some r :=
  callA hf hH (Nat.le_of_ble_eq_true hn) h
theorem csOk {f : Nat} {a : AFn} (hf : isFn pg f = some a) (hH : hk f = none) {args : List Value} (hn : Nat.ble args.length a.n = true) {S : St} {Q : Value × St → Prop} (h : Ok (funA pg cs loopA a (startR args) S) Q) : Ok (cs f args S) Q := by
  obtain ⟨r, hr, hq⟩ := h
  exact ⟨r, callA hf hH (Nat.le_of_ble_eq_true hn) hr, hq⟩

end Go.AM
