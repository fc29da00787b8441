/-
  No cell of these rows narrows 'for every input' (looked for: loops, veiled, ifaces, maps, wideKeys, modest, calm, conditions, laid).
  DERIVED. THE GIVEN ROWS OF THIS SEAT. 4 by the template 'for every input the law returns true; each argument reads behind the call as it read before'; 0 by the template 'total and deterministic' (their statements: YtdfimlepfaheeaaGreatTotals.lean).
  GIVEN WITH THE SEED: the statements are not yours to turn. If you find one false, say at which input.
  Laid BY PROGRAM, IN A SANDBOX (cutbox-rows.mjs): the forced cells as the released guide's own fill.sh prints them over the translation 50f7d38e46ac077e… (all of the seat's roots in one cut). By AI agents, Wed Nov 11 2026. No macro, syntax, notation, axiom, sorry.
-/
import Derived.Test.YtdfimlepfaheeaaGreatChecked
import GoSem.Claim
import GoSem.ClaimJoined
import GoSem.ClaimMapViews
import Derived.JoinedTies
import Derived.KernelRfl
namespace Go.Proofs.YtdfimlepfaheeaaGreat
/- THE CELL 'sum', in the pinned program and in every row, IS THE sha256 OF THE DUMP (.gsa) THAT YtdfimlepfaheeaaGreatProg.lean LOADS. Nothing in Lean hashes anything: it is a label: what it is worth is what the hold of that sum in a sandbox is worth. -/
noncomputable def Tryz.pinned : Pinned := { name := "ytdfimlepfaheeaagreat", sum := "50f7d38e46ac077e1c460ebce416005636e940f689c208a4a15a96dbee191110", checked := Tryz.checked }
namespace Rows
def none {H : Type} : Left H := { results := [], args := [] }

/-- 'longlinelaw35.EchoTrue': WHATEVER THE INPUT: true; the input reads as it did. -/
def echoTrueSpec : ChangeSpec := { name := "echoTrue", fn := fun _ => fun
  | [d1, d2, d3] => { results := [.lit (.bool true)], args := [d1, d2, d3] }
  | _ => none }
def echoTrueRow : OpenClaim := { program := "ytdfimlepfaheeaagreat", sum := "50f7d38e46ac077e1c460ebce416005636e940f689c208a4a15a96dbee191110", func := "longline/longlinelaw35.EchoTrue", spec := "echoTrue", inPlace := ["internal/bytealg.IndexByteString"], unfollowed := true, recurses := true, apart := false }
def EchoTrueSaid : Prop := echoTrueRow.holds Tryz.pinned (OpenSpec.ofChange echoTrueSpec)

/-- ITS FALSE NEIGHBOUR: 'it returns false'. Refute it at one input. -/
def echoTrueWrong : ChangeSpec := { name := "echoTrue", fn := fun _ => fun
  | [d1, d2, d3] => { results := [.lit (.bool false)], args := [d1, d2, d3] }
  | _ => none }
def EchoTrueWrongFalsely : Prop := echoTrueRow.holds Tryz.pinned (OpenSpec.ofChange echoTrueWrong)

/-- 'longlinelaw12.LinkNobody': WHATEVER THE INPUT: true; the input reads as it did. -/
def linkNobodySpec : ChangeSpec := { name := "linkNobody", fn := fun _ => fun
  | [d1, d2, d3, d4] => { results := [.lit (.bool true)], args := [d1, d2, d3, d4] }
  | _ => none }
def linkNobodyRow : OpenClaim := { program := "ytdfimlepfaheeaagreat", sum := "50f7d38e46ac077e1c460ebce416005636e940f689c208a4a15a96dbee191110", func := "longline/longlinelaw12.LinkNobody", spec := "linkNobody", inPlace := ["sync/atomic.StoreUint64", "sync/atomic.LoadUint64", "sync/atomic.AddUint64", "sync/atomic.LoadUint32", "(*internal/sync.Mutex).Lock", "internal/race.Disable", "sync/atomic.CompareAndSwapInt32", "internal/race.Enable", "internal/race.Acquire", "(*internal/sync.Mutex).lockSlow", "internal/sync.runtime_canSpin", "internal/sync.runtime_doSpin", "internal/sync.throw", "internal/sync.runtime_nanotime", "internal/sync.runtime_SemacquireMutex", "sync/atomic.AddInt32", "(*internal/sync.Mutex).Unlock", "internal/race.ReleaseMerge", "(*internal/sync.Mutex).unlockSlow", "internal/sync.fatal", "internal/sync.runtime_Semrelease", "sync/atomic.StoreUint32", "sync/atomic.AddInt64"], unfollowed := true, recurses := true, apart := false }
def LinkNobodySaid : Prop := linkNobodyRow.holds Tryz.pinned (OpenSpec.ofChange linkNobodySpec)

/-- ITS FALSE NEIGHBOUR: 'it returns false'. Refute it at one input. -/
def linkNobodyWrong : ChangeSpec := { name := "linkNobody", fn := fun _ => fun
  | [d1, d2, d3, d4] => { results := [.lit (.bool false)], args := [d1, d2, d3, d4] }
  | _ => none }
def LinkNobodyWrongFalsely : Prop := linkNobodyRow.holds Tryz.pinned (OpenSpec.ofChange linkNobodyWrong)

/-- 'longlinelaw20.ViewOf': WHATEVER THE INPUT: true; the input reads as it did. -/
def viewOfSpec : ChangeSpec := { name := "viewOf", fn := fun _ => fun
  | [d1, d2, d3] => { results := [.lit (.bool true)], args := [d1, d2, d3] }
  | _ => none }
def viewOfRow : OpenClaim := { program := "ytdfimlepfaheeaagreat", sum := "50f7d38e46ac077e1c460ebce416005636e940f689c208a4a15a96dbee191110", func := "longline/longlinelaw20.ViewOf", spec := "viewOf", inPlace := ["internal/bytealg.IndexByteString"], unfollowed := true, recurses := true, apart := false }
def ViewOfSaid : Prop := viewOfRow.holds Tryz.pinned (OpenSpec.ofChange viewOfSpec)

/-- ITS FALSE NEIGHBOUR: 'it returns false'. Refute it at one input. -/
def viewOfWrong : ChangeSpec := { name := "viewOf", fn := fun _ => fun
  | [d1, d2, d3] => { results := [.lit (.bool false)], args := [d1, d2, d3] }
  | _ => none }
def ViewOfWrongFalsely : Prop := viewOfRow.holds Tryz.pinned (OpenSpec.ofChange viewOfWrong)

/-- 'longlinelaw22.RegOf': WHATEVER THE INPUT: true; the input reads as it did. -/
def regOfSpec : ChangeSpec := { name := "regOf", fn := fun _ => fun
  | [d1, d2, d3] => { results := [.lit (.bool true)], args := [d1, d2, d3] }
  | _ => none }
def regOfRow : OpenClaim := { program := "ytdfimlepfaheeaagreat", sum := "50f7d38e46ac077e1c460ebce416005636e940f689c208a4a15a96dbee191110", func := "longline/longlinelaw22.RegOf", spec := "regOf", inPlace := ["internal/bytealg.IndexByteString"], unfollowed := true, recurses := true, apart := false }
def RegOfSaid : Prop := regOfRow.holds Tryz.pinned (OpenSpec.ofChange regOfSpec)

/-- ITS FALSE NEIGHBOUR: 'it returns false'. Refute it at one input. -/
def regOfWrong : ChangeSpec := { name := "regOf", fn := fun _ => fun
  | [d1, d2, d3] => { results := [.lit (.bool false)], args := [d1, d2, d3] }
  | _ => none }
def RegOfWrongFalsely : Prop := regOfRow.holds Tryz.pinned (OpenSpec.ofChange regOfWrong)

/- THE SECOND FORM. 'bulk': how many values and letters a reading holds, each counted each time it is reached (what is shared counts as often as it is met; a slice's spare places count too). A statement '..UptoSaid' is the law's where the arguments, and the package variables that the reading takes, are together of bulk at most 1048576: NARROWER than '..Said'. Prove '..Said' where nothing that the law and all that it calls make is longer than what came in: it says more and counts as full. Else prove '..UptoSaid'. A law counts once. -/
mutual
def uptoBulk {H : Type} : DataW H → Nat
  | .lit (.string bytes) => bytes.length + 1
  | .lit _ => 1
  | .nil => 1
  | .ptr d => uptoBulk d + 1
  | .slice elems spare => uptoBulkAll elems + uptoBulkAll spare + 1
  | .agg parts => uptoBulkAll parts + 1
  | .iface _ d => uptoBulk d + 1
  | .map entries => uptoBulkEntries entries + 1
  | .held _ => 1
def uptoBulkAll {H : Type} : List (DataW H) → Nat
  | [] => 0
  | d :: r => uptoBulk d + uptoBulkAll r
def uptoBulkEntries {H : Type} : List (Lit × DataW H) → Nat
  | [] => 0
  | x :: r => uptoBulkEntry x + uptoBulkEntries r
def uptoBulkEntry {H : Type} : Lit × DataW H → Nat
  | (.string bytes, d) => bytes.length + uptoBulk d + 1
  | (_, d) => uptoBulk d + 1
 end
def uptoSmall : (H : Type) → List (DataW H) → Bool := fun _ ds => decide (uptoBulkAll ds ≤ 1048576)
def OpenSpec.upto (s : _root_.Go.ChangeSpec) : _root_.Go.OpenSpec := { _root_.Go.OpenSpec.ofChange s with cond := some uptoSmall }

/-- 'longlinelaw35.EchoTrue', WHERE WHAT IT READS IS OF BULK AT MOST 1048576: true; the input reads as it did. -/
def echoTrueUptoRow : OpenClaim := { program := "ytdfimlepfaheeaagreat", sum := "50f7d38e46ac077e1c460ebce416005636e940f689c208a4a15a96dbee191110", func := "longline/longlinelaw35.EchoTrue", spec := "echoTrue", inPlace := ["internal/bytealg.IndexByteString"], unfollowed := true, recurses := true, apart := false, narrowed := true }
def EchoTrueUptoSaid : Prop := echoTrueUptoRow.holds Tryz.pinned (OpenSpec.upto echoTrueSpec)

/-- 'longlinelaw12.LinkNobody', WHERE WHAT IT READS IS OF BULK AT MOST 1048576: true; the input reads as it did. -/
def linkNobodyUptoRow : OpenClaim := { program := "ytdfimlepfaheeaagreat", sum := "50f7d38e46ac077e1c460ebce416005636e940f689c208a4a15a96dbee191110", func := "longline/longlinelaw12.LinkNobody", spec := "linkNobody", inPlace := ["sync/atomic.StoreUint64", "sync/atomic.LoadUint64", "sync/atomic.AddUint64", "sync/atomic.LoadUint32", "(*internal/sync.Mutex).Lock", "internal/race.Disable", "sync/atomic.CompareAndSwapInt32", "internal/race.Enable", "internal/race.Acquire", "(*internal/sync.Mutex).lockSlow", "internal/sync.runtime_canSpin", "internal/sync.runtime_doSpin", "internal/sync.throw", "internal/sync.runtime_nanotime", "internal/sync.runtime_SemacquireMutex", "sync/atomic.AddInt32", "(*internal/sync.Mutex).Unlock", "internal/race.ReleaseMerge", "(*internal/sync.Mutex).unlockSlow", "internal/sync.fatal", "internal/sync.runtime_Semrelease", "sync/atomic.StoreUint32", "sync/atomic.AddInt64"], unfollowed := true, recurses := true, apart := false, narrowed := true }
def LinkNobodyUptoSaid : Prop := linkNobodyUptoRow.holds Tryz.pinned (OpenSpec.upto linkNobodySpec)

/-- 'longlinelaw20.ViewOf', WHERE WHAT IT READS IS OF BULK AT MOST 1048576: true; the input reads as it did. -/
def viewOfUptoRow : OpenClaim := { program := "ytdfimlepfaheeaagreat", sum := "50f7d38e46ac077e1c460ebce416005636e940f689c208a4a15a96dbee191110", func := "longline/longlinelaw20.ViewOf", spec := "viewOf", inPlace := ["internal/bytealg.IndexByteString"], unfollowed := true, recurses := true, apart := false, narrowed := true }
def ViewOfUptoSaid : Prop := viewOfUptoRow.holds Tryz.pinned (OpenSpec.upto viewOfSpec)

/-- 'longlinelaw22.RegOf', WHERE WHAT IT READS IS OF BULK AT MOST 1048576: true; the input reads as it did. -/
def regOfUptoRow : OpenClaim := { program := "ytdfimlepfaheeaagreat", sum := "50f7d38e46ac077e1c460ebce416005636e940f689c208a4a15a96dbee191110", func := "longline/longlinelaw22.RegOf", spec := "regOf", inPlace := ["internal/bytealg.IndexByteString"], unfollowed := true, recurses := true, apart := false, narrowed := true }
def RegOfUptoSaid : Prop := regOfUptoRow.holds Tryz.pinned (OpenSpec.upto regOfSpec)

end Rows
end Go.Proofs.YtdfimlepfaheeaaGreat
