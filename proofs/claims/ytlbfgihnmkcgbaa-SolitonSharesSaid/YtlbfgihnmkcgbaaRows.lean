/-
  No cell of these rows narrows 'for every input' (looked for: loops, veiled, ifaces, maps, wideKeys, modest, calm, conditions, laid).
  DERIVED. THE GIVEN ROWS OF THIS SEAT. 5 by the template 'for every input the law returns true; each argument reads behind the call as it read before'; 0 by the template 'total and deterministic' (their statements: YtlbfgihnmkcgbaaTotals.lean).
  GIVEN WITH THE SEED: the statements are not yours to turn. If you find one false, say at which input.
  Laid BY PROGRAM, IN A SANDBOX (cutbox-rows.mjs): the forced cells as the released guide's own fill.sh prints them over the translation 9f4c70f1f51aae74… (all of the seat's roots in one cut). By AI agents, Wed Nov 11 2026. No macro, syntax, notation, axiom, sorry.
-/
import Derived.Test.YtlbfgihnmkcgbaaChecked
import GoSem.Claim
import GoSem.ClaimJoined
import GoSem.ClaimMapViews
import Derived.JoinedTies
import Derived.KernelRfl
namespace Go.Proofs.Ytlbfgihnmkcgbaa
/- THE CELL 'sum', in the pinned program and in every row, IS THE sha256 OF THE DUMP (.gsa) THAT YtlbfgihnmkcgbaaProg.lean LOADS. Nothing in Lean hashes anything: it is a label: what it is worth is what the hold of that sum in a sandbox is worth. -/
noncomputable def Try.pinned : Pinned := { name := "ytlbfgihnmkcgbaa", sum := "9f4c70f1f51aae74c2bfc706fbc6f7c3bfdfe3383e24fd898cee9d0efbdcb2d3", checked := Try.checked }
namespace Rows
def none {H : Type} : Left H := { results := [], args := [] }

/-- 'downpourlaw7.SolitonNil': WHATEVER THE INPUT: true; the input reads as it did. -/
def solitonNilSpec : ChangeSpec := { name := "solitonNil", fn := fun _ => fun
  | [d] => { results := [.lit (.bool true)], args := [d] }
  | _ => none }
def solitonNilRow : OpenClaim := { program := "ytlbfgihnmkcgbaa", sum := "9f4c70f1f51aae74c2bfc706fbc6f7c3bfdfe3383e24fd898cee9d0efbdcb2d3", func := "downpour/downpourlaw7.SolitonNil", spec := "solitonNil", inPlace := ["sync/atomic.LoadUint32", "(*internal/sync.Mutex).Lock", "internal/race.Disable", "sync/atomic.CompareAndSwapInt32", "internal/race.Enable", "internal/race.Acquire", "(*internal/sync.Mutex).lockSlow", "internal/sync.runtime_canSpin", "internal/sync.runtime_doSpin", "internal/sync.throw", "internal/sync.runtime_nanotime", "internal/sync.runtime_SemacquireMutex", "sync/atomic.AddInt32", "(*internal/sync.Mutex).Unlock", "internal/race.ReleaseMerge", "(*internal/sync.Mutex).unlockSlow", "internal/sync.fatal", "internal/sync.runtime_Semrelease", "sync/atomic.StoreUint32"], unfollowed := true, recurses := true, apart := false }
def SolitonNilSaid : Prop := solitonNilRow.holds Try.pinned (OpenSpec.ofChange solitonNilSpec)

/-- ITS FALSE NEIGHBOUR: 'it returns false'. Refute it at one input. -/
def solitonNilWrong : ChangeSpec := { name := "solitonNil", fn := fun _ => fun
  | [d] => { results := [.lit (.bool false)], args := [d] }
  | _ => none }
def SolitonNilWrongFalsely : Prop := solitonNilRow.holds Try.pinned (OpenSpec.ofChange solitonNilWrong)

/-- 'downpourlaw7.SolitonRises': WHATEVER THE INPUT: true; the input reads as it did. -/
def solitonRisesSpec : ChangeSpec := { name := "solitonRises", fn := fun _ => fun
  | [d1, d2, d3] => { results := [.lit (.bool true)], args := [d1, d2, d3] }
  | _ => none }
def solitonRisesRow : OpenClaim := { program := "ytlbfgihnmkcgbaa", sum := "9f4c70f1f51aae74c2bfc706fbc6f7c3bfdfe3383e24fd898cee9d0efbdcb2d3", func := "downpour/downpourlaw7.SolitonRises", spec := "solitonRises", inPlace := ["sync/atomic.LoadUint32", "(*internal/sync.Mutex).Lock", "internal/race.Disable", "sync/atomic.CompareAndSwapInt32", "internal/race.Enable", "internal/race.Acquire", "(*internal/sync.Mutex).lockSlow", "internal/sync.runtime_canSpin", "internal/sync.runtime_doSpin", "internal/sync.throw", "internal/sync.runtime_nanotime", "internal/sync.runtime_SemacquireMutex", "sync/atomic.AddInt32", "(*internal/sync.Mutex).Unlock", "internal/race.ReleaseMerge", "(*internal/sync.Mutex).unlockSlow", "internal/sync.fatal", "internal/sync.runtime_Semrelease", "sync/atomic.StoreUint32"], unfollowed := true, recurses := true, apart := false }
def SolitonRisesSaid : Prop := solitonRisesRow.holds Try.pinned (OpenSpec.ofChange solitonRisesSpec)

/-- ITS FALSE NEIGHBOUR: 'it returns false'. Refute it at one input. -/
def solitonRisesWrong : ChangeSpec := { name := "solitonRises", fn := fun _ => fun
  | [d1, d2, d3] => { results := [.lit (.bool false)], args := [d1, d2, d3] }
  | _ => none }
def SolitonRisesWrongFalsely : Prop := solitonRisesRow.holds Try.pinned (OpenSpec.ofChange solitonRisesWrong)

/-- 'downpourlaw7.SolitonShares': WHATEVER THE INPUT: true; the input reads as it did. -/
def solitonSharesSpec : ChangeSpec := { name := "solitonShares", fn := fun _ => fun
  | [d1, d2] => { results := [.lit (.bool true)], args := [d1, d2] }
  | _ => none }
def solitonSharesRow : OpenClaim := { program := "ytlbfgihnmkcgbaa", sum := "9f4c70f1f51aae74c2bfc706fbc6f7c3bfdfe3383e24fd898cee9d0efbdcb2d3", func := "downpour/downpourlaw7.SolitonShares", spec := "solitonShares", inPlace := ["sync/atomic.LoadUint32", "(*internal/sync.Mutex).Lock", "internal/race.Disable", "sync/atomic.CompareAndSwapInt32", "internal/race.Enable", "internal/race.Acquire", "(*internal/sync.Mutex).lockSlow", "internal/sync.runtime_canSpin", "internal/sync.runtime_doSpin", "internal/sync.throw", "internal/sync.runtime_nanotime", "internal/sync.runtime_SemacquireMutex", "sync/atomic.AddInt32", "(*internal/sync.Mutex).Unlock", "internal/race.ReleaseMerge", "(*internal/sync.Mutex).unlockSlow", "internal/sync.fatal", "internal/sync.runtime_Semrelease", "sync/atomic.StoreUint32"], unfollowed := true, recurses := true, apart := false }
def SolitonSharesSaid : Prop := solitonSharesRow.holds Try.pinned (OpenSpec.ofChange solitonSharesSpec)

/-- ITS FALSE NEIGHBOUR: 'it returns false'. Refute it at one input. -/
def solitonSharesWrong : ChangeSpec := { name := "solitonShares", fn := fun _ => fun
  | [d1, d2] => { results := [.lit (.bool false)], args := [d1, d2] }
  | _ => none }
def SolitonSharesWrongFalsely : Prop := solitonSharesRow.holds Try.pinned (OpenSpec.ofChange solitonSharesWrong)

/-- 'downpourlaw7.SolitonRoots': WHATEVER THE INPUT: true; the input reads as it did. -/
def solitonRootsSpec : ChangeSpec := { name := "solitonRoots", fn := fun _ => fun
  | [d] => { results := [.lit (.bool true)], args := [d] }
  | _ => none }
def solitonRootsRow : OpenClaim := { program := "ytlbfgihnmkcgbaa", sum := "9f4c70f1f51aae74c2bfc706fbc6f7c3bfdfe3383e24fd898cee9d0efbdcb2d3", func := "downpour/downpourlaw7.SolitonRoots", spec := "solitonRoots", inPlace := ["sync/atomic.LoadUint32", "(*internal/sync.Mutex).Lock", "internal/race.Disable", "sync/atomic.CompareAndSwapInt32", "internal/race.Enable", "internal/race.Acquire", "(*internal/sync.Mutex).lockSlow", "internal/sync.runtime_canSpin", "internal/sync.runtime_doSpin", "internal/sync.throw", "internal/sync.runtime_nanotime", "internal/sync.runtime_SemacquireMutex", "sync/atomic.AddInt32", "(*internal/sync.Mutex).Unlock", "internal/race.ReleaseMerge", "(*internal/sync.Mutex).unlockSlow", "internal/sync.fatal", "internal/sync.runtime_Semrelease", "sync/atomic.StoreUint32"], unfollowed := true, recurses := true, apart := false }
def SolitonRootsSaid : Prop := solitonRootsRow.holds Try.pinned (OpenSpec.ofChange solitonRootsSpec)

/-- ITS FALSE NEIGHBOUR: 'it returns false'. Refute it at one input. -/
def solitonRootsWrong : ChangeSpec := { name := "solitonRoots", fn := fun _ => fun
  | [d] => { results := [.lit (.bool false)], args := [d] }
  | _ => none }
def SolitonRootsWrongFalsely : Prop := solitonRootsRow.holds Try.pinned (OpenSpec.ofChange solitonRootsWrong)

/-- 'downpourlaw7.SolitonWeights': WHATEVER THE INPUT: true; the input reads as it did. -/
def solitonWeightsSpec : ChangeSpec := { name := "solitonWeights", fn := fun _ => fun
  | [d1, d2] => { results := [.lit (.bool true)], args := [d1, d2] }
  | _ => none }
def solitonWeightsRow : OpenClaim := { program := "ytlbfgihnmkcgbaa", sum := "9f4c70f1f51aae74c2bfc706fbc6f7c3bfdfe3383e24fd898cee9d0efbdcb2d3", func := "downpour/downpourlaw7.SolitonWeights", spec := "solitonWeights", inPlace := ["sync/atomic.LoadUint32", "(*internal/sync.Mutex).Lock", "internal/race.Disable", "sync/atomic.CompareAndSwapInt32", "internal/race.Enable", "internal/race.Acquire", "(*internal/sync.Mutex).lockSlow", "internal/sync.runtime_canSpin", "internal/sync.runtime_doSpin", "internal/sync.throw", "internal/sync.runtime_nanotime", "internal/sync.runtime_SemacquireMutex", "sync/atomic.AddInt32", "(*internal/sync.Mutex).Unlock", "internal/race.ReleaseMerge", "(*internal/sync.Mutex).unlockSlow", "internal/sync.fatal", "internal/sync.runtime_Semrelease", "sync/atomic.StoreUint32"], unfollowed := true, recurses := true, apart := false }
def SolitonWeightsSaid : Prop := solitonWeightsRow.holds Try.pinned (OpenSpec.ofChange solitonWeightsSpec)

/-- ITS FALSE NEIGHBOUR: 'it returns false'. Refute it at one input. -/
def solitonWeightsWrong : ChangeSpec := { name := "solitonWeights", fn := fun _ => fun
  | [d1, d2] => { results := [.lit (.bool false)], args := [d1, d2] }
  | _ => none }
def SolitonWeightsWrongFalsely : Prop := solitonWeightsRow.holds Try.pinned (OpenSpec.ofChange solitonWeightsWrong)

/- THE SECOND FORM. 'bulk': how many values and letters a reading holds, each counted each time it is reached (what is shared counts as often as it is met; a slice's spare places count too). A statement '..UptoSaid' is the law's where the arguments, and the package variables that the reading takes, are together of bulk at most 1048576: NARROWER than '..Said'. Prove '..Said' where nothing that the law and all that it calls make is longer than what came in: it says more and counts as full. Else prove '..UptoSaid'. A law counts once. -/
mutual
def uptoBulk {H : Type} : DataW H → Nat
  | .lit (.string bytes) => bytes.length + 1
  | .lit _ => 1
  | .nil => 1
  | .ptr d => uptoBulk d + 1
  | .slice elems spare => uptoBulkAll elems + uptoBulkAll spare + 1
  | .agg parts => uptoBulkAll parts + 1
  | .iface _ d => uptoBulk d + 1
  | .map entries => uptoBulkEntries entries + 1
  | .held _ => 1
def uptoBulkAll {H : Type} : List (DataW H) → Nat
  | [] => 0
  | d :: r => uptoBulk d + uptoBulkAll r
def uptoBulkEntries {H : Type} : List (Lit × DataW H) → Nat
  | [] => 0
  | x :: r => uptoBulkEntry x + uptoBulkEntries r
def uptoBulkEntry {H : Type} : Lit × DataW H → Nat
  | (.string bytes, d) => bytes.length + uptoBulk d + 1
  | (_, d) => uptoBulk d + 1
 end
def uptoSmall : (H : Type) → List (DataW H) → Bool := fun _ ds => decide (uptoBulkAll ds ≤ 1048576)
def OpenSpec.upto (s : _root_.Go.ChangeSpec) : _root_.Go.OpenSpec := { _root_.Go.OpenSpec.ofChange s with cond := some uptoSmall }

/-- 'downpourlaw7.SolitonNil', WHERE WHAT IT READS IS OF BULK AT MOST 1048576: true; the input reads as it did. -/
def solitonNilUptoRow : OpenClaim := { program := "ytlbfgihnmkcgbaa", sum := "9f4c70f1f51aae74c2bfc706fbc6f7c3bfdfe3383e24fd898cee9d0efbdcb2d3", func := "downpour/downpourlaw7.SolitonNil", spec := "solitonNil", inPlace := ["sync/atomic.LoadUint32", "(*internal/sync.Mutex).Lock", "internal/race.Disable", "sync/atomic.CompareAndSwapInt32", "internal/race.Enable", "internal/race.Acquire", "(*internal/sync.Mutex).lockSlow", "internal/sync.runtime_canSpin", "internal/sync.runtime_doSpin", "internal/sync.throw", "internal/sync.runtime_nanotime", "internal/sync.runtime_SemacquireMutex", "sync/atomic.AddInt32", "(*internal/sync.Mutex).Unlock", "internal/race.ReleaseMerge", "(*internal/sync.Mutex).unlockSlow", "internal/sync.fatal", "internal/sync.runtime_Semrelease", "sync/atomic.StoreUint32"], unfollowed := true, recurses := true, apart := false, narrowed := true }
def SolitonNilUptoSaid : Prop := solitonNilUptoRow.holds Try.pinned (OpenSpec.upto solitonNilSpec)

/-- 'downpourlaw7.SolitonRises', WHERE WHAT IT READS IS OF BULK AT MOST 1048576: true; the input reads as it did. -/
def solitonRisesUptoRow : OpenClaim := { program := "ytlbfgihnmkcgbaa", sum := "9f4c70f1f51aae74c2bfc706fbc6f7c3bfdfe3383e24fd898cee9d0efbdcb2d3", func := "downpour/downpourlaw7.SolitonRises", spec := "solitonRises", inPlace := ["sync/atomic.LoadUint32", "(*internal/sync.Mutex).Lock", "internal/race.Disable", "sync/atomic.CompareAndSwapInt32", "internal/race.Enable", "internal/race.Acquire", "(*internal/sync.Mutex).lockSlow", "internal/sync.runtime_canSpin", "internal/sync.runtime_doSpin", "internal/sync.throw", "internal/sync.runtime_nanotime", "internal/sync.runtime_SemacquireMutex", "sync/atomic.AddInt32", "(*internal/sync.Mutex).Unlock", "internal/race.ReleaseMerge", "(*internal/sync.Mutex).unlockSlow", "internal/sync.fatal", "internal/sync.runtime_Semrelease", "sync/atomic.StoreUint32"], unfollowed := true, recurses := true, apart := false, narrowed := true }
def SolitonRisesUptoSaid : Prop := solitonRisesUptoRow.holds Try.pinned (OpenSpec.upto solitonRisesSpec)

/-- 'downpourlaw7.SolitonShares', WHERE WHAT IT READS IS OF BULK AT MOST 1048576: true; the input reads as it did. -/
def solitonSharesUptoRow : OpenClaim := { program := "ytlbfgihnmkcgbaa", sum := "9f4c70f1f51aae74c2bfc706fbc6f7c3bfdfe3383e24fd898cee9d0efbdcb2d3", func := "downpour/downpourlaw7.SolitonShares", spec := "solitonShares", inPlace := ["sync/atomic.LoadUint32", "(*internal/sync.Mutex).Lock", "internal/race.Disable", "sync/atomic.CompareAndSwapInt32", "internal/race.Enable", "internal/race.Acquire", "(*internal/sync.Mutex).lockSlow", "internal/sync.runtime_canSpin", "internal/sync.runtime_doSpin", "internal/sync.throw", "internal/sync.runtime_nanotime", "internal/sync.runtime_SemacquireMutex", "sync/atomic.AddInt32", "(*internal/sync.Mutex).Unlock", "internal/race.ReleaseMerge", "(*internal/sync.Mutex).unlockSlow", "internal/sync.fatal", "internal/sync.runtime_Semrelease", "sync/atomic.StoreUint32"], unfollowed := true, recurses := true, apart := false, narrowed := true }
def SolitonSharesUptoSaid : Prop := solitonSharesUptoRow.holds Try.pinned (OpenSpec.upto solitonSharesSpec)

/-- 'downpourlaw7.SolitonRoots', WHERE WHAT IT READS IS OF BULK AT MOST 1048576: true; the input reads as it did. -/
def solitonRootsUptoRow : OpenClaim := { program := "ytlbfgihnmkcgbaa", sum := "9f4c70f1f51aae74c2bfc706fbc6f7c3bfdfe3383e24fd898cee9d0efbdcb2d3", func := "downpour/downpourlaw7.SolitonRoots", spec := "solitonRoots", inPlace := ["sync/atomic.LoadUint32", "(*internal/sync.Mutex).Lock", "internal/race.Disable", "sync/atomic.CompareAndSwapInt32", "internal/race.Enable", "internal/race.Acquire", "(*internal/sync.Mutex).lockSlow", "internal/sync.runtime_canSpin", "internal/sync.runtime_doSpin", "internal/sync.throw", "internal/sync.runtime_nanotime", "internal/sync.runtime_SemacquireMutex", "sync/atomic.AddInt32", "(*internal/sync.Mutex).Unlock", "internal/race.ReleaseMerge", "(*internal/sync.Mutex).unlockSlow", "internal/sync.fatal", "internal/sync.runtime_Semrelease", "sync/atomic.StoreUint32"], unfollowed := true, recurses := true, apart := false, narrowed := true }
def SolitonRootsUptoSaid : Prop := solitonRootsUptoRow.holds Try.pinned (OpenSpec.upto solitonRootsSpec)

/-- 'downpourlaw7.SolitonWeights', WHERE WHAT IT READS IS OF BULK AT MOST 1048576: true; the input reads as it did. -/
def solitonWeightsUptoRow : OpenClaim := { program := "ytlbfgihnmkcgbaa", sum := "9f4c70f1f51aae74c2bfc706fbc6f7c3bfdfe3383e24fd898cee9d0efbdcb2d3", func := "downpour/downpourlaw7.SolitonWeights", spec := "solitonWeights", inPlace := ["sync/atomic.LoadUint32", "(*internal/sync.Mutex).Lock", "internal/race.Disable", "sync/atomic.CompareAndSwapInt32", "internal/race.Enable", "internal/race.Acquire", "(*internal/sync.Mutex).lockSlow", "internal/sync.runtime_canSpin", "internal/sync.runtime_doSpin", "internal/sync.throw", "internal/sync.runtime_nanotime", "internal/sync.runtime_SemacquireMutex", "sync/atomic.AddInt32", "(*internal/sync.Mutex).Unlock", "internal/race.ReleaseMerge", "(*internal/sync.Mutex).unlockSlow", "internal/sync.fatal", "internal/sync.runtime_Semrelease", "sync/atomic.StoreUint32"], unfollowed := true, recurses := true, apart := false, narrowed := true }
def SolitonWeightsUptoSaid : Prop := solitonWeightsUptoRow.holds Try.pinned (OpenSpec.upto solitonWeightsSpec)

end Rows
end Go.Proofs.Ytlbfgihnmkcgbaa
