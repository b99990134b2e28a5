/-
  No cell of these rows narrows 'for every input' (looked for: loops, veiled, ifaces, maps, wideKeys, modest, calm, conditions, laid).
  DERIVED. THE GIVEN ROWS OF THIS SEAT. 5 by the template 'for every input the law returns true; each argument reads behind the call as it read before'; 0 by the template 'total and deterministic' (their statements: YtgokmkceplkngaaTotals.lean).
  GIVEN WITH THE SEED: the statements are not yours to turn. If you find one false, say at which input.
  Laid BY PROGRAM, IN A SANDBOX (cutbox-rows.mjs): the forced cells as the released guide's own fill.sh prints them over the translation 7b7c531f9e64ea5f… (all of the seat's roots in one cut). By AI agents, Wed Nov 11 2026. No macro, syntax, notation, axiom, sorry.
-/
import Derived.Test.YtgokmkceplkngaaChecked
import GoSem.Claim
import GoSem.ClaimJoined
import GoSem.ClaimMapViews
import Derived.JoinedTies
import Derived.KernelRfl
namespace Go.Proofs.Ytgokmkceplkngaa
/- THE CELL 'sum', in the pinned program and in every row, IS THE sha256 OF THE DUMP (.gsa) THAT YtgokmkceplkngaaProg.lean LOADS. Nothing in Lean hashes anything: it is a label: what it is worth is what the hold of that sum in a sandbox is worth. -/
noncomputable def Try.pinned : Pinned := { name := "ytgokmkceplkngaa", sum := "7b7c531f9e64ea5f8382066a1ca6232a44cf98e13e296d0a29c291449020c959", checked := Try.checked }
namespace Rows
def none {H : Type} : Left H := { results := [], args := [] }

/-- 'bowlinelaw16.UmtxNumbers': WHATEVER THE INPUT: true; the input reads as it did. -/
def umtxNumbersSpec : ChangeSpec := { name := "umtxNumbers", fn := fun _ => fun
  | [d1, d2] => { results := [.lit (.bool true)], args := [d1, d2] }
  | _ => none }
def umtxNumbersRow : OpenClaim := { program := "ytgokmkceplkngaa", sum := "7b7c531f9e64ea5f8382066a1ca6232a44cf98e13e296d0a29c291449020c959", func := "bowline/bowlinelaw16.UmtxNumbers", spec := "umtxNumbers", inPlace := ["internal/bytealg.MakeNoZero"], unfollowed := true, recurses := true, apart := false }
def UmtxNumbersSaid : Prop := umtxNumbersRow.holds Try.pinned (OpenSpec.ofChange umtxNumbersSpec)

/-- ITS FALSE NEIGHBOUR: 'it returns false'. Refute it at one input. -/
def umtxNumbersWrong : ChangeSpec := { name := "umtxNumbers", fn := fun _ => fun
  | [d1, d2] => { results := [.lit (.bool false)], args := [d1, d2] }
  | _ => none }
def UmtxNumbersWrongFalsely : Prop := umtxNumbersRow.holds Try.pinned (OpenSpec.ofChange umtxNumbersWrong)

/-- 'bowlinelaw15.PlainLives': WHATEVER THE INPUT: true; the input reads as it did. -/
def plainLivesSpec : ChangeSpec := { name := "plainLives", fn := fun _ => fun
  | [d1, d2] => { results := [.lit (.bool true)], args := [d1, d2] }
  | _ => none }
def plainLivesRow : OpenClaim := { program := "ytgokmkceplkngaa", sum := "7b7c531f9e64ea5f8382066a1ca6232a44cf98e13e296d0a29c291449020c959", func := "bowline/bowlinelaw15.PlainLives", spec := "plainLives", unfollowed := true, recurses := true, apart := false }
def PlainLivesSaid : Prop := plainLivesRow.holds Try.pinned (OpenSpec.ofChange plainLivesSpec)

/-- ITS FALSE NEIGHBOUR: 'it returns false'. Refute it at one input. -/
def plainLivesWrong : ChangeSpec := { name := "plainLives", fn := fun _ => fun
  | [d1, d2] => { results := [.lit (.bool false)], args := [d1, d2] }
  | _ => none }
def PlainLivesWrongFalsely : Prop := plainLivesRow.holds Try.pinned (OpenSpec.ofChange plainLivesWrong)

/-- 'bowlinelaw12.PduBack': WHATEVER THE INPUT: true; the input reads as it did. -/
def pduBackSpec : ChangeSpec := { name := "pduBack", fn := fun _ => fun
  | [d1, d2, d3] => { results := [.lit (.bool true)], args := [d1, d2, d3] }
  | _ => none }
def pduBackRow : OpenClaim := { program := "ytgokmkceplkngaa", sum := "7b7c531f9e64ea5f8382066a1ca6232a44cf98e13e296d0a29c291449020c959", func := "bowline/bowlinelaw12.PduBack", spec := "pduBack", inPlace := ["internal/bytealg.MakeNoZero"], unfollowed := true, recurses := true, apart := false }
def PduBackSaid : Prop := pduBackRow.holds Try.pinned (OpenSpec.ofChange pduBackSpec)

/-- ITS FALSE NEIGHBOUR: 'it returns false'. Refute it at one input. -/
def pduBackWrong : ChangeSpec := { name := "pduBack", fn := fun _ => fun
  | [d1, d2, d3] => { results := [.lit (.bool false)], args := [d1, d2, d3] }
  | _ => none }
def PduBackWrongFalsely : Prop := pduBackRow.holds Try.pinned (OpenSpec.ofChange pduBackWrong)

/-- 'bowlinelaw12.PduKinds': WHATEVER THE INPUT: true; the input reads as it did. -/
def pduKindsSpec : ChangeSpec := { name := "pduKinds", fn := fun _ => fun
  | [d1, d2] => { results := [.lit (.bool true)], args := [d1, d2] }
  | _ => none }
def pduKindsRow : OpenClaim := { program := "ytgokmkceplkngaa", sum := "7b7c531f9e64ea5f8382066a1ca6232a44cf98e13e296d0a29c291449020c959", func := "bowline/bowlinelaw12.PduKinds", spec := "pduKinds", inPlace := ["internal/bytealg.MakeNoZero"], unfollowed := true, recurses := true, apart := false }
def PduKindsSaid : Prop := pduKindsRow.holds Try.pinned (OpenSpec.ofChange pduKindsSpec)

/-- ITS FALSE NEIGHBOUR: 'it returns false'. Refute it at one input. -/
def pduKindsWrong : ChangeSpec := { name := "pduKinds", fn := fun _ => fun
  | [d1, d2] => { results := [.lit (.bool false)], args := [d1, d2] }
  | _ => none }
def PduKindsWrongFalsely : Prop := pduKindsRow.holds Try.pinned (OpenSpec.ofChange pduKindsWrong)

/-- 'bowlinelaw17.UmrxOnce': WHATEVER THE INPUT: true; the input reads as it did. -/
def umrxOnceSpec : ChangeSpec := { name := "umrxOnce", fn := fun _ => fun
  | [d1, d2] => { results := [.lit (.bool true)], args := [d1, d2] }
  | _ => none }
def umrxOnceRow : OpenClaim := { program := "ytgokmkceplkngaa", sum := "7b7c531f9e64ea5f8382066a1ca6232a44cf98e13e296d0a29c291449020c959", func := "bowline/bowlinelaw17.UmrxOnce", spec := "umrxOnce", unfollowed := true, recurses := true, apart := false }
def UmrxOnceSaid : Prop := umrxOnceRow.holds Try.pinned (OpenSpec.ofChange umrxOnceSpec)

/-- ITS FALSE NEIGHBOUR: 'it returns false'. Refute it at one input. -/
def umrxOnceWrong : ChangeSpec := { name := "umrxOnce", fn := fun _ => fun
  | [d1, d2] => { results := [.lit (.bool false)], args := [d1, d2] }
  | _ => none }
def UmrxOnceWrongFalsely : Prop := umrxOnceRow.holds Try.pinned (OpenSpec.ofChange umrxOnceWrong)

/- THE SECOND FORM. 'bulk': how many values and letters a reading holds, each counted each time it is reached (what is shared counts as often as it is met; a slice's spare places count too). A statement '..UptoSaid' is the law's where the arguments, and the package variables that the reading takes, are together of bulk at most 1048576: NARROWER than '..Said'. Prove '..Said' where nothing that the law and all that it calls make is longer than what came in: it says more and counts as full. Else prove '..UptoSaid'. A law counts once. -/
mutual
def uptoBulk {H : Type} : DataW H → Nat
  | .lit (.string bytes) => bytes.length + 1
  | .lit _ => 1
  | .nil => 1
  | .ptr d => uptoBulk d + 1
  | .slice elems spare => uptoBulkAll elems + uptoBulkAll spare + 1
  | .agg parts => uptoBulkAll parts + 1
  | .iface _ d => uptoBulk d + 1
  | .map entries => uptoBulkEntries entries + 1
  | .held _ => 1
def uptoBulkAll {H : Type} : List (DataW H) → Nat
  | [] => 0
  | d :: r => uptoBulk d + uptoBulkAll r
def uptoBulkEntries {H : Type} : List (Lit × DataW H) → Nat
  | [] => 0
  | x :: r => uptoBulkEntry x + uptoBulkEntries r
def uptoBulkEntry {H : Type} : Lit × DataW H → Nat
  | (.string bytes, d) => bytes.length + uptoBulk d + 1
  | (_, d) => uptoBulk d + 1
 end
def uptoSmall : (H : Type) → List (DataW H) → Bool := fun _ ds => decide (uptoBulkAll ds ≤ 1048576)
def OpenSpec.upto (s : _root_.Go.ChangeSpec) : _root_.Go.OpenSpec := { _root_.Go.OpenSpec.ofChange s with cond := some uptoSmall }

/-- 'bowlinelaw16.UmtxNumbers', WHERE WHAT IT READS IS OF BULK AT MOST 1048576: true; the input reads as it did. -/
def umtxNumbersUptoRow : OpenClaim := { program := "ytgokmkceplkngaa", sum := "7b7c531f9e64ea5f8382066a1ca6232a44cf98e13e296d0a29c291449020c959", func := "bowline/bowlinelaw16.UmtxNumbers", spec := "umtxNumbers", inPlace := ["internal/bytealg.MakeNoZero"], unfollowed := true, recurses := true, apart := false, narrowed := true }
def UmtxNumbersUptoSaid : Prop := umtxNumbersUptoRow.holds Try.pinned (OpenSpec.upto umtxNumbersSpec)

/-- 'bowlinelaw15.PlainLives', WHERE WHAT IT READS IS OF BULK AT MOST 1048576: true; the input reads as it did. -/
def plainLivesUptoRow : OpenClaim := { program := "ytgokmkceplkngaa", sum := "7b7c531f9e64ea5f8382066a1ca6232a44cf98e13e296d0a29c291449020c959", func := "bowline/bowlinelaw15.PlainLives", spec := "plainLives", unfollowed := true, recurses := true, apart := false, narrowed := true }
def PlainLivesUptoSaid : Prop := plainLivesUptoRow.holds Try.pinned (OpenSpec.upto plainLivesSpec)

/-- 'bowlinelaw12.PduBack', WHERE WHAT IT READS IS OF BULK AT MOST 1048576: true; the input reads as it did. -/
def pduBackUptoRow : OpenClaim := { program := "ytgokmkceplkngaa", sum := "7b7c531f9e64ea5f8382066a1ca6232a44cf98e13e296d0a29c291449020c959", func := "bowline/bowlinelaw12.PduBack", spec := "pduBack", inPlace := ["internal/bytealg.MakeNoZero"], unfollowed := true, recurses := true, apart := false, narrowed := true }
def PduBackUptoSaid : Prop := pduBackUptoRow.holds Try.pinned (OpenSpec.upto pduBackSpec)

/-- 'bowlinelaw12.PduKinds', WHERE WHAT IT READS IS OF BULK AT MOST 1048576: true; the input reads as it did. -/
def pduKindsUptoRow : OpenClaim := { program := "ytgokmkceplkngaa", sum := "7b7c531f9e64ea5f8382066a1ca6232a44cf98e13e296d0a29c291449020c959", func := "bowline/bowlinelaw12.PduKinds", spec := "pduKinds", inPlace := ["internal/bytealg.MakeNoZero"], unfollowed := true, recurses := true, apart := false, narrowed := true }
def PduKindsUptoSaid : Prop := pduKindsUptoRow.holds Try.pinned (OpenSpec.upto pduKindsSpec)

/-- 'bowlinelaw17.UmrxOnce', WHERE WHAT IT READS IS OF BULK AT MOST 1048576: true; the input reads as it did. -/
def umrxOnceUptoRow : OpenClaim := { program := "ytgokmkceplkngaa", sum := "7b7c531f9e64ea5f8382066a1ca6232a44cf98e13e296d0a29c291449020c959", func := "bowline/bowlinelaw17.UmrxOnce", spec := "umrxOnce", unfollowed := true, recurses := true, apart := false, narrowed := true }
def UmrxOnceUptoSaid : Prop := umrxOnceUptoRow.holds Try.pinned (OpenSpec.upto umrxOnceSpec)

end Rows
end Go.Proofs.Ytgokmkceplkngaa
