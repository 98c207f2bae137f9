/-
  No cell of these rows narrows 'for every input' (looked for: loops, veiled, ifaces, maps, wideKeys, modest, calm, conditions, laid).
  DERIVED. THE GIVEN ROWS OF THIS SEAT. 5 by the template 'for every input the law returns true; each argument reads behind the call as it read before'; 0 by the template 'total and deterministic' (their statements: YtlpcdcpcfeaecaaTotals.lean).
  GIVEN WITH THE SEED: the statements are not yours to turn. If you find one false, say at which input.
  Laid BY PROGRAM, IN A SANDBOX (cutbox-rows.mjs): the forced cells as the released guide's own fill.sh prints them over the translation 4517dd30b7c1be96… (all of the seat's roots in one cut). By AI agents, Wed Nov 11 2026. No macro, syntax, notation, axiom, sorry.
-/
import Derived.Test.YtlpcdcpcfeaecaaChecked
import GoSem.Claim
import GoSem.ClaimJoined
import GoSem.ClaimMapViews
import Derived.JoinedTies
import Derived.KernelRfl
namespace Go.Proofs.Ytlpcdcpcfeaecaa
/- THE CELL 'sum', in the pinned program and in every row, IS THE sha256 OF THE DUMP (.gsa) THAT YtlpcdcpcfeaecaaProg.lean LOADS. Nothing in Lean hashes anything: it is a label: what it is worth is what the hold of that sum in a sandbox is worth. -/
noncomputable def Try.pinned : Pinned := { name := "ytlpcdcpcfeaecaa", sum := "4517dd30b7c1be9634ed01fab35c069faf30dc68c0c1102a7d6a6dd2eadc35df", checked := Try.checked }
namespace Rows
def none {H : Type} : Left H := { results := [], args := [] }

/-- 'laws.FnLives': WHATEVER THE INPUT: true; the input reads as it did. -/
def fnLivesSpec : ChangeSpec := { name := "fnLives", fn := fun _ => fun
  | [d] => { results := [.lit (.bool true)], args := [d] }
  | _ => none }
def fnLivesRow : OpenClaim := { program := "ytlpcdcpcfeaecaa", sum := "4517dd30b7c1be9634ed01fab35c069faf30dc68c0c1102a7d6a6dd2eadc35df", func := "loop.example/g00142/laws.FnLives", spec := "fnLives", unfollowed := true, recurses := true, apart := false }
def FnLivesSaid : Prop := fnLivesRow.holds Try.pinned (OpenSpec.ofChange fnLivesSpec)

/-- ITS FALSE NEIGHBOUR: 'it returns false'. Refute it at one input. -/
def fnLivesWrong : ChangeSpec := { name := "fnLives", fn := fun _ => fun
  | [d] => { results := [.lit (.bool false)], args := [d] }
  | _ => none }
def FnLivesWrongFalsely : Prop := fnLivesRow.holds Try.pinned (OpenSpec.ofChange fnLivesWrong)

/-- 'laws.FnLogs': WHATEVER THE INPUT: true; the input reads as it did. -/
def fnLogsSpec : ChangeSpec := { name := "fnLogs", fn := fun _ => fun
  | [d1, d2] => { results := [.lit (.bool true)], args := [d1, d2] }
  | _ => none }
def fnLogsRow : OpenClaim := { program := "ytlpcdcpcfeaecaa", sum := "4517dd30b7c1be9634ed01fab35c069faf30dc68c0c1102a7d6a6dd2eadc35df", func := "loop.example/g00142/laws.FnLogs", spec := "fnLogs", unfollowed := true, recurses := true, apart := false }
def FnLogsSaid : Prop := fnLogsRow.holds Try.pinned (OpenSpec.ofChange fnLogsSpec)

/-- ITS FALSE NEIGHBOUR: 'it returns false'. Refute it at one input. -/
def fnLogsWrong : ChangeSpec := { name := "fnLogs", fn := fun _ => fun
  | [d1, d2] => { results := [.lit (.bool false)], args := [d1, d2] }
  | _ => none }
def FnLogsWrongFalsely : Prop := fnLogsRow.holds Try.pinned (OpenSpec.ofChange fnLogsWrong)

/-- 'laws.FnGrows': WHATEVER THE INPUT: true; the input reads as it did. -/
def fnGrowsSpec : ChangeSpec := { name := "fnGrows", fn := fun _ => fun
  | [d1, d2] => { results := [.lit (.bool true)], args := [d1, d2] }
  | _ => none }
def fnGrowsRow : OpenClaim := { program := "ytlpcdcpcfeaecaa", sum := "4517dd30b7c1be9634ed01fab35c069faf30dc68c0c1102a7d6a6dd2eadc35df", func := "loop.example/g00142/laws.FnGrows", spec := "fnGrows", unfollowed := true, recurses := true, apart := false }
def FnGrowsSaid : Prop := fnGrowsRow.holds Try.pinned (OpenSpec.ofChange fnGrowsSpec)

/-- ITS FALSE NEIGHBOUR: 'it returns false'. Refute it at one input. -/
def fnGrowsWrong : ChangeSpec := { name := "fnGrows", fn := fun _ => fun
  | [d1, d2] => { results := [.lit (.bool false)], args := [d1, d2] }
  | _ => none }
def FnGrowsWrongFalsely : Prop := fnGrowsRow.holds Try.pinned (OpenSpec.ofChange fnGrowsWrong)

/-- 'laws.FnSafe': WHATEVER THE INPUT: true; the input reads as it did. -/
def fnSafeSpec : ChangeSpec := { name := "fnSafe", fn := fun _ => fun
  | [d1, d2] => { results := [.lit (.bool true)], args := [d1, d2] }
  | _ => none }
def fnSafeRow : OpenClaim := { program := "ytlpcdcpcfeaecaa", sum := "4517dd30b7c1be9634ed01fab35c069faf30dc68c0c1102a7d6a6dd2eadc35df", func := "loop.example/g00142/laws.FnSafe", spec := "fnSafe", unfollowed := true, recurses := true, apart := false }
def FnSafeSaid : Prop := fnSafeRow.holds Try.pinned (OpenSpec.ofChange fnSafeSpec)

/-- ITS FALSE NEIGHBOUR: 'it returns false'. Refute it at one input. -/
def fnSafeWrong : ChangeSpec := { name := "fnSafe", fn := fun _ => fun
  | [d1, d2] => { results := [.lit (.bool false)], args := [d1, d2] }
  | _ => none }
def FnSafeWrongFalsely : Prop := fnSafeRow.holds Try.pinned (OpenSpec.ofChange fnSafeWrong)

/-- 'laws.FnExactClusterRun': WHATEVER THE INPUT: true; the input reads as it did. -/
def fnExactClusterRunSpec : ChangeSpec := { name := "fnExactClusterRun", fn := fun _ => fun
  | [d1, d2] => { results := [.lit (.bool true)], args := [d1, d2] }
  | _ => none }
def fnExactClusterRunRow : OpenClaim := { program := "ytlpcdcpcfeaecaa", sum := "4517dd30b7c1be9634ed01fab35c069faf30dc68c0c1102a7d6a6dd2eadc35df", func := "loop.example/g00142/laws.FnExactClusterRun", spec := "fnExactClusterRun", unfollowed := true, recurses := true, apart := false }
def FnExactClusterRunSaid : Prop := fnExactClusterRunRow.holds Try.pinned (OpenSpec.ofChange fnExactClusterRunSpec)

/-- ITS FALSE NEIGHBOUR: 'it returns false'. Refute it at one input. -/
def fnExactClusterRunWrong : ChangeSpec := { name := "fnExactClusterRun", fn := fun _ => fun
  | [d1, d2] => { results := [.lit (.bool false)], args := [d1, d2] }
  | _ => none }
def FnExactClusterRunWrongFalsely : Prop := fnExactClusterRunRow.holds Try.pinned (OpenSpec.ofChange fnExactClusterRunWrong)

/- THE SECOND FORM. 'bulk': how many values and letters a reading holds, each counted each time it is reached (what is shared counts as often as it is met; a slice's spare places count too). A statement '..UptoSaid' is the law's where the arguments, and the package variables that the reading takes, are together of bulk at most 1048576: NARROWER than '..Said'. Prove '..Said' where nothing that the law and all that it calls make is longer than what came in: it says more and counts as full. Else prove '..UptoSaid'. A law counts once. -/
mutual
def uptoBulk {H : Type} : DataW H → Nat
  | .lit (.string bytes) => bytes.length + 1
  | .lit _ => 1
  | .nil => 1
  | .ptr d => uptoBulk d + 1
  | .slice elems spare => uptoBulkAll elems + uptoBulkAll spare + 1
  | .agg parts => uptoBulkAll parts + 1
  | .iface _ d => uptoBulk d + 1
  | .map entries => uptoBulkEntries entries + 1
  | .held _ => 1
def uptoBulkAll {H : Type} : List (DataW H) → Nat
  | [] => 0
  | d :: r => uptoBulk d + uptoBulkAll r
def uptoBulkEntries {H : Type} : List (Lit × DataW H) → Nat
  | [] => 0
  | x :: r => uptoBulkEntry x + uptoBulkEntries r
def uptoBulkEntry {H : Type} : Lit × DataW H → Nat
  | (.string bytes, d) => bytes.length + uptoBulk d + 1
  | (_, d) => uptoBulk d + 1
 end
def uptoSmall : (H : Type) → List (DataW H) → Bool := fun _ ds => decide (uptoBulkAll ds ≤ 1048576)
def OpenSpec.upto (s : _root_.Go.ChangeSpec) : _root_.Go.OpenSpec := { _root_.Go.OpenSpec.ofChange s with cond := some uptoSmall }

/-- 'laws.FnLives', WHERE WHAT IT READS IS OF BULK AT MOST 1048576: true; the input reads as it did. -/
def fnLivesUptoRow : OpenClaim := { program := "ytlpcdcpcfeaecaa", sum := "4517dd30b7c1be9634ed01fab35c069faf30dc68c0c1102a7d6a6dd2eadc35df", func := "loop.example/g00142/laws.FnLives", spec := "fnLives", unfollowed := true, recurses := true, apart := false, narrowed := true }
def FnLivesUptoSaid : Prop := fnLivesUptoRow.holds Try.pinned (OpenSpec.upto fnLivesSpec)

/-- 'laws.FnLogs', WHERE WHAT IT READS IS OF BULK AT MOST 1048576: true; the input reads as it did. -/
def fnLogsUptoRow : OpenClaim := { program := "ytlpcdcpcfeaecaa", sum := "4517dd30b7c1be9634ed01fab35c069faf30dc68c0c1102a7d6a6dd2eadc35df", func := "loop.example/g00142/laws.FnLogs", spec := "fnLogs", unfollowed := true, recurses := true, apart := false, narrowed := true }
def FnLogsUptoSaid : Prop := fnLogsUptoRow.holds Try.pinned (OpenSpec.upto fnLogsSpec)

/-- 'laws.FnGrows', WHERE WHAT IT READS IS OF BULK AT MOST 1048576: true; the input reads as it did. -/
def fnGrowsUptoRow : OpenClaim := { program := "ytlpcdcpcfeaecaa", sum := "4517dd30b7c1be9634ed01fab35c069faf30dc68c0c1102a7d6a6dd2eadc35df", func := "loop.example/g00142/laws.FnGrows", spec := "fnGrows", unfollowed := true, recurses := true, apart := false, narrowed := true }
def FnGrowsUptoSaid : Prop := fnGrowsUptoRow.holds Try.pinned (OpenSpec.upto fnGrowsSpec)

/-- 'laws.FnSafe', WHERE WHAT IT READS IS OF BULK AT MOST 1048576: true; the input reads as it did. -/
def fnSafeUptoRow : OpenClaim := { program := "ytlpcdcpcfeaecaa", sum := "4517dd30b7c1be9634ed01fab35c069faf30dc68c0c1102a7d6a6dd2eadc35df", func := "loop.example/g00142/laws.FnSafe", spec := "fnSafe", unfollowed := true, recurses := true, apart := false, narrowed := true }
def FnSafeUptoSaid : Prop := fnSafeUptoRow.holds Try.pinned (OpenSpec.upto fnSafeSpec)

/-- 'laws.FnExactClusterRun', WHERE WHAT IT READS IS OF BULK AT MOST 1048576: true; the input reads as it did. -/
def fnExactClusterRunUptoRow : OpenClaim := { program := "ytlpcdcpcfeaecaa", sum := "4517dd30b7c1be9634ed01fab35c069faf30dc68c0c1102a7d6a6dd2eadc35df", func := "loop.example/g00142/laws.FnExactClusterRun", spec := "fnExactClusterRun", unfollowed := true, recurses := true, apart := false, narrowed := true }
def FnExactClusterRunUptoSaid : Prop := fnExactClusterRunUptoRow.holds Try.pinned (OpenSpec.upto fnExactClusterRunSpec)

end Rows
end Go.Proofs.Ytlpcdcpcfeaecaa
