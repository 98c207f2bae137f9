/-
  No cell of these rows narrows 'for every input' (looked for: loops, veiled, ifaces, maps, wideKeys, modest, calm, conditions, laid).
  DERIVED. THE GIVEN ROWS OF THIS SEAT. 6 by the template 'for every input the law returns true; each argument reads behind the call as it read before'; 0 by the template 'total and deterministic' (their statements: YtbdebjoagckcpaaTotals.lean).
  GIVEN WITH THE SEED: the statements are not yours to turn. If you find one false, say at which input.
  Laid BY PROGRAM, IN A SANDBOX (cutbox-rows.mjs): the forced cells as the released guide's own fill.sh prints them over the translation 0342f213a837f228… (all of the seat's roots in one cut). By AI agents, Wed Nov 11 2026. No macro, syntax, notation, axiom, sorry.
-/
import Derived.Test.YtbdebjoagckcpaaChecked
import GoSem.Claim
import GoSem.ClaimJoined
import GoSem.ClaimMapViews
import Derived.JoinedTies
import Derived.KernelRfl
namespace Go.Proofs.Ytbdebjoagckcpaa
/- THE CELL 'sum', in the pinned program and in every row, IS THE sha256 OF THE DUMP (.gsa) THAT YtbdebjoagckcpaaProg.lean LOADS. Nothing in Lean hashes anything: it is a label: what it is worth is what the hold of that sum in a sandbox is worth. -/
noncomputable def Try.pinned : Pinned := { name := "ytbdebjoagckcpaa", sum := "0342f213a837f22836e0ceb41a0f8c01973b13d25bedf9fc0be14d5c92a4cabb", checked := Try.checked }
namespace Rows
def none {H : Type} : Left H := { results := [], args := [] }

/-- 'laws.FnExactMajority': WHATEVER THE INPUT: true; the input reads as it did. -/
def fnExactMajoritySpec : ChangeSpec := { name := "fnExactMajority", fn := fun _ => fun
  | [d] => { results := [.lit (.bool true)], args := [d] }
  | _ => none }
def fnExactMajorityRow : OpenClaim := { program := "ytbdebjoagckcpaa", sum := "0342f213a837f22836e0ceb41a0f8c01973b13d25bedf9fc0be14d5c92a4cabb", func := "loop.example/g00142/laws.FnExactMajority", spec := "fnExactMajority", apart := false }
def FnExactMajoritySaid : Prop := fnExactMajorityRow.holds Try.pinned (OpenSpec.ofChange fnExactMajoritySpec)

/-- ITS FALSE NEIGHBOUR: 'it returns false'. Refute it at one input. -/
def fnExactMajorityWrong : ChangeSpec := { name := "fnExactMajority", fn := fun _ => fun
  | [d] => { results := [.lit (.bool false)], args := [d] }
  | _ => none }
def FnExactMajorityWrongFalsely : Prop := fnExactMajorityRow.holds Try.pinned (OpenSpec.ofChange fnExactMajorityWrong)

/-- 'laws.FnLives': WHATEVER THE INPUT: true; the input reads as it did. -/
def fnLivesSpec : ChangeSpec := { name := "fnLives", fn := fun _ => fun
  | [d] => { results := [.lit (.bool true)], args := [d] }
  | _ => none }
def fnLivesRow : OpenClaim := { program := "ytbdebjoagckcpaa", sum := "0342f213a837f22836e0ceb41a0f8c01973b13d25bedf9fc0be14d5c92a4cabb", func := "loop.example/g00142/laws.FnLives", spec := "fnLives", unfollowed := true, recurses := true, apart := false }
def FnLivesSaid : Prop := fnLivesRow.holds Try.pinned (OpenSpec.ofChange fnLivesSpec)

/-- ITS FALSE NEIGHBOUR: 'it returns false'. Refute it at one input. -/
def fnLivesWrong : ChangeSpec := { name := "fnLives", fn := fun _ => fun
  | [d] => { results := [.lit (.bool false)], args := [d] }
  | _ => none }
def FnLivesWrongFalsely : Prop := fnLivesRow.holds Try.pinned (OpenSpec.ofChange fnLivesWrong)

/-- 'laws.FnWal': WHATEVER THE INPUT: true; the input reads as it did. -/
def fnWalSpec : ChangeSpec := { name := "fnWal", fn := fun _ => fun
  | [d1, d2] => { results := [.lit (.bool true)], args := [d1, d2] }
  | _ => none }
def fnWalRow : OpenClaim := { program := "ytbdebjoagckcpaa", sum := "0342f213a837f22836e0ceb41a0f8c01973b13d25bedf9fc0be14d5c92a4cabb", func := "loop.example/g00142/laws.FnWal", spec := "fnWal", apart := false }
def FnWalSaid : Prop := fnWalRow.holds Try.pinned (OpenSpec.ofChange fnWalSpec)

/-- ITS FALSE NEIGHBOUR: 'it returns false'. Refute it at one input. -/
def fnWalWrong : ChangeSpec := { name := "fnWal", fn := fun _ => fun
  | [d1, d2] => { results := [.lit (.bool false)], args := [d1, d2] }
  | _ => none }
def FnWalWrongFalsely : Prop := fnWalRow.holds Try.pinned (OpenSpec.ofChange fnWalWrong)

/-- 'laws.FnRecovers': WHATEVER THE INPUT: true; the input reads as it did. -/
def fnRecoversSpec : ChangeSpec := { name := "fnRecovers", fn := fun _ => fun
  | [d1, d2] => { results := [.lit (.bool true)], args := [d1, d2] }
  | _ => none }
def fnRecoversRow : OpenClaim := { program := "ytbdebjoagckcpaa", sum := "0342f213a837f22836e0ceb41a0f8c01973b13d25bedf9fc0be14d5c92a4cabb", func := "loop.example/g00142/laws.FnRecovers", spec := "fnRecovers", apart := false }
def FnRecoversSaid : Prop := fnRecoversRow.holds Try.pinned (OpenSpec.ofChange fnRecoversSpec)

/-- ITS FALSE NEIGHBOUR: 'it returns false'. Refute it at one input. -/
def fnRecoversWrong : ChangeSpec := { name := "fnRecovers", fn := fun _ => fun
  | [d1, d2] => { results := [.lit (.bool false)], args := [d1, d2] }
  | _ => none }
def FnRecoversWrongFalsely : Prop := fnRecoversRow.holds Try.pinned (OpenSpec.ofChange fnRecoversWrong)

/-- 'laws.FnExactRecover': WHATEVER THE INPUT: true; the input reads as it did. -/
def fnExactRecoverSpec : ChangeSpec := { name := "fnExactRecover", fn := fun _ => fun
  | [d] => { results := [.lit (.bool true)], args := [d] }
  | _ => none }
def fnExactRecoverRow : OpenClaim := { program := "ytbdebjoagckcpaa", sum := "0342f213a837f22836e0ceb41a0f8c01973b13d25bedf9fc0be14d5c92a4cabb", func := "loop.example/g00142/laws.FnExactRecover", spec := "fnExactRecover", apart := false }
def FnExactRecoverSaid : Prop := fnExactRecoverRow.holds Try.pinned (OpenSpec.ofChange fnExactRecoverSpec)

/-- ITS FALSE NEIGHBOUR: 'it returns false'. Refute it at one input. -/
def fnExactRecoverWrong : ChangeSpec := { name := "fnExactRecover", fn := fun _ => fun
  | [d] => { results := [.lit (.bool false)], args := [d] }
  | _ => none }
def FnExactRecoverWrongFalsely : Prop := fnExactRecoverRow.holds Try.pinned (OpenSpec.ofChange fnExactRecoverWrong)

/-- 'laws.FnExactAgree': WHATEVER THE INPUT: true; the input reads as it did. -/
def fnExactAgreeSpec : ChangeSpec := { name := "fnExactAgree", fn := fun _ => fun
  | [d] => { results := [.lit (.bool true)], args := [d] }
  | _ => none }
def fnExactAgreeRow : OpenClaim := { program := "ytbdebjoagckcpaa", sum := "0342f213a837f22836e0ceb41a0f8c01973b13d25bedf9fc0be14d5c92a4cabb", func := "loop.example/g00142/laws.FnExactAgree", spec := "fnExactAgree", unfollowed := true, recurses := true, apart := false }
def FnExactAgreeSaid : Prop := fnExactAgreeRow.holds Try.pinned (OpenSpec.ofChange fnExactAgreeSpec)

/-- ITS FALSE NEIGHBOUR: 'it returns false'. Refute it at one input. -/
def fnExactAgreeWrong : ChangeSpec := { name := "fnExactAgree", fn := fun _ => fun
  | [d] => { results := [.lit (.bool false)], args := [d] }
  | _ => none }
def FnExactAgreeWrongFalsely : Prop := fnExactAgreeRow.holds Try.pinned (OpenSpec.ofChange fnExactAgreeWrong)

/- THE SECOND FORM. 'bulk': how many values and letters a reading holds, each counted each time it is reached (what is shared counts as often as it is met; a slice's spare places count too). A statement '..UptoSaid' is the law's where the arguments, and the package variables that the reading takes, are together of bulk at most 1048576: NARROWER than '..Said'. Prove '..Said' where nothing that the law and all that it calls make is longer than what came in: it says more and counts as full. Else prove '..UptoSaid'. A law counts once. -/
mutual
def uptoBulk {H : Type} : DataW H → Nat
  | .lit (.string bytes) => bytes.length + 1
  | .lit _ => 1
  | .nil => 1
  | .ptr d => uptoBulk d + 1
  | .slice elems spare => uptoBulkAll elems + uptoBulkAll spare + 1
  | .agg parts => uptoBulkAll parts + 1
  | .iface _ d => uptoBulk d + 1
  | .map entries => uptoBulkEntries entries + 1
  | .held _ => 1
def uptoBulkAll {H : Type} : List (DataW H) → Nat
  | [] => 0
  | d :: r => uptoBulk d + uptoBulkAll r
def uptoBulkEntries {H : Type} : List (Lit × DataW H) → Nat
  | [] => 0
  | x :: r => uptoBulkEntry x + uptoBulkEntries r
def uptoBulkEntry {H : Type} : Lit × DataW H → Nat
  | (.string bytes, d) => bytes.length + uptoBulk d + 1
  | (_, d) => uptoBulk d + 1
 end
def uptoSmall : (H : Type) → List (DataW H) → Bool := fun _ ds => decide (uptoBulkAll ds ≤ 1048576)
def OpenSpec.upto (s : _root_.Go.ChangeSpec) : _root_.Go.OpenSpec := { _root_.Go.OpenSpec.ofChange s with cond := some uptoSmall }

/-- 'laws.FnExactMajority', WHERE WHAT IT READS IS OF BULK AT MOST 1048576: true; the input reads as it did. -/
def fnExactMajorityUptoRow : OpenClaim := { program := "ytbdebjoagckcpaa", sum := "0342f213a837f22836e0ceb41a0f8c01973b13d25bedf9fc0be14d5c92a4cabb", func := "loop.example/g00142/laws.FnExactMajority", spec := "fnExactMajority", apart := false, narrowed := true }
def FnExactMajorityUptoSaid : Prop := fnExactMajorityUptoRow.holds Try.pinned (OpenSpec.upto fnExactMajoritySpec)

/-- 'laws.FnLives', WHERE WHAT IT READS IS OF BULK AT MOST 1048576: true; the input reads as it did. -/
def fnLivesUptoRow : OpenClaim := { program := "ytbdebjoagckcpaa", sum := "0342f213a837f22836e0ceb41a0f8c01973b13d25bedf9fc0be14d5c92a4cabb", func := "loop.example/g00142/laws.FnLives", spec := "fnLives", unfollowed := true, recurses := true, apart := false, narrowed := true }
def FnLivesUptoSaid : Prop := fnLivesUptoRow.holds Try.pinned (OpenSpec.upto fnLivesSpec)

/-- 'laws.FnWal', WHERE WHAT IT READS IS OF BULK AT MOST 1048576: true; the input reads as it did. -/
def fnWalUptoRow : OpenClaim := { program := "ytbdebjoagckcpaa", sum := "0342f213a837f22836e0ceb41a0f8c01973b13d25bedf9fc0be14d5c92a4cabb", func := "loop.example/g00142/laws.FnWal", spec := "fnWal", apart := false, narrowed := true }
def FnWalUptoSaid : Prop := fnWalUptoRow.holds Try.pinned (OpenSpec.upto fnWalSpec)

/-- 'laws.FnRecovers', WHERE WHAT IT READS IS OF BULK AT MOST 1048576: true; the input reads as it did. -/
def fnRecoversUptoRow : OpenClaim := { program := "ytbdebjoagckcpaa", sum := "0342f213a837f22836e0ceb41a0f8c01973b13d25bedf9fc0be14d5c92a4cabb", func := "loop.example/g00142/laws.FnRecovers", spec := "fnRecovers", apart := false, narrowed := true }
def FnRecoversUptoSaid : Prop := fnRecoversUptoRow.holds Try.pinned (OpenSpec.upto fnRecoversSpec)

/-- 'laws.FnExactRecover', WHERE WHAT IT READS IS OF BULK AT MOST 1048576: true; the input reads as it did. -/
def fnExactRecoverUptoRow : OpenClaim := { program := "ytbdebjoagckcpaa", sum := "0342f213a837f22836e0ceb41a0f8c01973b13d25bedf9fc0be14d5c92a4cabb", func := "loop.example/g00142/laws.FnExactRecover", spec := "fnExactRecover", apart := false, narrowed := true }
def FnExactRecoverUptoSaid : Prop := fnExactRecoverUptoRow.holds Try.pinned (OpenSpec.upto fnExactRecoverSpec)

/-- 'laws.FnExactAgree', WHERE WHAT IT READS IS OF BULK AT MOST 1048576: true; the input reads as it did. -/
def fnExactAgreeUptoRow : OpenClaim := { program := "ytbdebjoagckcpaa", sum := "0342f213a837f22836e0ceb41a0f8c01973b13d25bedf9fc0be14d5c92a4cabb", func := "loop.example/g00142/laws.FnExactAgree", spec := "fnExactAgree", unfollowed := true, recurses := true, apart := false, narrowed := true }
def FnExactAgreeUptoSaid : Prop := fnExactAgreeUptoRow.holds Try.pinned (OpenSpec.upto fnExactAgreeSpec)

end Rows
end Go.Proofs.Ytbdebjoagckcpaa
