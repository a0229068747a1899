/-
  No cell of these rows narrows 'for every input' (looked for: loops, veiled, ifaces, maps, wideKeys, modest, calm, conditions, laid).
  DERIVED. THE GIVEN ROWS OF THIS SEAT. 2 by the template 'for every input the law returns true; each argument reads behind the call as it read before'; 0 by the template 'total and deterministic' (their statements: YtgihpfidacjogaaTotals.lean).
  GIVEN WITH THE SEED: the statements are not yours to turn. If you find one false, say at which input.
  Laid BY PROGRAM, IN A SANDBOX (cutbox-rows.mjs): the forced cells as the released guide's own fill.sh prints them over the translation 50ad9d812469931b… (all of the seat's roots in one cut). By AI agents, Wed Nov 11 2026. No macro, syntax, notation, axiom, sorry.
-/
import Derived.Test.YtgihpfidacjogaaChecked
import GoSem.Claim
import GoSem.ClaimJoined
import GoSem.ClaimMapViews
import Derived.JoinedTies
import Derived.KernelRfl
namespace Go.Proofs.Ytgihpfidacjogaa
/- THE CELL 'sum', in the pinned program and in every row, IS THE sha256 OF THE DUMP (.gsa) THAT YtgihpfidacjogaaProg.lean LOADS. Nothing in Lean hashes anything: it is a label: what it is worth is what the hold of that sum in a sandbox is worth. -/
noncomputable def Try.pinned : Pinned := { name := "ytgihpfidacjogaa", sum := "50ad9d812469931b37de108b8ebd7899e87d4ef477aef15f21c7f4b9bf551d4d", checked := Try.checked }
namespace Rows
def none {H : Type} : Left H := { results := [], args := [] }

/-- 'laws.FnExactScriptShow': WHATEVER THE INPUT: true; the input reads as it did. -/
def fnExactScriptShowSpec : ChangeSpec := { name := "fnExactScriptShow", fn := fun _ => fun
  | [d] => { results := [.lit (.bool true)], args := [d] }
  | _ => none }
def fnExactScriptShowRow : OpenClaim := { program := "ytgihpfidacjogaa", sum := "50ad9d812469931b37de108b8ebd7899e87d4ef477aef15f21c7f4b9bf551d4d", func := "loop.example/fretwork/laws.FnExactScriptShow", spec := "fnExactScriptShow", apart := false }
def FnExactScriptShowSaid : Prop := fnExactScriptShowRow.holds Try.pinned (OpenSpec.ofChange fnExactScriptShowSpec)

/-- ITS FALSE NEIGHBOUR: 'it returns false'. Refute it at one input. -/
def fnExactScriptShowWrong : ChangeSpec := { name := "fnExactScriptShow", fn := fun _ => fun
  | [d] => { results := [.lit (.bool false)], args := [d] }
  | _ => none }
def FnExactScriptShowWrongFalsely : Prop := fnExactScriptShowRow.holds Try.pinned (OpenSpec.ofChange fnExactScriptShowWrong)

/-- 'laws.FnScriptShow': WHATEVER THE INPUT: true; the input reads as it did. -/
def fnScriptShowSpec : ChangeSpec := { name := "fnScriptShow", fn := fun _ => fun
  | [d] => { results := [.lit (.bool true)], args := [d] }
  | _ => none }
def fnScriptShowRow : OpenClaim := { program := "ytgihpfidacjogaa", sum := "50ad9d812469931b37de108b8ebd7899e87d4ef477aef15f21c7f4b9bf551d4d", func := "loop.example/fretwork/laws.FnScriptShow", spec := "fnScriptShow", apart := false }
def FnScriptShowSaid : Prop := fnScriptShowRow.holds Try.pinned (OpenSpec.ofChange fnScriptShowSpec)

/-- ITS FALSE NEIGHBOUR: 'it returns false'. Refute it at one input. -/
def fnScriptShowWrong : ChangeSpec := { name := "fnScriptShow", fn := fun _ => fun
  | [d] => { results := [.lit (.bool false)], args := [d] }
  | _ => none }
def FnScriptShowWrongFalsely : Prop := fnScriptShowRow.holds Try.pinned (OpenSpec.ofChange fnScriptShowWrong)

/- THE SECOND FORM. 'bulk': how many values and letters a reading holds, each counted each time it is reached (what is shared counts as often as it is met; a slice's spare places count too). A statement '..UptoSaid' is the law's where the arguments, and the package variables that the reading takes, are together of bulk at most 1048576: NARROWER than '..Said'. Prove '..Said' where nothing that the law and all that it calls make is longer than what came in: it says more and counts as full. Else prove '..UptoSaid'. A law counts once. -/
mutual
def uptoBulk {H : Type} : DataW H → Nat
  | .lit (.string bytes) => bytes.length + 1
  | .lit _ => 1
  | .nil => 1
  | .ptr d => uptoBulk d + 1
  | .slice elems spare => uptoBulkAll elems + uptoBulkAll spare + 1
  | .agg parts => uptoBulkAll parts + 1
  | .iface _ d => uptoBulk d + 1
  | .map entries => uptoBulkEntries entries + 1
  | .held _ => 1
def uptoBulkAll {H : Type} : List (DataW H) → Nat
  | [] => 0
  | d :: r => uptoBulk d + uptoBulkAll r
def uptoBulkEntries {H : Type} : List (Lit × DataW H) → Nat
  | [] => 0
  | x :: r => uptoBulkEntry x + uptoBulkEntries r
def uptoBulkEntry {H : Type} : Lit × DataW H → Nat
  | (.string bytes, d) => bytes.length + uptoBulk d + 1
  | (_, d) => uptoBulk d + 1
 end
def uptoSmall : (H : Type) → List (DataW H) → Bool := fun _ ds => decide (uptoBulkAll ds ≤ 1048576)
def OpenSpec.upto (s : _root_.Go.ChangeSpec) : _root_.Go.OpenSpec := { _root_.Go.OpenSpec.ofChange s with cond := some uptoSmall }

/-- 'laws.FnExactScriptShow', WHERE WHAT IT READS IS OF BULK AT MOST 1048576: true; the input reads as it did. -/
def fnExactScriptShowUptoRow : OpenClaim := { program := "ytgihpfidacjogaa", sum := "50ad9d812469931b37de108b8ebd7899e87d4ef477aef15f21c7f4b9bf551d4d", func := "loop.example/fretwork/laws.FnExactScriptShow", spec := "fnExactScriptShow", apart := false, narrowed := true }
def FnExactScriptShowUptoSaid : Prop := fnExactScriptShowUptoRow.holds Try.pinned (OpenSpec.upto fnExactScriptShowSpec)

/-- 'laws.FnScriptShow', WHERE WHAT IT READS IS OF BULK AT MOST 1048576: true; the input reads as it did. -/
def fnScriptShowUptoRow : OpenClaim := { program := "ytgihpfidacjogaa", sum := "50ad9d812469931b37de108b8ebd7899e87d4ef477aef15f21c7f4b9bf551d4d", func := "loop.example/fretwork/laws.FnScriptShow", spec := "fnScriptShow", apart := false, narrowed := true }
def FnScriptShowUptoSaid : Prop := fnScriptShowUptoRow.holds Try.pinned (OpenSpec.upto fnScriptShowSpec)

end Rows
end Go.Proofs.Ytgihpfidacjogaa
