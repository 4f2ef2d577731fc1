/-
  No cell of these rows narrows 'for every input' (looked for: loops, veiled, ifaces, maps, wideKeys, modest, calm, conditions, laid).
  DERIVED. THE GIVEN ROWS OF THIS SEAT. 4 by the template 'for every input the law returns true; each argument reads behind the call as it read before'; 0 by the template 'total and deterministic' (their statements: YtcfobnmbgnobcaaTotals.lean).
  GIVEN WITH THE SEED: the statements are not yours to turn. If you find one false, say at which input.
  Laid BY PROGRAM, IN A SANDBOX (cutbox-rows.mjs): the forced cells as the released guide's own fill.sh prints them over the translation cb7c4f6d1a00e90f… (all of the seat's roots in one cut). By AI agents, Wed Nov 11 2026. No macro, syntax, notation, axiom, sorry.
-/
import Derived.Test.YtcfobnmbgnobcaaChecked
import GoSem.Claim
import GoSem.ClaimJoined
import GoSem.ClaimMapViews
import Derived.JoinedTies
import Derived.KernelRfl
namespace Go.Proofs.Ytcfobnmbgnobcaa
/- THE CELL 'sum', in the pinned program and in every row, IS THE sha256 OF THE DUMP (.gsa) THAT YtcfobnmbgnobcaaProg.lean LOADS. Nothing in Lean hashes anything: it is a label: what it is worth is what the hold of that sum in a sandbox is worth. -/
noncomputable def Try.pinned : Pinned := { name := "ytcfobnmbgnobcaa", sum := "cb7c4f6d1a00e90ff8ab570f79c99edba54dc80dff281d89ca0f71862bea384e", checked := Try.checked }
namespace Rows
def none {H : Type} : Left H := { results := [], args := [] }

/-- 'laws.FnExactConstants': WHATEVER THE INPUT: true; the input reads as it did. -/
def fnExactConstantsSpec : ChangeSpec := { name := "fnExactConstants", fn := fun _ => fun
  | [] => { results := [.lit (.bool true)], args := [] }
  | _ => none }
def fnExactConstantsRow : OpenClaim := { program := "ytcfobnmbgnobcaa", sum := "cb7c4f6d1a00e90ff8ab570f79c99edba54dc80dff281d89ca0f71862bea384e", func := "loop.example/mailhost/laws.FnExactConstants", spec := "fnExactConstants", apart := false }
def FnExactConstantsSaid : Prop := fnExactConstantsRow.holds Try.pinned (OpenSpec.ofChange fnExactConstantsSpec)

/-- ITS FALSE NEIGHBOUR: 'it returns false'. Refute it at one input. -/
def fnExactConstantsWrong : ChangeSpec := { name := "fnExactConstants", fn := fun _ => fun
  | [] => { results := [.lit (.bool false)], args := [] }
  | _ => none }
def FnExactConstantsWrongFalsely : Prop := fnExactConstantsRow.holds Try.pinned (OpenSpec.ofChange fnExactConstantsWrong)

/-- 'laws.FnExactFlagsHave': WHATEVER THE INPUT: true; the input reads as it did. -/
def fnExactFlagsHaveSpec : ChangeSpec := { name := "fnExactFlagsHave", fn := fun _ => fun
  | [d1, d2] => { results := [.lit (.bool true)], args := [d1, d2] }
  | _ => none }
def fnExactFlagsHaveRow : OpenClaim := { program := "ytcfobnmbgnobcaa", sum := "cb7c4f6d1a00e90ff8ab570f79c99edba54dc80dff281d89ca0f71862bea384e", func := "loop.example/mailhost/laws.FnExactFlagsHave", spec := "fnExactFlagsHave", apart := false }
def FnExactFlagsHaveSaid : Prop := fnExactFlagsHaveRow.holds Try.pinned (OpenSpec.ofChange fnExactFlagsHaveSpec)

/-- ITS FALSE NEIGHBOUR: 'it returns false'. Refute it at one input. -/
def fnExactFlagsHaveWrong : ChangeSpec := { name := "fnExactFlagsHave", fn := fun _ => fun
  | [d1, d2] => { results := [.lit (.bool false)], args := [d1, d2] }
  | _ => none }
def FnExactFlagsHaveWrongFalsely : Prop := fnExactFlagsHaveRow.holds Try.pinned (OpenSpec.ofChange fnExactFlagsHaveWrong)

/-- 'laws.FnExactFlagsChange': WHATEVER THE INPUT: true; the input reads as it did. -/
def fnExactFlagsChangeSpec : ChangeSpec := { name := "fnExactFlagsChange", fn := fun _ => fun
  | [d1, d2, d3] => { results := [.lit (.bool true)], args := [d1, d2, d3] }
  | _ => none }
def fnExactFlagsChangeRow : OpenClaim := { program := "ytcfobnmbgnobcaa", sum := "cb7c4f6d1a00e90ff8ab570f79c99edba54dc80dff281d89ca0f71862bea384e", func := "loop.example/mailhost/laws.FnExactFlagsChange", spec := "fnExactFlagsChange", unfollowed := true, recurses := true, apart := false }
def FnExactFlagsChangeSaid : Prop := fnExactFlagsChangeRow.holds Try.pinned (OpenSpec.ofChange fnExactFlagsChangeSpec)

/-- ITS FALSE NEIGHBOUR: 'it returns false'. Refute it at one input. -/
def fnExactFlagsChangeWrong : ChangeSpec := { name := "fnExactFlagsChange", fn := fun _ => fun
  | [d1, d2, d3] => { results := [.lit (.bool false)], args := [d1, d2, d3] }
  | _ => none }
def FnExactFlagsChangeWrongFalsely : Prop := fnExactFlagsChangeRow.holds Try.pinned (OpenSpec.ofChange fnExactFlagsChangeWrong)

/-- 'laws.FnChangeOrder': WHATEVER THE INPUT: true; the input reads as it did. -/
def fnChangeOrderSpec : ChangeSpec := { name := "fnChangeOrder", fn := fun _ => fun
  | [d] => { results := [.lit (.bool true)], args := [d] }
  | _ => none }
def fnChangeOrderRow : OpenClaim := { program := "ytcfobnmbgnobcaa", sum := "cb7c4f6d1a00e90ff8ab570f79c99edba54dc80dff281d89ca0f71862bea384e", func := "loop.example/mailhost/laws.FnChangeOrder", spec := "fnChangeOrder", unfollowed := true, recurses := true, apart := false }
def FnChangeOrderSaid : Prop := fnChangeOrderRow.holds Try.pinned (OpenSpec.ofChange fnChangeOrderSpec)

/-- ITS FALSE NEIGHBOUR: 'it returns false'. Refute it at one input. -/
def fnChangeOrderWrong : ChangeSpec := { name := "fnChangeOrder", fn := fun _ => fun
  | [d] => { results := [.lit (.bool false)], args := [d] }
  | _ => none }
def FnChangeOrderWrongFalsely : Prop := fnChangeOrderRow.holds Try.pinned (OpenSpec.ofChange fnChangeOrderWrong)

/- THE SECOND FORM. 'bulk': how many values and letters a reading holds, each counted each time it is reached (what is shared counts as often as it is met; a slice's spare places count too). A statement '..UptoSaid' is the law's where the arguments, and the package variables that the reading takes, are together of bulk at most 1048576: NARROWER than '..Said'. Prove '..Said' where nothing that the law and all that it calls make is longer than what came in: it says more and counts as full. Else prove '..UptoSaid'. A law counts once. -/
mutual
def uptoBulk {H : Type} : DataW H → Nat
  | .lit (.string bytes) => bytes.length + 1
  | .lit _ => 1
  | .nil => 1
  | .ptr d => uptoBulk d + 1
  | .slice elems spare => uptoBulkAll elems + uptoBulkAll spare + 1
  | .agg parts => uptoBulkAll parts + 1
  | .iface _ d => uptoBulk d + 1
  | .map entries => uptoBulkEntries entries + 1
  | .held _ => 1
def uptoBulkAll {H : Type} : List (DataW H) → Nat
  | [] => 0
  | d :: r => uptoBulk d + uptoBulkAll r
def uptoBulkEntries {H : Type} : List (Lit × DataW H) → Nat
  | [] => 0
  | x :: r => uptoBulkEntry x + uptoBulkEntries r
def uptoBulkEntry {H : Type} : Lit × DataW H → Nat
  | (.string bytes, d) => bytes.length + uptoBulk d + 1
  | (_, d) => uptoBulk d + 1
 end
def uptoSmall : (H : Type) → List (DataW H) → Bool := fun _ ds => decide (uptoBulkAll ds ≤ 1048576)
def OpenSpec.upto (s : _root_.Go.ChangeSpec) : _root_.Go.OpenSpec := { _root_.Go.OpenSpec.ofChange s with cond := some uptoSmall }

/-- 'laws.FnExactConstants', WHERE WHAT IT READS IS OF BULK AT MOST 1048576: true; the input reads as it did. -/
def fnExactConstantsUptoRow : OpenClaim := { program := "ytcfobnmbgnobcaa", sum := "cb7c4f6d1a00e90ff8ab570f79c99edba54dc80dff281d89ca0f71862bea384e", func := "loop.example/mailhost/laws.FnExactConstants", spec := "fnExactConstants", apart := false, narrowed := true }
def FnExactConstantsUptoSaid : Prop := fnExactConstantsUptoRow.holds Try.pinned (OpenSpec.upto fnExactConstantsSpec)

/-- 'laws.FnExactFlagsHave', WHERE WHAT IT READS IS OF BULK AT MOST 1048576: true; the input reads as it did. -/
def fnExactFlagsHaveUptoRow : OpenClaim := { program := "ytcfobnmbgnobcaa", sum := "cb7c4f6d1a00e90ff8ab570f79c99edba54dc80dff281d89ca0f71862bea384e", func := "loop.example/mailhost/laws.FnExactFlagsHave", spec := "fnExactFlagsHave", apart := false, narrowed := true }
def FnExactFlagsHaveUptoSaid : Prop := fnExactFlagsHaveUptoRow.holds Try.pinned (OpenSpec.upto fnExactFlagsHaveSpec)

/-- 'laws.FnExactFlagsChange', WHERE WHAT IT READS IS OF BULK AT MOST 1048576: true; the input reads as it did. -/
def fnExactFlagsChangeUptoRow : OpenClaim := { program := "ytcfobnmbgnobcaa", sum := "cb7c4f6d1a00e90ff8ab570f79c99edba54dc80dff281d89ca0f71862bea384e", func := "loop.example/mailhost/laws.FnExactFlagsChange", spec := "fnExactFlagsChange", unfollowed := true, recurses := true, apart := false, narrowed := true }
def FnExactFlagsChangeUptoSaid : Prop := fnExactFlagsChangeUptoRow.holds Try.pinned (OpenSpec.upto fnExactFlagsChangeSpec)

/-- 'laws.FnChangeOrder', WHERE WHAT IT READS IS OF BULK AT MOST 1048576: true; the input reads as it did. -/
def fnChangeOrderUptoRow : OpenClaim := { program := "ytcfobnmbgnobcaa", sum := "cb7c4f6d1a00e90ff8ab570f79c99edba54dc80dff281d89ca0f71862bea384e", func := "loop.example/mailhost/laws.FnChangeOrder", spec := "fnChangeOrder", unfollowed := true, recurses := true, apart := false, narrowed := true }
def FnChangeOrderUptoSaid : Prop := fnChangeOrderUptoRow.holds Try.pinned (OpenSpec.upto fnChangeOrderSpec)

end Rows
end Go.Proofs.Ytcfobnmbgnobcaa
