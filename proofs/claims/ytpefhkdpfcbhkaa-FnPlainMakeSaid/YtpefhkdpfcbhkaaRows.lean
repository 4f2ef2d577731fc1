/-
  No cell of these rows narrows 'for every input' (looked for: loops, veiled, ifaces, maps, wideKeys, modest, calm, conditions, laid).
  DERIVED. THE GIVEN ROWS OF THIS SEAT. 4 by the template 'for every input the law returns true; each argument reads behind the call as it read before'; 0 by the template 'total and deterministic' (their statements: YtpefhkdpfcbhkaaTotals.lean).
  GIVEN WITH THE SEED: the statements are not yours to turn. If you find one false, say at which input.
  Laid BY PROGRAM, IN A SANDBOX (cutbox-rows.mjs): the forced cells as the released guide's own fill.sh prints them over the translation 8e676125c69cff10… (all of the seat's roots in one cut). By AI agents, Wed Nov 11 2026. No macro, syntax, notation, axiom, sorry.
-/
import Derived.Test.YtpefhkdpfcbhkaaChecked
import GoSem.Claim
import GoSem.ClaimJoined
import GoSem.ClaimMapViews
import Derived.JoinedTies
import Derived.KernelRfl
namespace Go.Proofs.Ytpefhkdpfcbhkaa
/- THE CELL 'sum', in the pinned program and in every row, IS THE sha256 OF THE DUMP (.gsa) THAT YtpefhkdpfcbhkaaProg.lean LOADS. Nothing in Lean hashes anything: it is a label: what it is worth is what the hold of that sum in a sandbox is worth. -/
noncomputable def Try.pinned : Pinned := { name := "ytpefhkdpfcbhkaa", sum := "8e676125c69cff10d971fc45c8fb8d898cd11d2e4602523ebbb380ab88826529", checked := Try.checked }
namespace Rows
def none {H : Type} : Left H := { results := [], args := [] }

/-- 'laws.FnPlainMake': WHATEVER THE INPUT: true; the input reads as it did. -/
def fnPlainMakeSpec : ChangeSpec := { name := "fnPlainMake", fn := fun _ => fun
  | [d] => { results := [.lit (.bool true)], args := [d] }
  | _ => none }
def fnPlainMakeRow : OpenClaim := { program := "ytpefhkdpfcbhkaa", sum := "8e676125c69cff10d971fc45c8fb8d898cd11d2e4602523ebbb380ab88826529", func := "loop.example/mailhost/laws.FnPlainMake", spec := "fnPlainMake", inPlace := ["internal/abi.NoEscape", "internal/bytealg.IndexByteString", "internal/bytealg.IndexString"], unfollowed := true, recurses := true, named := ["internal/bytealg.MaxLen"], apart := false }
def FnPlainMakeSaid : Prop := fnPlainMakeRow.holds Try.pinned (OpenSpec.ofChange fnPlainMakeSpec)

/-- ITS FALSE NEIGHBOUR: 'it returns false'. Refute it at one input. -/
def fnPlainMakeWrong : ChangeSpec := { name := "fnPlainMake", fn := fun _ => fun
  | [d] => { results := [.lit (.bool false)], args := [d] }
  | _ => none }
def FnPlainMakeWrongFalsely : Prop := fnPlainMakeRow.holds Try.pinned (OpenSpec.ofChange fnPlainMakeWrong)

/-- 'laws.FnExactPlainParse': WHATEVER THE INPUT: true; the input reads as it did. -/
def fnExactPlainParseSpec : ChangeSpec := { name := "fnExactPlainParse", fn := fun _ => fun
  | [d] => { results := [.lit (.bool true)], args := [d] }
  | _ => none }
def fnExactPlainParseRow : OpenClaim := { program := "ytpefhkdpfcbhkaa", sum := "8e676125c69cff10d971fc45c8fb8d898cd11d2e4602523ebbb380ab88826529", func := "loop.example/mailhost/laws.FnExactPlainParse", spec := "fnExactPlainParse", inPlace := ["internal/bytealg.IndexByteString", "internal/abi.NoEscape", "internal/bytealg.IndexString"], unfollowed := true, recurses := true, named := ["internal/bytealg.MaxLen"], apart := false }
def FnExactPlainParseSaid : Prop := fnExactPlainParseRow.holds Try.pinned (OpenSpec.ofChange fnExactPlainParseSpec)

/-- ITS FALSE NEIGHBOUR: 'it returns false'. Refute it at one input. -/
def fnExactPlainParseWrong : ChangeSpec := { name := "fnExactPlainParse", fn := fun _ => fun
  | [d] => { results := [.lit (.bool false)], args := [d] }
  | _ => none }
def FnExactPlainParseWrongFalsely : Prop := fnExactPlainParseRow.holds Try.pinned (OpenSpec.ofChange fnExactPlainParseWrong)

/-- 'laws.FnPlainMore': WHATEVER THE INPUT: true; the input reads as it did. -/
def fnPlainMoreSpec : ChangeSpec := { name := "fnPlainMore", fn := fun _ => fun
  | [d] => { results := [.lit (.bool true)], args := [d] }
  | _ => none }
def fnPlainMoreRow : OpenClaim := { program := "ytpefhkdpfcbhkaa", sum := "8e676125c69cff10d971fc45c8fb8d898cd11d2e4602523ebbb380ab88826529", func := "loop.example/mailhost/laws.FnPlainMore", spec := "fnPlainMore", inPlace := ["internal/bytealg.IndexByteString", "internal/abi.NoEscape", "internal/bytealg.IndexString"], unfollowed := true, recurses := true, named := ["internal/bytealg.MaxLen"], apart := false }
def FnPlainMoreSaid : Prop := fnPlainMoreRow.holds Try.pinned (OpenSpec.ofChange fnPlainMoreSpec)

/-- ITS FALSE NEIGHBOUR: 'it returns false'. Refute it at one input. -/
def fnPlainMoreWrong : ChangeSpec := { name := "fnPlainMore", fn := fun _ => fun
  | [d] => { results := [.lit (.bool false)], args := [d] }
  | _ => none }
def FnPlainMoreWrongFalsely : Prop := fnPlainMoreRow.holds Try.pinned (OpenSpec.ofChange fnPlainMoreWrong)

/-- 'laws.FnPlainParse': WHATEVER THE INPUT: true; the input reads as it did. -/
def fnPlainParseSpec : ChangeSpec := { name := "fnPlainParse", fn := fun _ => fun
  | [d] => { results := [.lit (.bool true)], args := [d] }
  | _ => none }
def fnPlainParseRow : OpenClaim := { program := "ytpefhkdpfcbhkaa", sum := "8e676125c69cff10d971fc45c8fb8d898cd11d2e4602523ebbb380ab88826529", func := "loop.example/mailhost/laws.FnPlainParse", spec := "fnPlainParse", inPlace := ["internal/bytealg.IndexByteString", "internal/abi.NoEscape", "internal/bytealg.IndexString"], unfollowed := true, recurses := true, named := ["internal/bytealg.MaxLen"], apart := false }
def FnPlainParseSaid : Prop := fnPlainParseRow.holds Try.pinned (OpenSpec.ofChange fnPlainParseSpec)

/-- ITS FALSE NEIGHBOUR: 'it returns false'. Refute it at one input. -/
def fnPlainParseWrong : ChangeSpec := { name := "fnPlainParse", fn := fun _ => fun
  | [d] => { results := [.lit (.bool false)], args := [d] }
  | _ => none }
def FnPlainParseWrongFalsely : Prop := fnPlainParseRow.holds Try.pinned (OpenSpec.ofChange fnPlainParseWrong)

/- THE SECOND FORM. 'bulk': how many values and letters a reading holds, each counted each time it is reached (what is shared counts as often as it is met; a slice's spare places count too). A statement '..UptoSaid' is the law's where the arguments, and the package variables that the reading takes, are together of bulk at most 1048576: NARROWER than '..Said'. Prove '..Said' where nothing that the law and all that it calls make is longer than what came in: it says more and counts as full. Else prove '..UptoSaid'. A law counts once. -/
mutual
def uptoBulk {H : Type} : DataW H → Nat
  | .lit (.string bytes) => bytes.length + 1
  | .lit _ => 1
  | .nil => 1
  | .ptr d => uptoBulk d + 1
  | .slice elems spare => uptoBulkAll elems + uptoBulkAll spare + 1
  | .agg parts => uptoBulkAll parts + 1
  | .iface _ d => uptoBulk d + 1
  | .map entries => uptoBulkEntries entries + 1
  | .held _ => 1
def uptoBulkAll {H : Type} : List (DataW H) → Nat
  | [] => 0
  | d :: r => uptoBulk d + uptoBulkAll r
def uptoBulkEntries {H : Type} : List (Lit × DataW H) → Nat
  | [] => 0
  | x :: r => uptoBulkEntry x + uptoBulkEntries r
def uptoBulkEntry {H : Type} : Lit × DataW H → Nat
  | (.string bytes, d) => bytes.length + uptoBulk d + 1
  | (_, d) => uptoBulk d + 1
 end
def uptoSmall : (H : Type) → List (DataW H) → Bool := fun _ ds => decide (uptoBulkAll ds ≤ 1048576)
def OpenSpec.upto (s : _root_.Go.ChangeSpec) : _root_.Go.OpenSpec := { _root_.Go.OpenSpec.ofChange s with cond := some uptoSmall }

/-- 'laws.FnPlainMake', WHERE WHAT IT READS IS OF BULK AT MOST 1048576: true; the input reads as it did. -/
def fnPlainMakeUptoRow : OpenClaim := { program := "ytpefhkdpfcbhkaa", sum := "8e676125c69cff10d971fc45c8fb8d898cd11d2e4602523ebbb380ab88826529", func := "loop.example/mailhost/laws.FnPlainMake", spec := "fnPlainMake", inPlace := ["internal/abi.NoEscape", "internal/bytealg.IndexByteString", "internal/bytealg.IndexString"], unfollowed := true, recurses := true, named := ["internal/bytealg.MaxLen"], apart := false, narrowed := true }
def FnPlainMakeUptoSaid : Prop := fnPlainMakeUptoRow.holds Try.pinned (OpenSpec.upto fnPlainMakeSpec)

/-- 'laws.FnExactPlainParse', WHERE WHAT IT READS IS OF BULK AT MOST 1048576: true; the input reads as it did. -/
def fnExactPlainParseUptoRow : OpenClaim := { program := "ytpefhkdpfcbhkaa", sum := "8e676125c69cff10d971fc45c8fb8d898cd11d2e4602523ebbb380ab88826529", func := "loop.example/mailhost/laws.FnExactPlainParse", spec := "fnExactPlainParse", inPlace := ["internal/bytealg.IndexByteString", "internal/abi.NoEscape", "internal/bytealg.IndexString"], unfollowed := true, recurses := true, named := ["internal/bytealg.MaxLen"], apart := false, narrowed := true }
def FnExactPlainParseUptoSaid : Prop := fnExactPlainParseUptoRow.holds Try.pinned (OpenSpec.upto fnExactPlainParseSpec)

/-- 'laws.FnPlainMore', WHERE WHAT IT READS IS OF BULK AT MOST 1048576: true; the input reads as it did. -/
def fnPlainMoreUptoRow : OpenClaim := { program := "ytpefhkdpfcbhkaa", sum := "8e676125c69cff10d971fc45c8fb8d898cd11d2e4602523ebbb380ab88826529", func := "loop.example/mailhost/laws.FnPlainMore", spec := "fnPlainMore", inPlace := ["internal/bytealg.IndexByteString", "internal/abi.NoEscape", "internal/bytealg.IndexString"], unfollowed := true, recurses := true, named := ["internal/bytealg.MaxLen"], apart := false, narrowed := true }
def FnPlainMoreUptoSaid : Prop := fnPlainMoreUptoRow.holds Try.pinned (OpenSpec.upto fnPlainMoreSpec)

/-- 'laws.FnPlainParse', WHERE WHAT IT READS IS OF BULK AT MOST 1048576: true; the input reads as it did. -/
def fnPlainParseUptoRow : OpenClaim := { program := "ytpefhkdpfcbhkaa", sum := "8e676125c69cff10d971fc45c8fb8d898cd11d2e4602523ebbb380ab88826529", func := "loop.example/mailhost/laws.FnPlainParse", spec := "fnPlainParse", inPlace := ["internal/bytealg.IndexByteString", "internal/abi.NoEscape", "internal/bytealg.IndexString"], unfollowed := true, recurses := true, named := ["internal/bytealg.MaxLen"], apart := false, narrowed := true }
def FnPlainParseUptoSaid : Prop := fnPlainParseUptoRow.holds Try.pinned (OpenSpec.upto fnPlainParseSpec)

end Rows
end Go.Proofs.Ytpefhkdpfcbhkaa
