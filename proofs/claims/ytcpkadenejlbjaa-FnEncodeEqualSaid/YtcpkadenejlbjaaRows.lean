/-
  No cell of these rows narrows 'for every input' (looked for: loops, veiled, ifaces, maps, wideKeys, modest, calm, conditions, laid).
  DERIVED. THE GIVEN ROWS OF THIS SEAT. 8 by the template 'for every input the law returns true; each argument reads behind the call as it read before'; 0 by the template 'total and deterministic' (their statements: YtcpkadenejlbjaaTotals.lean).
  GIVEN WITH THE SEED: the statements are not yours to turn. If you find one false, say at which input.
  Laid BY PROGRAM, IN A SANDBOX (cutbox-rows.mjs): the forced cells as the released guide's own fill.sh prints them over the translation 113cb31a5cc10fe2… (all of the seat's roots in one cut). By AI agents, Wed Nov 11 2026. No macro, syntax, notation, axiom, sorry.
-/
import Derived.Test.YtcpkadenejlbjaaChecked
import GoSem.Claim
import GoSem.ClaimJoined
import GoSem.ClaimMapViews
import Derived.JoinedTies
import Derived.KernelRfl
namespace Go.Proofs.Ytcpkadenejlbjaa
/- THE CELL 'sum', in the pinned program and in every row, IS THE sha256 OF THE DUMP (.gsa) THAT YtcpkadenejlbjaaProg.lean LOADS. Nothing in Lean hashes anything: it is a label: what it is worth is what the hold of that sum in a sandbox is worth. -/
noncomputable def Try.pinned : Pinned := { name := "ytcpkadenejlbjaa", sum := "113cb31a5cc10fe2cf9e35e8dcb81cc86cd26a9c9cae1b3e5ac30380a383bf6b", checked := Try.checked }
namespace Rows
def none {H : Type} : Left H := { results := [], args := [] }

/-- 'laws.FnExactBase64Encode': WHATEVER THE INPUT: true; the input reads as it did. -/
def fnExactBase64EncodeSpec : ChangeSpec := { name := "fnExactBase64Encode", fn := fun _ => fun
  | [d] => { results := [.lit (.bool true)], args := [d] }
  | _ => none }
def fnExactBase64EncodeRow : OpenClaim := { program := "ytcpkadenejlbjaa", sum := "113cb31a5cc10fe2cf9e35e8dcb81cc86cd26a9c9cae1b3e5ac30380a383bf6b", func := "loop.example/mailhost/laws.FnExactBase64Encode", spec := "fnExactBase64Encode", inPlace := ["internal/abi.NoEscape"], unfollowed := true, recurses := true, apart := false }
def FnExactBase64EncodeSaid : Prop := fnExactBase64EncodeRow.holds Try.pinned (OpenSpec.ofChange fnExactBase64EncodeSpec)

/-- ITS FALSE NEIGHBOUR: 'it returns false'. Refute it at one input. -/
def fnExactBase64EncodeWrong : ChangeSpec := { name := "fnExactBase64Encode", fn := fun _ => fun
  | [d] => { results := [.lit (.bool false)], args := [d] }
  | _ => none }
def FnExactBase64EncodeWrongFalsely : Prop := fnExactBase64EncodeRow.holds Try.pinned (OpenSpec.ofChange fnExactBase64EncodeWrong)

/-- 'laws.FnEncode': WHATEVER THE INPUT: true; the input reads as it did. -/
def fnEncodeSpec : ChangeSpec := { name := "fnEncode", fn := fun _ => fun
  | [d] => { results := [.lit (.bool true)], args := [d] }
  | _ => none }
def fnEncodeRow : OpenClaim := { program := "ytcpkadenejlbjaa", sum := "113cb31a5cc10fe2cf9e35e8dcb81cc86cd26a9c9cae1b3e5ac30380a383bf6b", func := "loop.example/mailhost/laws.FnEncode", spec := "fnEncode", inPlace := ["internal/abi.NoEscape"], unfollowed := true, recurses := true, apart := false }
def FnEncodeSaid : Prop := fnEncodeRow.holds Try.pinned (OpenSpec.ofChange fnEncodeSpec)

/-- ITS FALSE NEIGHBOUR: 'it returns false'. Refute it at one input. -/
def fnEncodeWrong : ChangeSpec := { name := "fnEncode", fn := fun _ => fun
  | [d] => { results := [.lit (.bool false)], args := [d] }
  | _ => none }
def FnEncodeWrongFalsely : Prop := fnEncodeRow.holds Try.pinned (OpenSpec.ofChange fnEncodeWrong)

/-- 'laws.FnEncodeEqual': WHATEVER THE INPUT: true; the input reads as it did. -/
def fnEncodeEqualSpec : ChangeSpec := { name := "fnEncodeEqual", fn := fun _ => fun
  | [d] => { results := [.lit (.bool true)], args := [d] }
  | _ => none }
def fnEncodeEqualRow : OpenClaim := { program := "ytcpkadenejlbjaa", sum := "113cb31a5cc10fe2cf9e35e8dcb81cc86cd26a9c9cae1b3e5ac30380a383bf6b", func := "loop.example/mailhost/laws.FnEncodeEqual", spec := "fnEncodeEqual", inPlace := ["internal/abi.NoEscape"], unfollowed := true, recurses := true, apart := false }
def FnEncodeEqualSaid : Prop := fnEncodeEqualRow.holds Try.pinned (OpenSpec.ofChange fnEncodeEqualSpec)

/-- ITS FALSE NEIGHBOUR: 'it returns false'. Refute it at one input. -/
def fnEncodeEqualWrong : ChangeSpec := { name := "fnEncodeEqual", fn := fun _ => fun
  | [d] => { results := [.lit (.bool false)], args := [d] }
  | _ => none }
def FnEncodeEqualWrongFalsely : Prop := fnEncodeEqualRow.holds Try.pinned (OpenSpec.ofChange fnEncodeEqualWrong)

/-- 'laws.FnEncodeJoin': WHATEVER THE INPUT: true; the input reads as it did. -/
def fnEncodeJoinSpec : ChangeSpec := { name := "fnEncodeJoin", fn := fun _ => fun
  | [d1, d2] => { results := [.lit (.bool true)], args := [d1, d2] }
  | _ => none }
def fnEncodeJoinRow : OpenClaim := { program := "ytcpkadenejlbjaa", sum := "113cb31a5cc10fe2cf9e35e8dcb81cc86cd26a9c9cae1b3e5ac30380a383bf6b", func := "loop.example/mailhost/laws.FnEncodeJoin", spec := "fnEncodeJoin", inPlace := ["internal/abi.NoEscape"], unfollowed := true, recurses := true, apart := false }
def FnEncodeJoinSaid : Prop := fnEncodeJoinRow.holds Try.pinned (OpenSpec.ofChange fnEncodeJoinSpec)

/-- ITS FALSE NEIGHBOUR: 'it returns false'. Refute it at one input. -/
def fnEncodeJoinWrong : ChangeSpec := { name := "fnEncodeJoin", fn := fun _ => fun
  | [d1, d2] => { results := [.lit (.bool false)], args := [d1, d2] }
  | _ => none }
def FnEncodeJoinWrongFalsely : Prop := fnEncodeJoinRow.holds Try.pinned (OpenSpec.ofChange fnEncodeJoinWrong)

/-- 'laws.FnEncodeLong': WHATEVER THE INPUT: true; the input reads as it did. -/
def fnEncodeLongSpec : ChangeSpec := { name := "fnEncodeLong", fn := fun _ => fun
  | [d] => { results := [.lit (.bool true)], args := [d] }
  | _ => none }
def fnEncodeLongRow : OpenClaim := { program := "ytcpkadenejlbjaa", sum := "113cb31a5cc10fe2cf9e35e8dcb81cc86cd26a9c9cae1b3e5ac30380a383bf6b", func := "loop.example/mailhost/laws.FnEncodeLong", spec := "fnEncodeLong", inPlace := ["internal/abi.NoEscape"], unfollowed := true, recurses := true, apart := false }
def FnEncodeLongSaid : Prop := fnEncodeLongRow.holds Try.pinned (OpenSpec.ofChange fnEncodeLongSpec)

/-- ITS FALSE NEIGHBOUR: 'it returns false'. Refute it at one input. -/
def fnEncodeLongWrong : ChangeSpec := { name := "fnEncodeLong", fn := fun _ => fun
  | [d] => { results := [.lit (.bool false)], args := [d] }
  | _ => none }
def FnEncodeLongWrongFalsely : Prop := fnEncodeLongRow.holds Try.pinned (OpenSpec.ofChange fnEncodeLongWrong)

/-- 'laws.FnExactPlainMake': WHATEVER THE INPUT: true; the input reads as it did. -/
def fnExactPlainMakeSpec : ChangeSpec := { name := "fnExactPlainMake", fn := fun _ => fun
  | [d1, d2] => { results := [.lit (.bool true)], args := [d1, d2] }
  | _ => none }
def fnExactPlainMakeRow : OpenClaim := { program := "ytcpkadenejlbjaa", sum := "113cb31a5cc10fe2cf9e35e8dcb81cc86cd26a9c9cae1b3e5ac30380a383bf6b", func := "loop.example/mailhost/laws.FnExactPlainMake", spec := "fnExactPlainMake", inPlace := ["internal/abi.NoEscape"], unfollowed := true, recurses := true, apart := false }
def FnExactPlainMakeSaid : Prop := fnExactPlainMakeRow.holds Try.pinned (OpenSpec.ofChange fnExactPlainMakeSpec)

/-- ITS FALSE NEIGHBOUR: 'it returns false'. Refute it at one input. -/
def fnExactPlainMakeWrong : ChangeSpec := { name := "fnExactPlainMake", fn := fun _ => fun
  | [d1, d2] => { results := [.lit (.bool false)], args := [d1, d2] }
  | _ => none }
def FnExactPlainMakeWrongFalsely : Prop := fnExactPlainMakeRow.holds Try.pinned (OpenSpec.ofChange fnExactPlainMakeWrong)

/-- 'laws.FnPlainNames': WHATEVER THE INPUT: true; the input reads as it did. -/
def fnPlainNamesSpec : ChangeSpec := { name := "fnPlainNames", fn := fun _ => fun
  | [d] => { results := [.lit (.bool true)], args := [d] }
  | _ => none }
def fnPlainNamesRow : OpenClaim := { program := "ytcpkadenejlbjaa", sum := "113cb31a5cc10fe2cf9e35e8dcb81cc86cd26a9c9cae1b3e5ac30380a383bf6b", func := "loop.example/mailhost/laws.FnPlainNames", spec := "fnPlainNames", inPlace := ["internal/abi.NoEscape"], unfollowed := true, recurses := true, apart := false }
def FnPlainNamesSaid : Prop := fnPlainNamesRow.holds Try.pinned (OpenSpec.ofChange fnPlainNamesSpec)

/-- ITS FALSE NEIGHBOUR: 'it returns false'. Refute it at one input. -/
def fnPlainNamesWrong : ChangeSpec := { name := "fnPlainNames", fn := fun _ => fun
  | [d] => { results := [.lit (.bool false)], args := [d] }
  | _ => none }
def FnPlainNamesWrongFalsely : Prop := fnPlainNamesRow.holds Try.pinned (OpenSpec.ofChange fnPlainNamesWrong)

/-- 'laws.FnPlainSwap': WHATEVER THE INPUT: true; the input reads as it did. -/
def fnPlainSwapSpec : ChangeSpec := { name := "fnPlainSwap", fn := fun _ => fun
  | [d] => { results := [.lit (.bool true)], args := [d] }
  | _ => none }
def fnPlainSwapRow : OpenClaim := { program := "ytcpkadenejlbjaa", sum := "113cb31a5cc10fe2cf9e35e8dcb81cc86cd26a9c9cae1b3e5ac30380a383bf6b", func := "loop.example/mailhost/laws.FnPlainSwap", spec := "fnPlainSwap", inPlace := ["internal/abi.NoEscape"], unfollowed := true, recurses := true, apart := false }
def FnPlainSwapSaid : Prop := fnPlainSwapRow.holds Try.pinned (OpenSpec.ofChange fnPlainSwapSpec)

/-- ITS FALSE NEIGHBOUR: 'it returns false'. Refute it at one input. -/
def fnPlainSwapWrong : ChangeSpec := { name := "fnPlainSwap", fn := fun _ => fun
  | [d] => { results := [.lit (.bool false)], args := [d] }
  | _ => none }
def FnPlainSwapWrongFalsely : Prop := fnPlainSwapRow.holds Try.pinned (OpenSpec.ofChange fnPlainSwapWrong)

/- THE SECOND FORM. 'bulk': how many values and letters a reading holds, each counted each time it is reached (what is shared counts as often as it is met; a slice's spare places count too). A statement '..UptoSaid' is the law's where the arguments, and the package variables that the reading takes, are together of bulk at most 1048576: NARROWER than '..Said'. Prove '..Said' where nothing that the law and all that it calls make is longer than what came in: it says more and counts as full. Else prove '..UptoSaid'. A law counts once. -/
mutual
def uptoBulk {H : Type} : DataW H → Nat
  | .lit (.string bytes) => bytes.length + 1
  | .lit _ => 1
  | .nil => 1
  | .ptr d => uptoBulk d + 1
  | .slice elems spare => uptoBulkAll elems + uptoBulkAll spare + 1
  | .agg parts => uptoBulkAll parts + 1
  | .iface _ d => uptoBulk d + 1
  | .map entries => uptoBulkEntries entries + 1
  | .held _ => 1
def uptoBulkAll {H : Type} : List (DataW H) → Nat
  | [] => 0
  | d :: r => uptoBulk d + uptoBulkAll r
def uptoBulkEntries {H : Type} : List (Lit × DataW H) → Nat
  | [] => 0
  | x :: r => uptoBulkEntry x + uptoBulkEntries r
def uptoBulkEntry {H : Type} : Lit × DataW H → Nat
  | (.string bytes, d) => bytes.length + uptoBulk d + 1
  | (_, d) => uptoBulk d + 1
 end
def uptoSmall : (H : Type) → List (DataW H) → Bool := fun _ ds => decide (uptoBulkAll ds ≤ 1048576)
def OpenSpec.upto (s : _root_.Go.ChangeSpec) : _root_.Go.OpenSpec := { _root_.Go.OpenSpec.ofChange s with cond := some uptoSmall }

/-- 'laws.FnExactBase64Encode', WHERE WHAT IT READS IS OF BULK AT MOST 1048576: true; the input reads as it did. -/
def fnExactBase64EncodeUptoRow : OpenClaim := { program := "ytcpkadenejlbjaa", sum := "113cb31a5cc10fe2cf9e35e8dcb81cc86cd26a9c9cae1b3e5ac30380a383bf6b", func := "loop.example/mailhost/laws.FnExactBase64Encode", spec := "fnExactBase64Encode", inPlace := ["internal/abi.NoEscape"], unfollowed := true, recurses := true, apart := false, narrowed := true }
def FnExactBase64EncodeUptoSaid : Prop := fnExactBase64EncodeUptoRow.holds Try.pinned (OpenSpec.upto fnExactBase64EncodeSpec)

/-- 'laws.FnEncode', WHERE WHAT IT READS IS OF BULK AT MOST 1048576: true; the input reads as it did. -/
def fnEncodeUptoRow : OpenClaim := { program := "ytcpkadenejlbjaa", sum := "113cb31a5cc10fe2cf9e35e8dcb81cc86cd26a9c9cae1b3e5ac30380a383bf6b", func := "loop.example/mailhost/laws.FnEncode", spec := "fnEncode", inPlace := ["internal/abi.NoEscape"], unfollowed := true, recurses := true, apart := false, narrowed := true }
def FnEncodeUptoSaid : Prop := fnEncodeUptoRow.holds Try.pinned (OpenSpec.upto fnEncodeSpec)

/-- 'laws.FnEncodeEqual', WHERE WHAT IT READS IS OF BULK AT MOST 1048576: true; the input reads as it did. -/
def fnEncodeEqualUptoRow : OpenClaim := { program := "ytcpkadenejlbjaa", sum := "113cb31a5cc10fe2cf9e35e8dcb81cc86cd26a9c9cae1b3e5ac30380a383bf6b", func := "loop.example/mailhost/laws.FnEncodeEqual", spec := "fnEncodeEqual", inPlace := ["internal/abi.NoEscape"], unfollowed := true, recurses := true, apart := false, narrowed := true }
def FnEncodeEqualUptoSaid : Prop := fnEncodeEqualUptoRow.holds Try.pinned (OpenSpec.upto fnEncodeEqualSpec)

/-- 'laws.FnEncodeJoin', WHERE WHAT IT READS IS OF BULK AT MOST 1048576: true; the input reads as it did. -/
def fnEncodeJoinUptoRow : OpenClaim := { program := "ytcpkadenejlbjaa", sum := "113cb31a5cc10fe2cf9e35e8dcb81cc86cd26a9c9cae1b3e5ac30380a383bf6b", func := "loop.example/mailhost/laws.FnEncodeJoin", spec := "fnEncodeJoin", inPlace := ["internal/abi.NoEscape"], unfollowed := true, recurses := true, apart := false, narrowed := true }
def FnEncodeJoinUptoSaid : Prop := fnEncodeJoinUptoRow.holds Try.pinned (OpenSpec.upto fnEncodeJoinSpec)

/-- 'laws.FnEncodeLong', WHERE WHAT IT READS IS OF BULK AT MOST 1048576: true; the input reads as it did. -/
def fnEncodeLongUptoRow : OpenClaim := { program := "ytcpkadenejlbjaa", sum := "113cb31a5cc10fe2cf9e35e8dcb81cc86cd26a9c9cae1b3e5ac30380a383bf6b", func := "loop.example/mailhost/laws.FnEncodeLong", spec := "fnEncodeLong", inPlace := ["internal/abi.NoEscape"], unfollowed := true, recurses := true, apart := false, narrowed := true }
def FnEncodeLongUptoSaid : Prop := fnEncodeLongUptoRow.holds Try.pinned (OpenSpec.upto fnEncodeLongSpec)

/-- 'laws.FnExactPlainMake', WHERE WHAT IT READS IS OF BULK AT MOST 1048576: true; the input reads as it did. -/
def fnExactPlainMakeUptoRow : OpenClaim := { program := "ytcpkadenejlbjaa", sum := "113cb31a5cc10fe2cf9e35e8dcb81cc86cd26a9c9cae1b3e5ac30380a383bf6b", func := "loop.example/mailhost/laws.FnExactPlainMake", spec := "fnExactPlainMake", inPlace := ["internal/abi.NoEscape"], unfollowed := true, recurses := true, apart := false, narrowed := true }
def FnExactPlainMakeUptoSaid : Prop := fnExactPlainMakeUptoRow.holds Try.pinned (OpenSpec.upto fnExactPlainMakeSpec)

/-- 'laws.FnPlainNames', WHERE WHAT IT READS IS OF BULK AT MOST 1048576: true; the input reads as it did. -/
def fnPlainNamesUptoRow : OpenClaim := { program := "ytcpkadenejlbjaa", sum := "113cb31a5cc10fe2cf9e35e8dcb81cc86cd26a9c9cae1b3e5ac30380a383bf6b", func := "loop.example/mailhost/laws.FnPlainNames", spec := "fnPlainNames", inPlace := ["internal/abi.NoEscape"], unfollowed := true, recurses := true, apart := false, narrowed := true }
def FnPlainNamesUptoSaid : Prop := fnPlainNamesUptoRow.holds Try.pinned (OpenSpec.upto fnPlainNamesSpec)

/-- 'laws.FnPlainSwap', WHERE WHAT IT READS IS OF BULK AT MOST 1048576: true; the input reads as it did. -/
def fnPlainSwapUptoRow : OpenClaim := { program := "ytcpkadenejlbjaa", sum := "113cb31a5cc10fe2cf9e35e8dcb81cc86cd26a9c9cae1b3e5ac30380a383bf6b", func := "loop.example/mailhost/laws.FnPlainSwap", spec := "fnPlainSwap", inPlace := ["internal/abi.NoEscape"], unfollowed := true, recurses := true, apart := false, narrowed := true }
def FnPlainSwapUptoSaid : Prop := fnPlainSwapUptoRow.holds Try.pinned (OpenSpec.upto fnPlainSwapSpec)

end Rows
end Go.Proofs.Ytcpkadenejlbjaa
