/-
  No cell of these rows narrows 'for every input' (looked for: loops, veiled, ifaces, maps, wideKeys, modest, calm, conditions, laid).
  DERIVED. THE GIVEN ROWS OF THIS SEAT. 6 by the template 'for every input the law returns true; each argument reads behind the call as it read before'; 0 by the template 'total and deterministic' (their statements: YtjiaihkjadhpcaaTotals.lean).
  GIVEN WITH THE SEED: the statements are not yours to turn. If you find one false, say at which input.
  Laid BY PROGRAM, IN A SANDBOX (cutbox-rows.mjs): the forced cells as the released guide's own fill.sh prints them over the translation d9aeea57a7124141… (all of the seat's roots in one cut). By AI agents, Wed Nov 11 2026. No macro, syntax, notation, axiom, sorry.
-/
import Derived.Test.YtjiaihkjadhpcaaChecked
import GoSem.Claim
import GoSem.ClaimJoined
import GoSem.ClaimMapViews
import Derived.JoinedTies
import Derived.KernelRfl
namespace Go.Proofs.Ytjiaihkjadhpcaa
/- THE CELL 'sum', in the pinned program and in every row, IS THE sha256 OF THE DUMP (.gsa) THAT YtjiaihkjadhpcaaProg.lean LOADS. Nothing in Lean hashes anything: it is a label: what it is worth is what the hold of that sum in a sandbox is worth. -/
noncomputable def Try.pinned : Pinned := { name := "ytjiaihkjadhpcaa", sum := "d9aeea57a7124141eb1b07b36ac8bd902a589be326a87c8ae3939011c334aec1", checked := Try.checked }
namespace Rows
def none {H : Type} : Left H := { results := [], args := [] }

/-- 'laws.FnExactBase64Decode': WHATEVER THE INPUT: true; the input reads as it did. -/
def fnExactBase64DecodeSpec : ChangeSpec := { name := "fnExactBase64Decode", fn := fun _ => fun
  | [d] => { results := [.lit (.bool true)], args := [d] }
  | _ => none }
def fnExactBase64DecodeRow : OpenClaim := { program := "ytjiaihkjadhpcaa", sum := "d9aeea57a7124141eb1b07b36ac8bd902a589be326a87c8ae3939011c334aec1", func := "loop.example/mailhost/laws.FnExactBase64Decode", spec := "fnExactBase64Decode", inPlace := ["internal/bytealg.IndexByteString", "internal/abi.NoEscape"], unfollowed := true, recurses := true, apart := false }
def FnExactBase64DecodeSaid : Prop := fnExactBase64DecodeRow.holds Try.pinned (OpenSpec.ofChange fnExactBase64DecodeSpec)

/-- ITS FALSE NEIGHBOUR: 'it returns false'. Refute it at one input. -/
def fnExactBase64DecodeWrong : ChangeSpec := { name := "fnExactBase64Decode", fn := fun _ => fun
  | [d] => { results := [.lit (.bool false)], args := [d] }
  | _ => none }
def FnExactBase64DecodeWrongFalsely : Prop := fnExactBase64DecodeRow.holds Try.pinned (OpenSpec.ofChange fnExactBase64DecodeWrong)

/-- 'laws.FnEncodeBack': WHATEVER THE INPUT: true; the input reads as it did. -/
def fnEncodeBackSpec : ChangeSpec := { name := "fnEncodeBack", fn := fun _ => fun
  | [d] => { results := [.lit (.bool true)], args := [d] }
  | _ => none }
def fnEncodeBackRow : OpenClaim := { program := "ytjiaihkjadhpcaa", sum := "d9aeea57a7124141eb1b07b36ac8bd902a589be326a87c8ae3939011c334aec1", func := "loop.example/mailhost/laws.FnEncodeBack", spec := "fnEncodeBack", inPlace := ["internal/abi.NoEscape", "internal/bytealg.IndexByteString"], unfollowed := true, recurses := true, apart := false }
def FnEncodeBackSaid : Prop := fnEncodeBackRow.holds Try.pinned (OpenSpec.ofChange fnEncodeBackSpec)

/-- ITS FALSE NEIGHBOUR: 'it returns false'. Refute it at one input. -/
def fnEncodeBackWrong : ChangeSpec := { name := "fnEncodeBack", fn := fun _ => fun
  | [d] => { results := [.lit (.bool false)], args := [d] }
  | _ => none }
def FnEncodeBackWrongFalsely : Prop := fnEncodeBackRow.holds Try.pinned (OpenSpec.ofChange fnEncodeBackWrong)

/-- 'laws.FnPlainBytes': WHATEVER THE INPUT: true; the input reads as it did. -/
def fnPlainBytesSpec : ChangeSpec := { name := "fnPlainBytes", fn := fun _ => fun
  | [d] => { results := [.lit (.bool true)], args := [d] }
  | _ => none }
def fnPlainBytesRow : OpenClaim := { program := "ytjiaihkjadhpcaa", sum := "d9aeea57a7124141eb1b07b36ac8bd902a589be326a87c8ae3939011c334aec1", func := "loop.example/mailhost/laws.FnPlainBytes", spec := "fnPlainBytes", inPlace := ["internal/abi.NoEscape", "internal/bytealg.IndexByteString"], unfollowed := true, recurses := true, apart := false }
def FnPlainBytesSaid : Prop := fnPlainBytesRow.holds Try.pinned (OpenSpec.ofChange fnPlainBytesSpec)

/-- ITS FALSE NEIGHBOUR: 'it returns false'. Refute it at one input. -/
def fnPlainBytesWrong : ChangeSpec := { name := "fnPlainBytes", fn := fun _ => fun
  | [d] => { results := [.lit (.bool false)], args := [d] }
  | _ => none }
def FnPlainBytesWrongFalsely : Prop := fnPlainBytesRow.holds Try.pinned (OpenSpec.ofChange fnPlainBytesWrong)

/-- 'laws.FnDecode': WHATEVER THE INPUT: true; the input reads as it did. -/
def fnDecodeSpec : ChangeSpec := { name := "fnDecode", fn := fun _ => fun
  | [d] => { results := [.lit (.bool true)], args := [d] }
  | _ => none }
def fnDecodeRow : OpenClaim := { program := "ytjiaihkjadhpcaa", sum := "d9aeea57a7124141eb1b07b36ac8bd902a589be326a87c8ae3939011c334aec1", func := "loop.example/mailhost/laws.FnDecode", spec := "fnDecode", inPlace := ["internal/bytealg.IndexByteString", "internal/abi.NoEscape"], unfollowed := true, recurses := true, apart := false }
def FnDecodeSaid : Prop := fnDecodeRow.holds Try.pinned (OpenSpec.ofChange fnDecodeSpec)

/-- ITS FALSE NEIGHBOUR: 'it returns false'. Refute it at one input. -/
def fnDecodeWrong : ChangeSpec := { name := "fnDecode", fn := fun _ => fun
  | [d] => { results := [.lit (.bool false)], args := [d] }
  | _ => none }
def FnDecodeWrongFalsely : Prop := fnDecodeRow.holds Try.pinned (OpenSpec.ofChange fnDecodeWrong)

/-- 'laws.FnDecodePart': WHATEVER THE INPUT: true; the input reads as it did. -/
def fnDecodePartSpec : ChangeSpec := { name := "fnDecodePart", fn := fun _ => fun
  | [d] => { results := [.lit (.bool true)], args := [d] }
  | _ => none }
def fnDecodePartRow : OpenClaim := { program := "ytjiaihkjadhpcaa", sum := "d9aeea57a7124141eb1b07b36ac8bd902a589be326a87c8ae3939011c334aec1", func := "loop.example/mailhost/laws.FnDecodePart", spec := "fnDecodePart", inPlace := ["internal/bytealg.IndexByteString", "internal/abi.NoEscape"], unfollowed := true, recurses := true, apart := false }
def FnDecodePartSaid : Prop := fnDecodePartRow.holds Try.pinned (OpenSpec.ofChange fnDecodePartSpec)

/-- ITS FALSE NEIGHBOUR: 'it returns false'. Refute it at one input. -/
def fnDecodePartWrong : ChangeSpec := { name := "fnDecodePart", fn := fun _ => fun
  | [d] => { results := [.lit (.bool false)], args := [d] }
  | _ => none }
def FnDecodePartWrongFalsely : Prop := fnDecodePartRow.holds Try.pinned (OpenSpec.ofChange fnDecodePartWrong)

/-- 'laws.FnDecodeSign': WHATEVER THE INPUT: true; the input reads as it did. -/
def fnDecodeSignSpec : ChangeSpec := { name := "fnDecodeSign", fn := fun _ => fun
  | [d1, d2] => { results := [.lit (.bool true)], args := [d1, d2] }
  | _ => none }
def fnDecodeSignRow : OpenClaim := { program := "ytjiaihkjadhpcaa", sum := "d9aeea57a7124141eb1b07b36ac8bd902a589be326a87c8ae3939011c334aec1", func := "loop.example/mailhost/laws.FnDecodeSign", spec := "fnDecodeSign", inPlace := ["internal/bytealg.IndexByteString", "internal/abi.NoEscape"], unfollowed := true, recurses := true, apart := false }
def FnDecodeSignSaid : Prop := fnDecodeSignRow.holds Try.pinned (OpenSpec.ofChange fnDecodeSignSpec)

/-- ITS FALSE NEIGHBOUR: 'it returns false'. Refute it at one input. -/
def fnDecodeSignWrong : ChangeSpec := { name := "fnDecodeSign", fn := fun _ => fun
  | [d1, d2] => { results := [.lit (.bool false)], args := [d1, d2] }
  | _ => none }
def FnDecodeSignWrongFalsely : Prop := fnDecodeSignRow.holds Try.pinned (OpenSpec.ofChange fnDecodeSignWrong)

/- THE SECOND FORM. 'bulk': how many values and letters a reading holds, each counted each time it is reached (what is shared counts as often as it is met; a slice's spare places count too). A statement '..UptoSaid' is the law's where the arguments, and the package variables that the reading takes, are together of bulk at most 1048576: NARROWER than '..Said'. Prove '..Said' where nothing that the law and all that it calls make is longer than what came in: it says more and counts as full. Else prove '..UptoSaid'. A law counts once. -/
mutual
def uptoBulk {H : Type} : DataW H → Nat
  | .lit (.string bytes) => bytes.length + 1
  | .lit _ => 1
  | .nil => 1
  | .ptr d => uptoBulk d + 1
  | .slice elems spare => uptoBulkAll elems + uptoBulkAll spare + 1
  | .agg parts => uptoBulkAll parts + 1
  | .iface _ d => uptoBulk d + 1
  | .map entries => uptoBulkEntries entries + 1
  | .held _ => 1
def uptoBulkAll {H : Type} : List (DataW H) → Nat
  | [] => 0
  | d :: r => uptoBulk d + uptoBulkAll r
def uptoBulkEntries {H : Type} : List (Lit × DataW H) → Nat
  | [] => 0
  | x :: r => uptoBulkEntry x + uptoBulkEntries r
def uptoBulkEntry {H : Type} : Lit × DataW H → Nat
  | (.string bytes, d) => bytes.length + uptoBulk d + 1
  | (_, d) => uptoBulk d + 1
 end
def uptoSmall : (H : Type) → List (DataW H) → Bool := fun _ ds => decide (uptoBulkAll ds ≤ 1048576)
def OpenSpec.upto (s : _root_.Go.ChangeSpec) : _root_.Go.OpenSpec := { _root_.Go.OpenSpec.ofChange s with cond := some uptoSmall }

/-- 'laws.FnExactBase64Decode', WHERE WHAT IT READS IS OF BULK AT MOST 1048576: true; the input reads as it did. -/
def fnExactBase64DecodeUptoRow : OpenClaim := { program := "ytjiaihkjadhpcaa", sum := "d9aeea57a7124141eb1b07b36ac8bd902a589be326a87c8ae3939011c334aec1", func := "loop.example/mailhost/laws.FnExactBase64Decode", spec := "fnExactBase64Decode", inPlace := ["internal/bytealg.IndexByteString", "internal/abi.NoEscape"], unfollowed := true, recurses := true, apart := false, narrowed := true }
def FnExactBase64DecodeUptoSaid : Prop := fnExactBase64DecodeUptoRow.holds Try.pinned (OpenSpec.upto fnExactBase64DecodeSpec)

/-- 'laws.FnEncodeBack', WHERE WHAT IT READS IS OF BULK AT MOST 1048576: true; the input reads as it did. -/
def fnEncodeBackUptoRow : OpenClaim := { program := "ytjiaihkjadhpcaa", sum := "d9aeea57a7124141eb1b07b36ac8bd902a589be326a87c8ae3939011c334aec1", func := "loop.example/mailhost/laws.FnEncodeBack", spec := "fnEncodeBack", inPlace := ["internal/abi.NoEscape", "internal/bytealg.IndexByteString"], unfollowed := true, recurses := true, apart := false, narrowed := true }
def FnEncodeBackUptoSaid : Prop := fnEncodeBackUptoRow.holds Try.pinned (OpenSpec.upto fnEncodeBackSpec)

/-- 'laws.FnPlainBytes', WHERE WHAT IT READS IS OF BULK AT MOST 1048576: true; the input reads as it did. -/
def fnPlainBytesUptoRow : OpenClaim := { program := "ytjiaihkjadhpcaa", sum := "d9aeea57a7124141eb1b07b36ac8bd902a589be326a87c8ae3939011c334aec1", func := "loop.example/mailhost/laws.FnPlainBytes", spec := "fnPlainBytes", inPlace := ["internal/abi.NoEscape", "internal/bytealg.IndexByteString"], unfollowed := true, recurses := true, apart := false, narrowed := true }
def FnPlainBytesUptoSaid : Prop := fnPlainBytesUptoRow.holds Try.pinned (OpenSpec.upto fnPlainBytesSpec)

/-- 'laws.FnDecode', WHERE WHAT IT READS IS OF BULK AT MOST 1048576: true; the input reads as it did. -/
def fnDecodeUptoRow : OpenClaim := { program := "ytjiaihkjadhpcaa", sum := "d9aeea57a7124141eb1b07b36ac8bd902a589be326a87c8ae3939011c334aec1", func := "loop.example/mailhost/laws.FnDecode", spec := "fnDecode", inPlace := ["internal/bytealg.IndexByteString", "internal/abi.NoEscape"], unfollowed := true, recurses := true, apart := false, narrowed := true }
def FnDecodeUptoSaid : Prop := fnDecodeUptoRow.holds Try.pinned (OpenSpec.upto fnDecodeSpec)

/-- 'laws.FnDecodePart', WHERE WHAT IT READS IS OF BULK AT MOST 1048576: true; the input reads as it did. -/
def fnDecodePartUptoRow : OpenClaim := { program := "ytjiaihkjadhpcaa", sum := "d9aeea57a7124141eb1b07b36ac8bd902a589be326a87c8ae3939011c334aec1", func := "loop.example/mailhost/laws.FnDecodePart", spec := "fnDecodePart", inPlace := ["internal/bytealg.IndexByteString", "internal/abi.NoEscape"], unfollowed := true, recurses := true, apart := false, narrowed := true }
def FnDecodePartUptoSaid : Prop := fnDecodePartUptoRow.holds Try.pinned (OpenSpec.upto fnDecodePartSpec)

/-- 'laws.FnDecodeSign', WHERE WHAT IT READS IS OF BULK AT MOST 1048576: true; the input reads as it did. -/
def fnDecodeSignUptoRow : OpenClaim := { program := "ytjiaihkjadhpcaa", sum := "d9aeea57a7124141eb1b07b36ac8bd902a589be326a87c8ae3939011c334aec1", func := "loop.example/mailhost/laws.FnDecodeSign", spec := "fnDecodeSign", inPlace := ["internal/bytealg.IndexByteString", "internal/abi.NoEscape"], unfollowed := true, recurses := true, apart := false, narrowed := true }
def FnDecodeSignUptoSaid : Prop := fnDecodeSignUptoRow.holds Try.pinned (OpenSpec.upto fnDecodeSignSpec)

end Rows
end Go.Proofs.Ytjiaihkjadhpcaa
