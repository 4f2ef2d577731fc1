/-
  No cell of these rows narrows 'for every input' (looked for: loops, veiled, ifaces, maps, wideKeys, modest, calm, conditions, laid).
  DERIVED. THE GIVEN ROWS OF THIS SEAT. 17 by the template 'for every input the law returns true; each argument reads behind the call as it read before'; 0 by the template 'total and deterministic' (their statements: YtbafeponkpaenaaTotals.lean).
  GIVEN WITH THE SEED: the statements are not yours to turn. If you find one false, say at which input.
  Laid BY PROGRAM, IN A SANDBOX (cutbox-rows.mjs): the forced cells as the released guide's own fill.sh prints them over the translation b3d19825ace3ae43… (all of the seat's roots in one cut). By AI agents, Wed Nov 11 2026. No macro, syntax, notation, axiom, sorry.
-/
import Derived.Test.YtbafeponkpaenaaChecked
import GoSem.Claim
import GoSem.ClaimJoined
import GoSem.ClaimMapViews
import Derived.JoinedTies
import Derived.KernelRfl
namespace Go.Proofs.Ytbafeponkpaenaa
/- THE CELL 'sum', in the pinned program and in every row, IS THE sha256 OF THE DUMP (.gsa) THAT YtbafeponkpaenaaProg.lean LOADS. Nothing in Lean hashes anything: it is a label: what it is worth is what the hold of that sum in a sandbox is worth. -/
noncomputable def Try.pinned : Pinned := { name := "ytbafeponkpaenaa", sum := "b3d19825ace3ae4390fc00792d57817425ce41f079528ef490b9dbfba215755a", checked := Try.checked }
namespace Rows
def none {H : Type} : Left H := { results := [], args := [] }

/-- 'laws.FnExactNameValid': WHATEVER THE INPUT: true; the input reads as it did. -/
def fnExactNameValidSpec : ChangeSpec := { name := "fnExactNameValid", fn := fun _ => fun
  | [d] => { results := [.lit (.bool true)], args := [d] }
  | _ => none }
def fnExactNameValidRow : OpenClaim := { program := "ytbafeponkpaenaa", sum := "b3d19825ace3ae4390fc00792d57817425ce41f079528ef490b9dbfba215755a", func := "loop.example/mailhost/laws.FnExactNameValid", spec := "fnExactNameValid", apart := false }
def FnExactNameValidSaid : Prop := fnExactNameValidRow.holds Try.pinned (OpenSpec.ofChange fnExactNameValidSpec)

/-- ITS FALSE NEIGHBOUR: 'it returns false'. Refute it at one input. -/
def fnExactNameValidWrong : ChangeSpec := { name := "fnExactNameValid", fn := fun _ => fun
  | [d] => { results := [.lit (.bool false)], args := [d] }
  | _ => none }
def FnExactNameValidWrongFalsely : Prop := fnExactNameValidRow.holds Try.pinned (OpenSpec.ofChange fnExactNameValidWrong)

/-- 'laws.FnName': WHATEVER THE INPUT: true; the input reads as it did. -/
def fnNameSpec : ChangeSpec := { name := "fnName", fn := fun _ => fun
  | [d] => { results := [.lit (.bool true)], args := [d] }
  | _ => none }
def fnNameRow : OpenClaim := { program := "ytbafeponkpaenaa", sum := "b3d19825ace3ae4390fc00792d57817425ce41f079528ef490b9dbfba215755a", func := "loop.example/mailhost/laws.FnName", spec := "fnName", apart := false }
def FnNameSaid : Prop := fnNameRow.holds Try.pinned (OpenSpec.ofChange fnNameSpec)

/-- ITS FALSE NEIGHBOUR: 'it returns false'. Refute it at one input. -/
def fnNameWrong : ChangeSpec := { name := "fnName", fn := fun _ => fun
  | [d] => { results := [.lit (.bool false)], args := [d] }
  | _ => none }
def FnNameWrongFalsely : Prop := fnNameRow.holds Try.pinned (OpenSpec.ofChange fnNameWrong)

/-- 'laws.FnNamePart': WHATEVER THE INPUT: true; the input reads as it did. -/
def fnNamePartSpec : ChangeSpec := { name := "fnNamePart", fn := fun _ => fun
  | [d] => { results := [.lit (.bool true)], args := [d] }
  | _ => none }
def fnNamePartRow : OpenClaim := { program := "ytbafeponkpaenaa", sum := "b3d19825ace3ae4390fc00792d57817425ce41f079528ef490b9dbfba215755a", func := "loop.example/mailhost/laws.FnNamePart", spec := "fnNamePart", apart := false }
def FnNamePartSaid : Prop := fnNamePartRow.holds Try.pinned (OpenSpec.ofChange fnNamePartSpec)

/-- ITS FALSE NEIGHBOUR: 'it returns false'. Refute it at one input. -/
def fnNamePartWrong : ChangeSpec := { name := "fnNamePart", fn := fun _ => fun
  | [d] => { results := [.lit (.bool false)], args := [d] }
  | _ => none }
def FnNamePartWrongFalsely : Prop := fnNamePartRow.holds Try.pinned (OpenSpec.ofChange fnNamePartWrong)

/-- 'laws.FnExactDomainValid': WHATEVER THE INPUT: true; the input reads as it did. -/
def fnExactDomainValidSpec : ChangeSpec := { name := "fnExactDomainValid", fn := fun _ => fun
  | [d] => { results := [.lit (.bool true)], args := [d] }
  | _ => none }
def fnExactDomainValidRow : OpenClaim := { program := "ytbafeponkpaenaa", sum := "b3d19825ace3ae4390fc00792d57817425ce41f079528ef490b9dbfba215755a", func := "loop.example/mailhost/laws.FnExactDomainValid", spec := "fnExactDomainValid", apart := false }
def FnExactDomainValidSaid : Prop := fnExactDomainValidRow.holds Try.pinned (OpenSpec.ofChange fnExactDomainValidSpec)

/-- ITS FALSE NEIGHBOUR: 'it returns false'. Refute it at one input. -/
def fnExactDomainValidWrong : ChangeSpec := { name := "fnExactDomainValid", fn := fun _ => fun
  | [d] => { results := [.lit (.bool false)], args := [d] }
  | _ => none }
def FnExactDomainValidWrongFalsely : Prop := fnExactDomainValidRow.holds Try.pinned (OpenSpec.ofChange fnExactDomainValidWrong)

/-- 'laws.FnDomainName': WHATEVER THE INPUT: true; the input reads as it did. -/
def fnDomainNameSpec : ChangeSpec := { name := "fnDomainName", fn := fun _ => fun
  | [d] => { results := [.lit (.bool true)], args := [d] }
  | _ => none }
def fnDomainNameRow : OpenClaim := { program := "ytbafeponkpaenaa", sum := "b3d19825ace3ae4390fc00792d57817425ce41f079528ef490b9dbfba215755a", func := "loop.example/mailhost/laws.FnDomainName", spec := "fnDomainName", apart := false }
def FnDomainNameSaid : Prop := fnDomainNameRow.holds Try.pinned (OpenSpec.ofChange fnDomainNameSpec)

/-- ITS FALSE NEIGHBOUR: 'it returns false'. Refute it at one input. -/
def fnDomainNameWrong : ChangeSpec := { name := "fnDomainName", fn := fun _ => fun
  | [d] => { results := [.lit (.bool false)], args := [d] }
  | _ => none }
def FnDomainNameWrongFalsely : Prop := fnDomainNameRow.holds Try.pinned (OpenSpec.ofChange fnDomainNameWrong)

/-- 'laws.FnDomainTwo': WHATEVER THE INPUT: true; the input reads as it did. -/
def fnDomainTwoSpec : ChangeSpec := { name := "fnDomainTwo", fn := fun _ => fun
  | [d1, d2] => { results := [.lit (.bool true)], args := [d1, d2] }
  | _ => none }
def fnDomainTwoRow : OpenClaim := { program := "ytbafeponkpaenaa", sum := "b3d19825ace3ae4390fc00792d57817425ce41f079528ef490b9dbfba215755a", func := "loop.example/mailhost/laws.FnDomainTwo", spec := "fnDomainTwo", apart := false }
def FnDomainTwoSaid : Prop := fnDomainTwoRow.holds Try.pinned (OpenSpec.ofChange fnDomainTwoSpec)

/-- ITS FALSE NEIGHBOUR: 'it returns false'. Refute it at one input. -/
def fnDomainTwoWrong : ChangeSpec := { name := "fnDomainTwo", fn := fun _ => fun
  | [d1, d2] => { results := [.lit (.bool false)], args := [d1, d2] }
  | _ => none }
def FnDomainTwoWrongFalsely : Prop := fnDomainTwoRow.holds Try.pinned (OpenSpec.ofChange fnDomainTwoWrong)

/-- 'laws.FnDomainDots': WHATEVER THE INPUT: true; the input reads as it did. -/
def fnDomainDotsSpec : ChangeSpec := { name := "fnDomainDots", fn := fun _ => fun
  | [d] => { results := [.lit (.bool true)], args := [d] }
  | _ => none }
def fnDomainDotsRow : OpenClaim := { program := "ytbafeponkpaenaa", sum := "b3d19825ace3ae4390fc00792d57817425ce41f079528ef490b9dbfba215755a", func := "loop.example/mailhost/laws.FnDomainDots", spec := "fnDomainDots", apart := false }
def FnDomainDotsSaid : Prop := fnDomainDotsRow.holds Try.pinned (OpenSpec.ofChange fnDomainDotsSpec)

/-- ITS FALSE NEIGHBOUR: 'it returns false'. Refute it at one input. -/
def fnDomainDotsWrong : ChangeSpec := { name := "fnDomainDots", fn := fun _ => fun
  | [d] => { results := [.lit (.bool false)], args := [d] }
  | _ => none }
def FnDomainDotsWrongFalsely : Prop := fnDomainDotsRow.holds Try.pinned (OpenSpec.ofChange fnDomainDotsWrong)

/-- 'laws.FnDomain': WHATEVER THE INPUT: true; the input reads as it did. -/
def fnDomainSpec : ChangeSpec := { name := "fnDomain", fn := fun _ => fun
  | [d] => { results := [.lit (.bool true)], args := [d] }
  | _ => none }
def fnDomainRow : OpenClaim := { program := "ytbafeponkpaenaa", sum := "b3d19825ace3ae4390fc00792d57817425ce41f079528ef490b9dbfba215755a", func := "loop.example/mailhost/laws.FnDomain", spec := "fnDomain", apart := false }
def FnDomainSaid : Prop := fnDomainRow.holds Try.pinned (OpenSpec.ofChange fnDomainSpec)

/-- ITS FALSE NEIGHBOUR: 'it returns false'. Refute it at one input. -/
def fnDomainWrong : ChangeSpec := { name := "fnDomain", fn := fun _ => fun
  | [d] => { results := [.lit (.bool false)], args := [d] }
  | _ => none }
def FnDomainWrongFalsely : Prop := fnDomainRow.holds Try.pinned (OpenSpec.ofChange fnDomainWrong)

/-- 'laws.FnExactAddressParse': WHATEVER THE INPUT: true; the input reads as it did. -/
def fnExactAddressParseSpec : ChangeSpec := { name := "fnExactAddressParse", fn := fun _ => fun
  | [d] => { results := [.lit (.bool true)], args := [d] }
  | _ => none }
def fnExactAddressParseRow : OpenClaim := { program := "ytbafeponkpaenaa", sum := "b3d19825ace3ae4390fc00792d57817425ce41f079528ef490b9dbfba215755a", func := "loop.example/mailhost/laws.FnExactAddressParse", spec := "fnExactAddressParse", apart := false }
def FnExactAddressParseSaid : Prop := fnExactAddressParseRow.holds Try.pinned (OpenSpec.ofChange fnExactAddressParseSpec)

/-- ITS FALSE NEIGHBOUR: 'it returns false'. Refute it at one input. -/
def fnExactAddressParseWrong : ChangeSpec := { name := "fnExactAddressParse", fn := fun _ => fun
  | [d] => { results := [.lit (.bool false)], args := [d] }
  | _ => none }
def FnExactAddressParseWrongFalsely : Prop := fnExactAddressParseRow.holds Try.pinned (OpenSpec.ofChange fnExactAddressParseWrong)

/-- 'laws.FnExactAddressText': WHATEVER THE INPUT: true; the input reads as it did. -/
def fnExactAddressTextSpec : ChangeSpec := { name := "fnExactAddressText", fn := fun _ => fun
  | [d] => { results := [.lit (.bool true)], args := [d] }
  | _ => none }
def fnExactAddressTextRow : OpenClaim := { program := "ytbafeponkpaenaa", sum := "b3d19825ace3ae4390fc00792d57817425ce41f079528ef490b9dbfba215755a", func := "loop.example/mailhost/laws.FnExactAddressText", spec := "fnExactAddressText", apart := false }
def FnExactAddressTextSaid : Prop := fnExactAddressTextRow.holds Try.pinned (OpenSpec.ofChange fnExactAddressTextSpec)

/-- ITS FALSE NEIGHBOUR: 'it returns false'. Refute it at one input. -/
def fnExactAddressTextWrong : ChangeSpec := { name := "fnExactAddressText", fn := fun _ => fun
  | [d] => { results := [.lit (.bool false)], args := [d] }
  | _ => none }
def FnExactAddressTextWrongFalsely : Prop := fnExactAddressTextRow.holds Try.pinned (OpenSpec.ofChange fnExactAddressTextWrong)

/-- 'laws.FnExactPathParse': WHATEVER THE INPUT: true; the input reads as it did. -/
def fnExactPathParseSpec : ChangeSpec := { name := "fnExactPathParse", fn := fun _ => fun
  | [d] => { results := [.lit (.bool true)], args := [d] }
  | _ => none }
def fnExactPathParseRow : OpenClaim := { program := "ytbafeponkpaenaa", sum := "b3d19825ace3ae4390fc00792d57817425ce41f079528ef490b9dbfba215755a", func := "loop.example/mailhost/laws.FnExactPathParse", spec := "fnExactPathParse", apart := false }
def FnExactPathParseSaid : Prop := fnExactPathParseRow.holds Try.pinned (OpenSpec.ofChange fnExactPathParseSpec)

/-- ITS FALSE NEIGHBOUR: 'it returns false'. Refute it at one input. -/
def fnExactPathParseWrong : ChangeSpec := { name := "fnExactPathParse", fn := fun _ => fun
  | [d] => { results := [.lit (.bool false)], args := [d] }
  | _ => none }
def FnExactPathParseWrongFalsely : Prop := fnExactPathParseRow.holds Try.pinned (OpenSpec.ofChange fnExactPathParseWrong)

/-- 'laws.FnAddressText': WHATEVER THE INPUT: true; the input reads as it did. -/
def fnAddressTextSpec : ChangeSpec := { name := "fnAddressText", fn := fun _ => fun
  | [d] => { results := [.lit (.bool true)], args := [d] }
  | _ => none }
def fnAddressTextRow : OpenClaim := { program := "ytbafeponkpaenaa", sum := "b3d19825ace3ae4390fc00792d57817425ce41f079528ef490b9dbfba215755a", func := "loop.example/mailhost/laws.FnAddressText", spec := "fnAddressText", apart := false }
def FnAddressTextSaid : Prop := fnAddressTextRow.holds Try.pinned (OpenSpec.ofChange fnAddressTextSpec)

/-- ITS FALSE NEIGHBOUR: 'it returns false'. Refute it at one input. -/
def fnAddressTextWrong : ChangeSpec := { name := "fnAddressText", fn := fun _ => fun
  | [d] => { results := [.lit (.bool false)], args := [d] }
  | _ => none }
def FnAddressTextWrongFalsely : Prop := fnAddressTextRow.holds Try.pinned (OpenSpec.ofChange fnAddressTextWrong)

/-- 'laws.FnAddressParts': WHATEVER THE INPUT: true; the input reads as it did. -/
def fnAddressPartsSpec : ChangeSpec := { name := "fnAddressParts", fn := fun _ => fun
  | [d] => { results := [.lit (.bool true)], args := [d] }
  | _ => none }
def fnAddressPartsRow : OpenClaim := { program := "ytbafeponkpaenaa", sum := "b3d19825ace3ae4390fc00792d57817425ce41f079528ef490b9dbfba215755a", func := "loop.example/mailhost/laws.FnAddressParts", spec := "fnAddressParts", apart := false }
def FnAddressPartsSaid : Prop := fnAddressPartsRow.holds Try.pinned (OpenSpec.ofChange fnAddressPartsSpec)

/-- ITS FALSE NEIGHBOUR: 'it returns false'. Refute it at one input. -/
def fnAddressPartsWrong : ChangeSpec := { name := "fnAddressParts", fn := fun _ => fun
  | [d] => { results := [.lit (.bool false)], args := [d] }
  | _ => none }
def FnAddressPartsWrongFalsely : Prop := fnAddressPartsRow.holds Try.pinned (OpenSpec.ofChange fnAddressPartsWrong)

/-- 'laws.FnPathBare': WHATEVER THE INPUT: true; the input reads as it did. -/
def fnPathBareSpec : ChangeSpec := { name := "fnPathBare", fn := fun _ => fun
  | [d] => { results := [.lit (.bool true)], args := [d] }
  | _ => none }
def fnPathBareRow : OpenClaim := { program := "ytbafeponkpaenaa", sum := "b3d19825ace3ae4390fc00792d57817425ce41f079528ef490b9dbfba215755a", func := "loop.example/mailhost/laws.FnPathBare", spec := "fnPathBare", apart := false }
def FnPathBareSaid : Prop := fnPathBareRow.holds Try.pinned (OpenSpec.ofChange fnPathBareSpec)

/-- ITS FALSE NEIGHBOUR: 'it returns false'. Refute it at one input. -/
def fnPathBareWrong : ChangeSpec := { name := "fnPathBare", fn := fun _ => fun
  | [d] => { results := [.lit (.bool false)], args := [d] }
  | _ => none }
def FnPathBareWrongFalsely : Prop := fnPathBareRow.holds Try.pinned (OpenSpec.ofChange fnPathBareWrong)

/-- 'laws.FnPathOf': WHATEVER THE INPUT: true; the input reads as it did. -/
def fnPathOfSpec : ChangeSpec := { name := "fnPathOf", fn := fun _ => fun
  | [d] => { results := [.lit (.bool true)], args := [d] }
  | _ => none }
def fnPathOfRow : OpenClaim := { program := "ytbafeponkpaenaa", sum := "b3d19825ace3ae4390fc00792d57817425ce41f079528ef490b9dbfba215755a", func := "loop.example/mailhost/laws.FnPathOf", spec := "fnPathOf", apart := false }
def FnPathOfSaid : Prop := fnPathOfRow.holds Try.pinned (OpenSpec.ofChange fnPathOfSpec)

/-- ITS FALSE NEIGHBOUR: 'it returns false'. Refute it at one input. -/
def fnPathOfWrong : ChangeSpec := { name := "fnPathOf", fn := fun _ => fun
  | [d] => { results := [.lit (.bool false)], args := [d] }
  | _ => none }
def FnPathOfWrongFalsely : Prop := fnPathOfRow.holds Try.pinned (OpenSpec.ofChange fnPathOfWrong)

/-- 'laws.FnAddress': WHATEVER THE INPUT: true; the input reads as it did. -/
def fnAddressSpec : ChangeSpec := { name := "fnAddress", fn := fun _ => fun
  | [d] => { results := [.lit (.bool true)], args := [d] }
  | _ => none }
def fnAddressRow : OpenClaim := { program := "ytbafeponkpaenaa", sum := "b3d19825ace3ae4390fc00792d57817425ce41f079528ef490b9dbfba215755a", func := "loop.example/mailhost/laws.FnAddress", spec := "fnAddress", apart := false }
def FnAddressSaid : Prop := fnAddressRow.holds Try.pinned (OpenSpec.ofChange fnAddressSpec)

/-- ITS FALSE NEIGHBOUR: 'it returns false'. Refute it at one input. -/
def fnAddressWrong : ChangeSpec := { name := "fnAddress", fn := fun _ => fun
  | [d] => { results := [.lit (.bool false)], args := [d] }
  | _ => none }
def FnAddressWrongFalsely : Prop := fnAddressRow.holds Try.pinned (OpenSpec.ofChange fnAddressWrong)

/-- 'laws.FnPath': WHATEVER THE INPUT: true; the input reads as it did. -/
def fnPathSpec : ChangeSpec := { name := "fnPath", fn := fun _ => fun
  | [d] => { results := [.lit (.bool true)], args := [d] }
  | _ => none }
def fnPathRow : OpenClaim := { program := "ytbafeponkpaenaa", sum := "b3d19825ace3ae4390fc00792d57817425ce41f079528ef490b9dbfba215755a", func := "loop.example/mailhost/laws.FnPath", spec := "fnPath", apart := false }
def FnPathSaid : Prop := fnPathRow.holds Try.pinned (OpenSpec.ofChange fnPathSpec)

/-- ITS FALSE NEIGHBOUR: 'it returns false'. Refute it at one input. -/
def fnPathWrong : ChangeSpec := { name := "fnPath", fn := fun _ => fun
  | [d] => { results := [.lit (.bool false)], args := [d] }
  | _ => none }
def FnPathWrongFalsely : Prop := fnPathRow.holds Try.pinned (OpenSpec.ofChange fnPathWrong)

/- THE SECOND FORM. 'bulk': how many values and letters a reading holds, each counted each time it is reached (what is shared counts as often as it is met; a slice's spare places count too). A statement '..UptoSaid' is the law's where the arguments, and the package variables that the reading takes, are together of bulk at most 1048576: NARROWER than '..Said'. Prove '..Said' where nothing that the law and all that it calls make is longer than what came in: it says more and counts as full. Else prove '..UptoSaid'. A law counts once. -/
mutual
def uptoBulk {H : Type} : DataW H → Nat
  | .lit (.string bytes) => bytes.length + 1
  | .lit _ => 1
  | .nil => 1
  | .ptr d => uptoBulk d + 1
  | .slice elems spare => uptoBulkAll elems + uptoBulkAll spare + 1
  | .agg parts => uptoBulkAll parts + 1
  | .iface _ d => uptoBulk d + 1
  | .map entries => uptoBulkEntries entries + 1
  | .held _ => 1
def uptoBulkAll {H : Type} : List (DataW H) → Nat
  | [] => 0
  | d :: r => uptoBulk d + uptoBulkAll r
def uptoBulkEntries {H : Type} : List (Lit × DataW H) → Nat
  | [] => 0
  | x :: r => uptoBulkEntry x + uptoBulkEntries r
def uptoBulkEntry {H : Type} : Lit × DataW H → Nat
  | (.string bytes, d) => bytes.length + uptoBulk d + 1
  | (_, d) => uptoBulk d + 1
 end
def uptoSmall : (H : Type) → List (DataW H) → Bool := fun _ ds => decide (uptoBulkAll ds ≤ 1048576)
def OpenSpec.upto (s : _root_.Go.ChangeSpec) : _root_.Go.OpenSpec := { _root_.Go.OpenSpec.ofChange s with cond := some uptoSmall }

/-- 'laws.FnExactNameValid', WHERE WHAT IT READS IS OF BULK AT MOST 1048576: true; the input reads as it did. -/
def fnExactNameValidUptoRow : OpenClaim := { program := "ytbafeponkpaenaa", sum := "b3d19825ace3ae4390fc00792d57817425ce41f079528ef490b9dbfba215755a", func := "loop.example/mailhost/laws.FnExactNameValid", spec := "fnExactNameValid", apart := false, narrowed := true }
def FnExactNameValidUptoSaid : Prop := fnExactNameValidUptoRow.holds Try.pinned (OpenSpec.upto fnExactNameValidSpec)

/-- 'laws.FnName', WHERE WHAT IT READS IS OF BULK AT MOST 1048576: true; the input reads as it did. -/
def fnNameUptoRow : OpenClaim := { program := "ytbafeponkpaenaa", sum := "b3d19825ace3ae4390fc00792d57817425ce41f079528ef490b9dbfba215755a", func := "loop.example/mailhost/laws.FnName", spec := "fnName", apart := false, narrowed := true }
def FnNameUptoSaid : Prop := fnNameUptoRow.holds Try.pinned (OpenSpec.upto fnNameSpec)

/-- 'laws.FnNamePart', WHERE WHAT IT READS IS OF BULK AT MOST 1048576: true; the input reads as it did. -/
def fnNamePartUptoRow : OpenClaim := { program := "ytbafeponkpaenaa", sum := "b3d19825ace3ae4390fc00792d57817425ce41f079528ef490b9dbfba215755a", func := "loop.example/mailhost/laws.FnNamePart", spec := "fnNamePart", apart := false, narrowed := true }
def FnNamePartUptoSaid : Prop := fnNamePartUptoRow.holds Try.pinned (OpenSpec.upto fnNamePartSpec)

/-- 'laws.FnExactDomainValid', WHERE WHAT IT READS IS OF BULK AT MOST 1048576: true; the input reads as it did. -/
def fnExactDomainValidUptoRow : OpenClaim := { program := "ytbafeponkpaenaa", sum := "b3d19825ace3ae4390fc00792d57817425ce41f079528ef490b9dbfba215755a", func := "loop.example/mailhost/laws.FnExactDomainValid", spec := "fnExactDomainValid", apart := false, narrowed := true }
def FnExactDomainValidUptoSaid : Prop := fnExactDomainValidUptoRow.holds Try.pinned (OpenSpec.upto fnExactDomainValidSpec)

/-- 'laws.FnDomainName', WHERE WHAT IT READS IS OF BULK AT MOST 1048576: true; the input reads as it did. -/
def fnDomainNameUptoRow : OpenClaim := { program := "ytbafeponkpaenaa", sum := "b3d19825ace3ae4390fc00792d57817425ce41f079528ef490b9dbfba215755a", func := "loop.example/mailhost/laws.FnDomainName", spec := "fnDomainName", apart := false, narrowed := true }
def FnDomainNameUptoSaid : Prop := fnDomainNameUptoRow.holds Try.pinned (OpenSpec.upto fnDomainNameSpec)

/-- 'laws.FnDomainTwo', WHERE WHAT IT READS IS OF BULK AT MOST 1048576: true; the input reads as it did. -/
def fnDomainTwoUptoRow : OpenClaim := { program := "ytbafeponkpaenaa", sum := "b3d19825ace3ae4390fc00792d57817425ce41f079528ef490b9dbfba215755a", func := "loop.example/mailhost/laws.FnDomainTwo", spec := "fnDomainTwo", apart := false, narrowed := true }
def FnDomainTwoUptoSaid : Prop := fnDomainTwoUptoRow.holds Try.pinned (OpenSpec.upto fnDomainTwoSpec)

/-- 'laws.FnDomainDots', WHERE WHAT IT READS IS OF BULK AT MOST 1048576: true; the input reads as it did. -/
def fnDomainDotsUptoRow : OpenClaim := { program := "ytbafeponkpaenaa", sum := "b3d19825ace3ae4390fc00792d57817425ce41f079528ef490b9dbfba215755a", func := "loop.example/mailhost/laws.FnDomainDots", spec := "fnDomainDots", apart := false, narrowed := true }
def FnDomainDotsUptoSaid : Prop := fnDomainDotsUptoRow.holds Try.pinned (OpenSpec.upto fnDomainDotsSpec)

/-- 'laws.FnDomain', WHERE WHAT IT READS IS OF BULK AT MOST 1048576: true; the input reads as it did. -/
def fnDomainUptoRow : OpenClaim := { program := "ytbafeponkpaenaa", sum := "b3d19825ace3ae4390fc00792d57817425ce41f079528ef490b9dbfba215755a", func := "loop.example/mailhost/laws.FnDomain", spec := "fnDomain", apart := false, narrowed := true }
def FnDomainUptoSaid : Prop := fnDomainUptoRow.holds Try.pinned (OpenSpec.upto fnDomainSpec)

/-- 'laws.FnExactAddressParse', WHERE WHAT IT READS IS OF BULK AT MOST 1048576: true; the input reads as it did. -/
def fnExactAddressParseUptoRow : OpenClaim := { program := "ytbafeponkpaenaa", sum := "b3d19825ace3ae4390fc00792d57817425ce41f079528ef490b9dbfba215755a", func := "loop.example/mailhost/laws.FnExactAddressParse", spec := "fnExactAddressParse", apart := false, narrowed := true }
def FnExactAddressParseUptoSaid : Prop := fnExactAddressParseUptoRow.holds Try.pinned (OpenSpec.upto fnExactAddressParseSpec)

/-- 'laws.FnExactAddressText', WHERE WHAT IT READS IS OF BULK AT MOST 1048576: true; the input reads as it did. -/
def fnExactAddressTextUptoRow : OpenClaim := { program := "ytbafeponkpaenaa", sum := "b3d19825ace3ae4390fc00792d57817425ce41f079528ef490b9dbfba215755a", func := "loop.example/mailhost/laws.FnExactAddressText", spec := "fnExactAddressText", apart := false, narrowed := true }
def FnExactAddressTextUptoSaid : Prop := fnExactAddressTextUptoRow.holds Try.pinned (OpenSpec.upto fnExactAddressTextSpec)

/-- 'laws.FnExactPathParse', WHERE WHAT IT READS IS OF BULK AT MOST 1048576: true; the input reads as it did. -/
def fnExactPathParseUptoRow : OpenClaim := { program := "ytbafeponkpaenaa", sum := "b3d19825ace3ae4390fc00792d57817425ce41f079528ef490b9dbfba215755a", func := "loop.example/mailhost/laws.FnExactPathParse", spec := "fnExactPathParse", apart := false, narrowed := true }
def FnExactPathParseUptoSaid : Prop := fnExactPathParseUptoRow.holds Try.pinned (OpenSpec.upto fnExactPathParseSpec)

/-- 'laws.FnAddressText', WHERE WHAT IT READS IS OF BULK AT MOST 1048576: true; the input reads as it did. -/
def fnAddressTextUptoRow : OpenClaim := { program := "ytbafeponkpaenaa", sum := "b3d19825ace3ae4390fc00792d57817425ce41f079528ef490b9dbfba215755a", func := "loop.example/mailhost/laws.FnAddressText", spec := "fnAddressText", apart := false, narrowed := true }
def FnAddressTextUptoSaid : Prop := fnAddressTextUptoRow.holds Try.pinned (OpenSpec.upto fnAddressTextSpec)

/-- 'laws.FnAddressParts', WHERE WHAT IT READS IS OF BULK AT MOST 1048576: true; the input reads as it did. -/
def fnAddressPartsUptoRow : OpenClaim := { program := "ytbafeponkpaenaa", sum := "b3d19825ace3ae4390fc00792d57817425ce41f079528ef490b9dbfba215755a", func := "loop.example/mailhost/laws.FnAddressParts", spec := "fnAddressParts", apart := false, narrowed := true }
def FnAddressPartsUptoSaid : Prop := fnAddressPartsUptoRow.holds Try.pinned (OpenSpec.upto fnAddressPartsSpec)

/-- 'laws.FnPathBare', WHERE WHAT IT READS IS OF BULK AT MOST 1048576: true; the input reads as it did. -/
def fnPathBareUptoRow : OpenClaim := { program := "ytbafeponkpaenaa", sum := "b3d19825ace3ae4390fc00792d57817425ce41f079528ef490b9dbfba215755a", func := "loop.example/mailhost/laws.FnPathBare", spec := "fnPathBare", apart := false, narrowed := true }
def FnPathBareUptoSaid : Prop := fnPathBareUptoRow.holds Try.pinned (OpenSpec.upto fnPathBareSpec)

/-- 'laws.FnPathOf', WHERE WHAT IT READS IS OF BULK AT MOST 1048576: true; the input reads as it did. -/
def fnPathOfUptoRow : OpenClaim := { program := "ytbafeponkpaenaa", sum := "b3d19825ace3ae4390fc00792d57817425ce41f079528ef490b9dbfba215755a", func := "loop.example/mailhost/laws.FnPathOf", spec := "fnPathOf", apart := false, narrowed := true }
def FnPathOfUptoSaid : Prop := fnPathOfUptoRow.holds Try.pinned (OpenSpec.upto fnPathOfSpec)

/-- 'laws.FnAddress', WHERE WHAT IT READS IS OF BULK AT MOST 1048576: true; the input reads as it did. -/
def fnAddressUptoRow : OpenClaim := { program := "ytbafeponkpaenaa", sum := "b3d19825ace3ae4390fc00792d57817425ce41f079528ef490b9dbfba215755a", func := "loop.example/mailhost/laws.FnAddress", spec := "fnAddress", apart := false, narrowed := true }
def FnAddressUptoSaid : Prop := fnAddressUptoRow.holds Try.pinned (OpenSpec.upto fnAddressSpec)

/-- 'laws.FnPath', WHERE WHAT IT READS IS OF BULK AT MOST 1048576: true; the input reads as it did. -/
def fnPathUptoRow : OpenClaim := { program := "ytbafeponkpaenaa", sum := "b3d19825ace3ae4390fc00792d57817425ce41f079528ef490b9dbfba215755a", func := "loop.example/mailhost/laws.FnPath", spec := "fnPath", apart := false, narrowed := true }
def FnPathUptoSaid : Prop := fnPathUptoRow.holds Try.pinned (OpenSpec.upto fnPathSpec)

end Rows
end Go.Proofs.Ytbafeponkpaenaa
