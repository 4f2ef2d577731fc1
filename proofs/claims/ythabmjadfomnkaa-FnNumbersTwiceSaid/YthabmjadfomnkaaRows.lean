/-
  No cell of these rows narrows 'for every input' (looked for: loops, veiled, ifaces, maps, wideKeys, modest, calm, conditions, laid).
  DERIVED. THE GIVEN ROWS OF THIS SEAT. 14 by the template 'for every input the law returns true; each argument reads behind the call as it read before'; 0 by the template 'total and deterministic' (their statements: YthabmjadfomnkaaTotals.lean).
  GIVEN WITH THE SEED: the statements are not yours to turn. If you find one false, say at which input.
  Laid BY PROGRAM, IN A SANDBOX (cutbox-rows.mjs): the forced cells as the released guide's own fill.sh prints them over the translation 7a17c8ed0cc2e0c5… (all of the seat's roots in one cut). By AI agents, Wed Nov 11 2026. No macro, syntax, notation, axiom, sorry.
-/
import Derived.Test.YthabmjadfomnkaaChecked
import GoSem.Claim
import GoSem.ClaimJoined
import GoSem.ClaimMapViews
import Derived.JoinedTies
import Derived.KernelRfl
namespace Go.Proofs.Ythabmjadfomnkaa
/- THE CELL 'sum', in the pinned program and in every row, IS THE sha256 OF THE DUMP (.gsa) THAT YthabmjadfomnkaaProg.lean LOADS. Nothing in Lean hashes anything: it is a label: what it is worth is what the hold of that sum in a sandbox is worth. -/
noncomputable def Try.pinned : Pinned := { name := "ythabmjadfomnkaa", sum := "7a17c8ed0cc2e0c5b724c2c50d10fe070270b08bf7b6e73135ea4b4c280ebcb5", checked := Try.checked }
namespace Rows
def none {H : Type} : Left H := { results := [], args := [] }

/-- 'laws.FnExactSetValid': WHATEVER THE INPUT: true; the input reads as it did. -/
def fnExactSetValidSpec : ChangeSpec := { name := "fnExactSetValid", fn := fun _ => fun
  | [d] => { results := [.lit (.bool true)], args := [d] }
  | _ => none }
def fnExactSetValidRow : OpenClaim := { program := "ythabmjadfomnkaa", sum := "7a17c8ed0cc2e0c5b724c2c50d10fe070270b08bf7b6e73135ea4b4c280ebcb5", func := "loop.example/mailhost/laws.FnExactSetValid", spec := "fnExactSetValid", apart := false }
def FnExactSetValidSaid : Prop := fnExactSetValidRow.holds Try.pinned (OpenSpec.ofChange fnExactSetValidSpec)

/-- ITS FALSE NEIGHBOUR: 'it returns false'. Refute it at one input. -/
def fnExactSetValidWrong : ChangeSpec := { name := "fnExactSetValid", fn := fun _ => fun
  | [d] => { results := [.lit (.bool false)], args := [d] }
  | _ => none }
def FnExactSetValidWrongFalsely : Prop := fnExactSetValidRow.holds Try.pinned (OpenSpec.ofChange fnExactSetValidWrong)

/-- 'laws.FnSetLong': WHATEVER THE INPUT: true; the input reads as it did. -/
def fnSetLongSpec : ChangeSpec := { name := "fnSetLong", fn := fun _ => fun
  | [d] => { results := [.lit (.bool true)], args := [d] }
  | _ => none }
def fnSetLongRow : OpenClaim := { program := "ythabmjadfomnkaa", sum := "7a17c8ed0cc2e0c5b724c2c50d10fe070270b08bf7b6e73135ea4b4c280ebcb5", func := "loop.example/mailhost/laws.FnSetLong", spec := "fnSetLong", apart := false }
def FnSetLongSaid : Prop := fnSetLongRow.holds Try.pinned (OpenSpec.ofChange fnSetLongSpec)

/-- ITS FALSE NEIGHBOUR: 'it returns false'. Refute it at one input. -/
def fnSetLongWrong : ChangeSpec := { name := "fnSetLong", fn := fun _ => fun
  | [d] => { results := [.lit (.bool false)], args := [d] }
  | _ => none }
def FnSetLongWrongFalsely : Prop := fnSetLongRow.holds Try.pinned (OpenSpec.ofChange fnSetLongWrong)

/-- 'laws.FnSetPart': WHATEVER THE INPUT: true; the input reads as it did. -/
def fnSetPartSpec : ChangeSpec := { name := "fnSetPart", fn := fun _ => fun
  | [d] => { results := [.lit (.bool true)], args := [d] }
  | _ => none }
def fnSetPartRow : OpenClaim := { program := "ythabmjadfomnkaa", sum := "7a17c8ed0cc2e0c5b724c2c50d10fe070270b08bf7b6e73135ea4b4c280ebcb5", func := "loop.example/mailhost/laws.FnSetPart", spec := "fnSetPart", apart := false }
def FnSetPartSaid : Prop := fnSetPartRow.holds Try.pinned (OpenSpec.ofChange fnSetPartSpec)

/-- ITS FALSE NEIGHBOUR: 'it returns false'. Refute it at one input. -/
def fnSetPartWrong : ChangeSpec := { name := "fnSetPart", fn := fun _ => fun
  | [d] => { results := [.lit (.bool false)], args := [d] }
  | _ => none }
def FnSetPartWrongFalsely : Prop := fnSetPartRow.holds Try.pinned (OpenSpec.ofChange fnSetPartWrong)

/-- 'laws.FnNumbers': WHATEVER THE INPUT: true; the input reads as it did. -/
def fnNumbersSpec : ChangeSpec := { name := "fnNumbers", fn := fun _ => fun
  | [d] => { results := [.lit (.bool true)], args := [d] }
  | _ => none }
def fnNumbersRow : OpenClaim := { program := "ythabmjadfomnkaa", sum := "7a17c8ed0cc2e0c5b724c2c50d10fe070270b08bf7b6e73135ea4b4c280ebcb5", func := "loop.example/mailhost/laws.FnNumbers", spec := "fnNumbers", apart := false }
def FnNumbersSaid : Prop := fnNumbersRow.holds Try.pinned (OpenSpec.ofChange fnNumbersSpec)

/-- ITS FALSE NEIGHBOUR: 'it returns false'. Refute it at one input. -/
def fnNumbersWrong : ChangeSpec := { name := "fnNumbers", fn := fun _ => fun
  | [d] => { results := [.lit (.bool false)], args := [d] }
  | _ => none }
def FnNumbersWrongFalsely : Prop := fnNumbersRow.holds Try.pinned (OpenSpec.ofChange fnNumbersWrong)

/-- 'laws.FnNumbersOrder': WHATEVER THE INPUT: true; the input reads as it did. -/
def fnNumbersOrderSpec : ChangeSpec := { name := "fnNumbersOrder", fn := fun _ => fun
  | [d] => { results := [.lit (.bool true)], args := [d] }
  | _ => none }
def fnNumbersOrderRow : OpenClaim := { program := "ythabmjadfomnkaa", sum := "7a17c8ed0cc2e0c5b724c2c50d10fe070270b08bf7b6e73135ea4b4c280ebcb5", func := "loop.example/mailhost/laws.FnNumbersOrder", spec := "fnNumbersOrder", apart := false }
def FnNumbersOrderSaid : Prop := fnNumbersOrderRow.holds Try.pinned (OpenSpec.ofChange fnNumbersOrderSpec)

/-- ITS FALSE NEIGHBOUR: 'it returns false'. Refute it at one input. -/
def fnNumbersOrderWrong : ChangeSpec := { name := "fnNumbersOrder", fn := fun _ => fun
  | [d] => { results := [.lit (.bool false)], args := [d] }
  | _ => none }
def FnNumbersOrderWrongFalsely : Prop := fnNumbersOrderRow.holds Try.pinned (OpenSpec.ofChange fnNumbersOrderWrong)

/-- 'laws.FnNumbersStar': WHATEVER THE INPUT: true; the input reads as it did. -/
def fnNumbersStarSpec : ChangeSpec := { name := "fnNumbersStar", fn := fun _ => fun
  | [d] => { results := [.lit (.bool true)], args := [d] }
  | _ => none }
def fnNumbersStarRow : OpenClaim := { program := "ythabmjadfomnkaa", sum := "7a17c8ed0cc2e0c5b724c2c50d10fe070270b08bf7b6e73135ea4b4c280ebcb5", func := "loop.example/mailhost/laws.FnNumbersStar", spec := "fnNumbersStar", apart := false }
def FnNumbersStarSaid : Prop := fnNumbersStarRow.holds Try.pinned (OpenSpec.ofChange fnNumbersStarSpec)

/-- ITS FALSE NEIGHBOUR: 'it returns false'. Refute it at one input. -/
def fnNumbersStarWrong : ChangeSpec := { name := "fnNumbersStar", fn := fun _ => fun
  | [d] => { results := [.lit (.bool false)], args := [d] }
  | _ => none }
def FnNumbersStarWrongFalsely : Prop := fnNumbersStarRow.holds Try.pinned (OpenSpec.ofChange fnNumbersStarWrong)

/-- 'laws.FnNumbersSwap': WHATEVER THE INPUT: true; the input reads as it did. -/
def fnNumbersSwapSpec : ChangeSpec := { name := "fnNumbersSwap", fn := fun _ => fun
  | [d] => { results := [.lit (.bool true)], args := [d] }
  | _ => none }
def fnNumbersSwapRow : OpenClaim := { program := "ythabmjadfomnkaa", sum := "7a17c8ed0cc2e0c5b724c2c50d10fe070270b08bf7b6e73135ea4b4c280ebcb5", func := "loop.example/mailhost/laws.FnNumbersSwap", spec := "fnNumbersSwap", apart := false }
def FnNumbersSwapSaid : Prop := fnNumbersSwapRow.holds Try.pinned (OpenSpec.ofChange fnNumbersSwapSpec)

/-- ITS FALSE NEIGHBOUR: 'it returns false'. Refute it at one input. -/
def fnNumbersSwapWrong : ChangeSpec := { name := "fnNumbersSwap", fn := fun _ => fun
  | [d] => { results := [.lit (.bool false)], args := [d] }
  | _ => none }
def FnNumbersSwapWrongFalsely : Prop := fnNumbersSwapRow.holds Try.pinned (OpenSpec.ofChange fnNumbersSwapWrong)

/-- 'laws.FnNumbersTwice': WHATEVER THE INPUT: true; the input reads as it did. -/
def fnNumbersTwiceSpec : ChangeSpec := { name := "fnNumbersTwice", fn := fun _ => fun
  | [d1, d2] => { results := [.lit (.bool true)], args := [d1, d2] }
  | _ => none }
def fnNumbersTwiceRow : OpenClaim := { program := "ythabmjadfomnkaa", sum := "7a17c8ed0cc2e0c5b724c2c50d10fe070270b08bf7b6e73135ea4b4c280ebcb5", func := "loop.example/mailhost/laws.FnNumbersTwice", spec := "fnNumbersTwice", apart := false }
def FnNumbersTwiceSaid : Prop := fnNumbersTwiceRow.holds Try.pinned (OpenSpec.ofChange fnNumbersTwiceSpec)

/-- ITS FALSE NEIGHBOUR: 'it returns false'. Refute it at one input. -/
def fnNumbersTwiceWrong : ChangeSpec := { name := "fnNumbersTwice", fn := fun _ => fun
  | [d1, d2] => { results := [.lit (.bool false)], args := [d1, d2] }
  | _ => none }
def FnNumbersTwiceWrongFalsely : Prop := fnNumbersTwiceRow.holds Try.pinned (OpenSpec.ofChange fnNumbersTwiceWrong)

/-- 'laws.FnNumbersAll': WHATEVER THE INPUT: true; the input reads as it did. -/
def fnNumbersAllSpec : ChangeSpec := { name := "fnNumbersAll", fn := fun _ => fun
  | [d] => { results := [.lit (.bool true)], args := [d] }
  | _ => none }
def fnNumbersAllRow : OpenClaim := { program := "ythabmjadfomnkaa", sum := "7a17c8ed0cc2e0c5b724c2c50d10fe070270b08bf7b6e73135ea4b4c280ebcb5", func := "loop.example/mailhost/laws.FnNumbersAll", spec := "fnNumbersAll", apart := false }
def FnNumbersAllSaid : Prop := fnNumbersAllRow.holds Try.pinned (OpenSpec.ofChange fnNumbersAllSpec)

/-- ITS FALSE NEIGHBOUR: 'it returns false'. Refute it at one input. -/
def fnNumbersAllWrong : ChangeSpec := { name := "fnNumbersAll", fn := fun _ => fun
  | [d] => { results := [.lit (.bool false)], args := [d] }
  | _ => none }
def FnNumbersAllWrongFalsely : Prop := fnNumbersAllRow.holds Try.pinned (OpenSpec.ofChange fnNumbersAllWrong)

/-- 'laws.FnNumbersUnion': WHATEVER THE INPUT: true; the input reads as it did. -/
def fnNumbersUnionSpec : ChangeSpec := { name := "fnNumbersUnion", fn := fun _ => fun
  | [d] => { results := [.lit (.bool true)], args := [d] }
  | _ => none }
def fnNumbersUnionRow : OpenClaim := { program := "ythabmjadfomnkaa", sum := "7a17c8ed0cc2e0c5b724c2c50d10fe070270b08bf7b6e73135ea4b4c280ebcb5", func := "loop.example/mailhost/laws.FnNumbersUnion", spec := "fnNumbersUnion", apart := false }
def FnNumbersUnionSaid : Prop := fnNumbersUnionRow.holds Try.pinned (OpenSpec.ofChange fnNumbersUnionSpec)

/-- ITS FALSE NEIGHBOUR: 'it returns false'. Refute it at one input. -/
def fnNumbersUnionWrong : ChangeSpec := { name := "fnNumbersUnion", fn := fun _ => fun
  | [d] => { results := [.lit (.bool false)], args := [d] }
  | _ => none }
def FnNumbersUnionWrongFalsely : Prop := fnNumbersUnionRow.holds Try.pinned (OpenSpec.ofChange fnNumbersUnionWrong)

/-- 'laws.FnExactSetParse': WHATEVER THE INPUT: true; the input reads as it did. -/
def fnExactSetParseSpec : ChangeSpec := { name := "fnExactSetParse", fn := fun _ => fun
  | [d] => { results := [.lit (.bool true)], args := [d] }
  | _ => none }
def fnExactSetParseRow : OpenClaim := { program := "ythabmjadfomnkaa", sum := "7a17c8ed0cc2e0c5b724c2c50d10fe070270b08bf7b6e73135ea4b4c280ebcb5", func := "loop.example/mailhost/laws.FnExactSetParse", spec := "fnExactSetParse", apart := false }
def FnExactSetParseSaid : Prop := fnExactSetParseRow.holds Try.pinned (OpenSpec.ofChange fnExactSetParseSpec)

/-- ITS FALSE NEIGHBOUR: 'it returns false'. Refute it at one input. -/
def fnExactSetParseWrong : ChangeSpec := { name := "fnExactSetParse", fn := fun _ => fun
  | [d] => { results := [.lit (.bool false)], args := [d] }
  | _ => none }
def FnExactSetParseWrongFalsely : Prop := fnExactSetParseRow.holds Try.pinned (OpenSpec.ofChange fnExactSetParseWrong)

/-- 'laws.FnExactSetNumbers': WHATEVER THE INPUT: true; the input reads as it did. -/
def fnExactSetNumbersSpec : ChangeSpec := { name := "fnExactSetNumbers", fn := fun _ => fun
  | [d1, d2] => { results := [.lit (.bool true)], args := [d1, d2] }
  | _ => none }
def fnExactSetNumbersRow : OpenClaim := { program := "ythabmjadfomnkaa", sum := "7a17c8ed0cc2e0c5b724c2c50d10fe070270b08bf7b6e73135ea4b4c280ebcb5", func := "loop.example/mailhost/laws.FnExactSetNumbers", spec := "fnExactSetNumbers", apart := false }
def FnExactSetNumbersSaid : Prop := fnExactSetNumbersRow.holds Try.pinned (OpenSpec.ofChange fnExactSetNumbersSpec)

/-- ITS FALSE NEIGHBOUR: 'it returns false'. Refute it at one input. -/
def fnExactSetNumbersWrong : ChangeSpec := { name := "fnExactSetNumbers", fn := fun _ => fun
  | [d1, d2] => { results := [.lit (.bool false)], args := [d1, d2] }
  | _ => none }
def FnExactSetNumbersWrongFalsely : Prop := fnExactSetNumbersRow.holds Try.pinned (OpenSpec.ofChange fnExactSetNumbersWrong)

/-- 'laws.FnSetMore': WHATEVER THE INPUT: true; the input reads as it did. -/
def fnSetMoreSpec : ChangeSpec := { name := "fnSetMore", fn := fun _ => fun
  | [d] => { results := [.lit (.bool true)], args := [d] }
  | _ => none }
def fnSetMoreRow : OpenClaim := { program := "ythabmjadfomnkaa", sum := "7a17c8ed0cc2e0c5b724c2c50d10fe070270b08bf7b6e73135ea4b4c280ebcb5", func := "loop.example/mailhost/laws.FnSetMore", spec := "fnSetMore", recurses := true, apart := false }
def FnSetMoreSaid : Prop := fnSetMoreRow.holds Try.pinned (OpenSpec.ofChange fnSetMoreSpec)

/-- ITS FALSE NEIGHBOUR: 'it returns false'. Refute it at one input. -/
def fnSetMoreWrong : ChangeSpec := { name := "fnSetMore", fn := fun _ => fun
  | [d] => { results := [.lit (.bool false)], args := [d] }
  | _ => none }
def FnSetMoreWrongFalsely : Prop := fnSetMoreRow.holds Try.pinned (OpenSpec.ofChange fnSetMoreWrong)

/-- 'laws.FnSetZero': WHATEVER THE INPUT: true; the input reads as it did. -/
def fnSetZeroSpec : ChangeSpec := { name := "fnSetZero", fn := fun _ => fun
  | [d] => { results := [.lit (.bool true)], args := [d] }
  | _ => none }
def fnSetZeroRow : OpenClaim := { program := "ythabmjadfomnkaa", sum := "7a17c8ed0cc2e0c5b724c2c50d10fe070270b08bf7b6e73135ea4b4c280ebcb5", func := "loop.example/mailhost/laws.FnSetZero", spec := "fnSetZero", recurses := true, apart := false }
def FnSetZeroSaid : Prop := fnSetZeroRow.holds Try.pinned (OpenSpec.ofChange fnSetZeroSpec)

/-- ITS FALSE NEIGHBOUR: 'it returns false'. Refute it at one input. -/
def fnSetZeroWrong : ChangeSpec := { name := "fnSetZero", fn := fun _ => fun
  | [d] => { results := [.lit (.bool false)], args := [d] }
  | _ => none }
def FnSetZeroWrongFalsely : Prop := fnSetZeroRow.holds Try.pinned (OpenSpec.ofChange fnSetZeroWrong)

/- THE SECOND FORM. 'bulk': how many values and letters a reading holds, each counted each time it is reached (what is shared counts as often as it is met; a slice's spare places count too). A statement '..UptoSaid' is the law's where the arguments, and the package variables that the reading takes, are together of bulk at most 1048576: NARROWER than '..Said'. Prove '..Said' where nothing that the law and all that it calls make is longer than what came in: it says more and counts as full. Else prove '..UptoSaid'. A law counts once. -/
mutual
def uptoBulk {H : Type} : DataW H → Nat
  | .lit (.string bytes) => bytes.length + 1
  | .lit _ => 1
  | .nil => 1
  | .ptr d => uptoBulk d + 1
  | .slice elems spare => uptoBulkAll elems + uptoBulkAll spare + 1
  | .agg parts => uptoBulkAll parts + 1
  | .iface _ d => uptoBulk d + 1
  | .map entries => uptoBulkEntries entries + 1
  | .held _ => 1
def uptoBulkAll {H : Type} : List (DataW H) → Nat
  | [] => 0
  | d :: r => uptoBulk d + uptoBulkAll r
def uptoBulkEntries {H : Type} : List (Lit × DataW H) → Nat
  | [] => 0
  | x :: r => uptoBulkEntry x + uptoBulkEntries r
def uptoBulkEntry {H : Type} : Lit × DataW H → Nat
  | (.string bytes, d) => bytes.length + uptoBulk d + 1
  | (_, d) => uptoBulk d + 1
 end
def uptoSmall : (H : Type) → List (DataW H) → Bool := fun _ ds => decide (uptoBulkAll ds ≤ 1048576)
def OpenSpec.upto (s : _root_.Go.ChangeSpec) : _root_.Go.OpenSpec := { _root_.Go.OpenSpec.ofChange s with cond := some uptoSmall }

/-- 'laws.FnExactSetValid', WHERE WHAT IT READS IS OF BULK AT MOST 1048576: true; the input reads as it did. -/
def fnExactSetValidUptoRow : OpenClaim := { program := "ythabmjadfomnkaa", sum := "7a17c8ed0cc2e0c5b724c2c50d10fe070270b08bf7b6e73135ea4b4c280ebcb5", func := "loop.example/mailhost/laws.FnExactSetValid", spec := "fnExactSetValid", apart := false, narrowed := true }
def FnExactSetValidUptoSaid : Prop := fnExactSetValidUptoRow.holds Try.pinned (OpenSpec.upto fnExactSetValidSpec)

/-- 'laws.FnSetLong', WHERE WHAT IT READS IS OF BULK AT MOST 1048576: true; the input reads as it did. -/
def fnSetLongUptoRow : OpenClaim := { program := "ythabmjadfomnkaa", sum := "7a17c8ed0cc2e0c5b724c2c50d10fe070270b08bf7b6e73135ea4b4c280ebcb5", func := "loop.example/mailhost/laws.FnSetLong", spec := "fnSetLong", apart := false, narrowed := true }
def FnSetLongUptoSaid : Prop := fnSetLongUptoRow.holds Try.pinned (OpenSpec.upto fnSetLongSpec)

/-- 'laws.FnSetPart', WHERE WHAT IT READS IS OF BULK AT MOST 1048576: true; the input reads as it did. -/
def fnSetPartUptoRow : OpenClaim := { program := "ythabmjadfomnkaa", sum := "7a17c8ed0cc2e0c5b724c2c50d10fe070270b08bf7b6e73135ea4b4c280ebcb5", func := "loop.example/mailhost/laws.FnSetPart", spec := "fnSetPart", apart := false, narrowed := true }
def FnSetPartUptoSaid : Prop := fnSetPartUptoRow.holds Try.pinned (OpenSpec.upto fnSetPartSpec)

/-- 'laws.FnNumbers', WHERE WHAT IT READS IS OF BULK AT MOST 1048576: true; the input reads as it did. -/
def fnNumbersUptoRow : OpenClaim := { program := "ythabmjadfomnkaa", sum := "7a17c8ed0cc2e0c5b724c2c50d10fe070270b08bf7b6e73135ea4b4c280ebcb5", func := "loop.example/mailhost/laws.FnNumbers", spec := "fnNumbers", apart := false, narrowed := true }
def FnNumbersUptoSaid : Prop := fnNumbersUptoRow.holds Try.pinned (OpenSpec.upto fnNumbersSpec)

/-- 'laws.FnNumbersOrder', WHERE WHAT IT READS IS OF BULK AT MOST 1048576: true; the input reads as it did. -/
def fnNumbersOrderUptoRow : OpenClaim := { program := "ythabmjadfomnkaa", sum := "7a17c8ed0cc2e0c5b724c2c50d10fe070270b08bf7b6e73135ea4b4c280ebcb5", func := "loop.example/mailhost/laws.FnNumbersOrder", spec := "fnNumbersOrder", apart := false, narrowed := true }
def FnNumbersOrderUptoSaid : Prop := fnNumbersOrderUptoRow.holds Try.pinned (OpenSpec.upto fnNumbersOrderSpec)

/-- 'laws.FnNumbersStar', WHERE WHAT IT READS IS OF BULK AT MOST 1048576: true; the input reads as it did. -/
def fnNumbersStarUptoRow : OpenClaim := { program := "ythabmjadfomnkaa", sum := "7a17c8ed0cc2e0c5b724c2c50d10fe070270b08bf7b6e73135ea4b4c280ebcb5", func := "loop.example/mailhost/laws.FnNumbersStar", spec := "fnNumbersStar", apart := false, narrowed := true }
def FnNumbersStarUptoSaid : Prop := fnNumbersStarUptoRow.holds Try.pinned (OpenSpec.upto fnNumbersStarSpec)

/-- 'laws.FnNumbersSwap', WHERE WHAT IT READS IS OF BULK AT MOST 1048576: true; the input reads as it did. -/
def fnNumbersSwapUptoRow : OpenClaim := { program := "ythabmjadfomnkaa", sum := "7a17c8ed0cc2e0c5b724c2c50d10fe070270b08bf7b6e73135ea4b4c280ebcb5", func := "loop.example/mailhost/laws.FnNumbersSwap", spec := "fnNumbersSwap", apart := false, narrowed := true }
def FnNumbersSwapUptoSaid : Prop := fnNumbersSwapUptoRow.holds Try.pinned (OpenSpec.upto fnNumbersSwapSpec)

/-- 'laws.FnNumbersTwice', WHERE WHAT IT READS IS OF BULK AT MOST 1048576: true; the input reads as it did. -/
def fnNumbersTwiceUptoRow : OpenClaim := { program := "ythabmjadfomnkaa", sum := "7a17c8ed0cc2e0c5b724c2c50d10fe070270b08bf7b6e73135ea4b4c280ebcb5", func := "loop.example/mailhost/laws.FnNumbersTwice", spec := "fnNumbersTwice", apart := false, narrowed := true }
def FnNumbersTwiceUptoSaid : Prop := fnNumbersTwiceUptoRow.holds Try.pinned (OpenSpec.upto fnNumbersTwiceSpec)

/-- 'laws.FnNumbersAll', WHERE WHAT IT READS IS OF BULK AT MOST 1048576: true; the input reads as it did. -/
def fnNumbersAllUptoRow : OpenClaim := { program := "ythabmjadfomnkaa", sum := "7a17c8ed0cc2e0c5b724c2c50d10fe070270b08bf7b6e73135ea4b4c280ebcb5", func := "loop.example/mailhost/laws.FnNumbersAll", spec := "fnNumbersAll", apart := false, narrowed := true }
def FnNumbersAllUptoSaid : Prop := fnNumbersAllUptoRow.holds Try.pinned (OpenSpec.upto fnNumbersAllSpec)

/-- 'laws.FnNumbersUnion', WHERE WHAT IT READS IS OF BULK AT MOST 1048576: true; the input reads as it did. -/
def fnNumbersUnionUptoRow : OpenClaim := { program := "ythabmjadfomnkaa", sum := "7a17c8ed0cc2e0c5b724c2c50d10fe070270b08bf7b6e73135ea4b4c280ebcb5", func := "loop.example/mailhost/laws.FnNumbersUnion", spec := "fnNumbersUnion", apart := false, narrowed := true }
def FnNumbersUnionUptoSaid : Prop := fnNumbersUnionUptoRow.holds Try.pinned (OpenSpec.upto fnNumbersUnionSpec)

/-- 'laws.FnExactSetParse', WHERE WHAT IT READS IS OF BULK AT MOST 1048576: true; the input reads as it did. -/
def fnExactSetParseUptoRow : OpenClaim := { program := "ythabmjadfomnkaa", sum := "7a17c8ed0cc2e0c5b724c2c50d10fe070270b08bf7b6e73135ea4b4c280ebcb5", func := "loop.example/mailhost/laws.FnExactSetParse", spec := "fnExactSetParse", apart := false, narrowed := true }
def FnExactSetParseUptoSaid : Prop := fnExactSetParseUptoRow.holds Try.pinned (OpenSpec.upto fnExactSetParseSpec)

/-- 'laws.FnExactSetNumbers', WHERE WHAT IT READS IS OF BULK AT MOST 1048576: true; the input reads as it did. -/
def fnExactSetNumbersUptoRow : OpenClaim := { program := "ythabmjadfomnkaa", sum := "7a17c8ed0cc2e0c5b724c2c50d10fe070270b08bf7b6e73135ea4b4c280ebcb5", func := "loop.example/mailhost/laws.FnExactSetNumbers", spec := "fnExactSetNumbers", apart := false, narrowed := true }
def FnExactSetNumbersUptoSaid : Prop := fnExactSetNumbersUptoRow.holds Try.pinned (OpenSpec.upto fnExactSetNumbersSpec)

/-- 'laws.FnSetMore', WHERE WHAT IT READS IS OF BULK AT MOST 1048576: true; the input reads as it did. -/
def fnSetMoreUptoRow : OpenClaim := { program := "ythabmjadfomnkaa", sum := "7a17c8ed0cc2e0c5b724c2c50d10fe070270b08bf7b6e73135ea4b4c280ebcb5", func := "loop.example/mailhost/laws.FnSetMore", spec := "fnSetMore", recurses := true, apart := false, narrowed := true }
def FnSetMoreUptoSaid : Prop := fnSetMoreUptoRow.holds Try.pinned (OpenSpec.upto fnSetMoreSpec)

/-- 'laws.FnSetZero', WHERE WHAT IT READS IS OF BULK AT MOST 1048576: true; the input reads as it did. -/
def fnSetZeroUptoRow : OpenClaim := { program := "ythabmjadfomnkaa", sum := "7a17c8ed0cc2e0c5b724c2c50d10fe070270b08bf7b6e73135ea4b4c280ebcb5", func := "loop.example/mailhost/laws.FnSetZero", spec := "fnSetZero", recurses := true, apart := false, narrowed := true }
def FnSetZeroUptoSaid : Prop := fnSetZeroUptoRow.holds Try.pinned (OpenSpec.upto fnSetZeroSpec)

end Rows
end Go.Proofs.Ythabmjadfomnkaa
