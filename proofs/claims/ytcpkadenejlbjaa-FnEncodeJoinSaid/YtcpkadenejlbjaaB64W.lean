/- Contracts: the reference's base64. -/
import Derived.Test.YtcpkadenejlbjaaPlainB
import Derived.Test.YtcpkadenejlbjaaNames
import Derived.OwnWalk
import Derived.Laws.OwnMore
import Derived.Maps.AppendAt
import Derived.RangeFuncBox
import Derived.Outline
namespace Go.Proofs.Ytcpkadenejlbjaa
open Go.RowKit
set_option linter.unusedVariables false

theorem sgn_get (k : Nat) (h : k < sgnL.length) : sgnL[k] = sgn k := by
  unfold sgn; rw [List.getD_eq_getElem?_getD, List.getElem?_eq_getElem h]; rfl
theorem sgnL_length : sgnL.length = 64 := rfl
theorem sgn_drop (j : Nat) (h : j < 64) : sgnL.drop j = sgn j :: sgnL.drop (j + 1) := by
  have h' : j < sgnL.length := by rw [sgnL_length]; exact h
  rw [List.drop_eq_getElem_cons h', sgn_get j h']
set_option maxRecDepth 4000 in
theorem letter_any (k : Nat) (w : World) (hk : k < 64) :
    Calls Try.prog 28 #[.int .i64 (k : Int)] w fun e w' => e = .returned (.int .u8 ((sgn k).toNat : Int)) ∧ w = w' := by
  have hi : (k : Int) < 64 := by omega
  have HG := Lib.hid (sgn_get k (by rw [sgnL_length]; exact hk))
  go_enter Try.func28, Try.ntmps28
  go_wp2_with fail
  go_ret
  refine ⟨?_, rfl⟩
  rw [← HG.out]; rfl

end Go.Proofs.Ytcpkadenejlbjaa
