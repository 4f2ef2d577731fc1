/- Contracts: the reference's l2Value. -/
import Derived.Test.YtpefhkdpfcbhkaaB64W
namespace Go.Proofs.Ytpefhkdpfcbhkaa
open Go.RowKit
set_option linter.unusedVariables false

set_option maxHeartbeats 1000000 in
theorem value_any (c : UInt8) (w : World) :
    Calls Try.prog 48 #[.int .u8 (c.toNat : Int)] w fun e w' => e = .returned (.int .i64 (vlI c)) ∧ w = w' := by
  go_enter Try.func48, Try.ntmps48
  go_wp2_with fail
  go_loopg [3] 64 (fun k iv wr => ∃ j : Nat, j ≤ 64 ∧ k = 64 - j ∧ iv = .int .i64 j ∧ vlI c = (if Lib.indexByte (sgnL.drop j) c = -1 then -1 else Lib.indexByte (sgnL.drop j) c + j) ∧ w = wr)
  case atStart => exact ⟨0, by omega, rfl, rfl, by show vlI c = _; unfold vlI; simp, rfl⟩
  case round =>
    obtain ⟨j, hj, hk, rfl, hv, rfl⟩ := hrel
    have HK := Lib.hid hk; clear hk
    have HV := Lib.hid hv; clear hv
    by_cases hlt : j < 64
    · have hi : (j : Int) < 64 := by omega
      have HD := Lib.hid (sgn_drop j hlt)
      go_wp2_with fail
      refine (letter_any j _ hlt).mono ?_
      rintro e w1 ⟨rfl, rfl⟩
      by_cases hc : sgn j = c
      · have he : (((sgn j).toNat : Int) == (c.toNat : Int)) = true := by rw [hc]; simp
        have HR := Lib.hid (show vlI c = (j : Int) by rw [HV.out, HD.out]; simp [Lib.indexByte, hc])
        clear hc
        go_wp2_with fail
        go_ret
        exact ⟨by rw [HR.out]; rfl, rfl⟩
      · have he : (((sgn j).toNat : Int) == (c.toNat : Int)) = false := by
          rw [beq_eq_false_iff_ne]; intro h; exact hc (UInt8.toNat_inj.1 (by omega))
        have HR := Lib.hid (show vlI c = (if Lib.indexByte (sgnL.drop (j + 1)) c = -1 then -1 else Lib.indexByte (sgnL.drop (j + 1)) c + ((j + 1 : Nat) : Int)) by
          have hge := Lib.indexByte_ge (sgnL.drop (j + 1)) c
          rw [HV.out, HD.out]
          simp only [Lib.indexByte, beq_iff_eq, hc, if_false]
          by_cases h1 : Lib.indexByte (sgnL.drop (j + 1)) c = -1
          · simp [h1]
          · rw [if_neg h1, if_neg h1, if_neg (by omega)]; push_cast; omega)
        clear hc
        go_wp2_with fail
        go_roundg (64 - (j + 1))
        case measure => rw [HK.out]; omega
        case rel => exact ⟨j + 1, by omega, rfl, by go_num, HR.out, rfl⟩
    · obtain rfl : j = 64 := by omega
      have HR := Lib.hid (show vlI c = -1 by rw [HV.out]; rfl)
      go_wp2_with fail
      go_ret
      exact ⟨by rw [HR.out]; rfl, rfl⟩
end Go.Proofs.Ytpefhkdpfcbhkaa
