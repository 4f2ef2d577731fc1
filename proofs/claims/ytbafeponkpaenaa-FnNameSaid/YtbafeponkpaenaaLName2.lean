/- The walks of the laws FnName, FnNamePart. -/
import Derived.Test.YtbafeponkpaenaaNames
import Derived.Test.YtbafeponkpaenaaDraws
import Derived.Test.YtbafeponkpaenaaPlainN
namespace Go.Proofs.Ytbafeponkpaenaa
open Go.RowKit
set_option linter.unusedVariables false

set_option maxHeartbeats 1000000 in
theorem name_walk (a : Option Addr) (len cap : Nat) (zs : List Int) (w : World) (h : IsRow w a len cap zs) :
    Calls Try.prog 4 #[.slice a len cap] w fun e w' => e = .returned (.bool true) ∧ Below w.heap.size w w' := by
  by_cases hb : (1048576 : Int) < (len : Int)
  · go_enter Try.func4, Try.ntmps4
    go_wp2_with fail
    go_ret
    exact ⟨rfl, Below.refl _ _⟩
  · have H := Lib.hid h; clear h
    go_enter Try.func4, Try.ntmps4
    go_wp2_with fail
    refine (drawNameValid_any a len cap zs _ H.out).mono ?_
    rintro e w1 ⟨s, hs, rfl, hb1⟩
    have HB := Lib.hid hb1; clear hb1
    go_wp2_with fail
    refine (implName_any s _ (by omega)).mono ?_
    rintro e w2 ⟨rfl, hb2⟩
    have HB2 := Lib.hid (HB.out.trans (hb2.mono HB.out.size)); clear hb2
    go_wp2_with fail
    refine (specName_any s _ (by omega)).mono ?_
    rintro e w3 ⟨rfl, rfl⟩
    cases hv : nameB s
    · go_wp2_with fail
      go_ret
      exact ⟨rfl, HB2.out⟩
    · have hq := nameB_snoc s ⟨#[97]⟩ hv rfl (by decide)
      have HQ := Lib.hid hq; clear hq
      have hz : nameB (s ++ ⟨#[97]⟩) = decide ((s.size : Int) < 8) := by rw [HQ.out]; simp; omega
      have HZ := Lib.hid hz; clear hz
      go_wp2_with fail
      refine (implName_any _ _ ?_).mono ?_
      · rw [ByteArray.size_append, show ByteArray.size ⟨#[97]⟩ = 1 from rfl]; omega
      rw [HZ.out]
      rintro e w3 ⟨rfl, hb3⟩
      have HB3 := Lib.hid (HB2.out.trans (hb3.mono HB2.out.size)); clear hb3
      go_wp2_with fail
      refine (implName_any _ _ ?_).mono ?_
      · decide
      rw [nameB_empty]
      rintro e w4 ⟨rfl, hb4⟩
      have HB4 := Lib.hid (HB3.out.trans (hb4.mono HB3.out.size)); clear hb4
      go_wp2_with fail
      go_ret
      exact ⟨rfl, HB4.out⟩

set_option maxHeartbeats 1000000 in
theorem namePart_walk (a : Option Addr) (len cap : Nat) (zs : List Int) (w : World) (h : IsRow w a len cap zs) :
    Calls Try.prog 5 #[.slice a len cap] w fun e w' => e = .returned (.bool true) ∧ Below w.heap.size w w' := by
  by_cases hb : (1048576 : Int) < (len : Int)
  · go_enter Try.func5, Try.ntmps5
    go_wp2_with fail
    go_ret
    exact ⟨rfl, Below.refl _ _⟩
  · have H := Lib.hid h; clear h
    go_enter Try.func5, Try.ntmps5
    go_wp2_with fail
    refine (drawNameValid_any a len cap zs _ H.out).mono ?_
    rintro e w1 ⟨s, hs, rfl, hb1⟩
    have HB := Lib.hid hb1; clear hb1
    go_wp2_with fail
    refine (implName_any s _ (by omega)).mono ?_
    rintro e w2 ⟨rfl, hb2⟩
    have HB2 := Lib.hid (HB.out.trans (hb2.mono HB.out.size)); clear hb2
    go_wp2_with fail
    refine (specName_any s _ (by omega)).mono ?_
    rintro e w3 ⟨rfl, rfl⟩
    cases hv : nameB s
    · go_wp2_with fail
      go_ret
      exact ⟨rfl, HB2.out⟩
    · have HV := Lib.hid hv
      go_wp2_with fail
      go_loopg [6] (s.size - 1) (fun k i wr => ∃ j : Nat, 1 ≤ j ∧ k = s.size - j ∧ i = .int .i64 j ∧ Below w.heap.size w wr)
      case atStart => exact ⟨1, Nat.le_refl _, rfl, rfl, HB2.out⟩
      case round =>
        obtain ⟨j, hj, hk, rfl, hbw⟩ := hrel
        have HK := Lib.hid hk; clear hk
        have HBW := Lib.hid hbw; clear hbw
        by_cases hlt : j < s.size
        · have hi : (j : Int) < (s.size : Int) := by omega
          go_wp2_with fail
          refine (implName_any _ _ ?_).mono ?_
          · simp; omega
          rw [nameB_part s 0 j HV.out (by omega) (by omega)]
          rintro e w4 ⟨rfl, hb4⟩
          have HB4 := Lib.hid (HBW.out.trans (hb4.mono HBW.out.size)); clear hb4
          go_wp2_with fail
          refine (implName_any _ _ ?_).mono ?_
          · simp; omega
          rw [nameB_part s j s.size HV.out (by omega) (by omega)]
          rintro e w5 ⟨rfl, hb5⟩
          have HB5 := Lib.hid (HB4.out.trans (hb5.mono HB4.out.size)); clear hb5
          go_wp2_with fail
          go_roundg (s.size - (j + 1))
          case measure => rw [HK.out]; omega
          case rel => exact ⟨j + 1, by omega, rfl, by go_num, HB5.out⟩
        · have hi : ¬ (j : Int) < (s.size : Int) := by omega
          go_wp2_with fail
          go_ret
          exact ⟨rfl, HBW.out⟩

end Go.Proofs.Ytbafeponkpaenaa
