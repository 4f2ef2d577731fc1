/- The walk of the law FnExactSetValid. -/
import Derived.Test.YthabmjadfomnkaaMarkW
import Derived.Test.YthabmjadfomnkaaOpenS
namespace Go.Proofs.Ythabmjadfomnkaa
open Go.RowKit
set_option linter.unusedVariables false

set_option maxHeartbeats 2000000 in
theorem exactSetValid_walk (v : Value) (xs : List Sp) (w : World) (hv : SpansAt w v xs) :
    Calls Try.prog 3 #[v] w fun e w' => e = .returned (.bool true) ∧ Below w.heap.size w w' := by
  have HV := Lib.hid hv; clear hv
  by_cases hn : xs.length ≤ 1048576
  · go_enter Try.func3, Try.ntmps3
    go_wp2_with fail
    refine (szSpanS_yes v xs _ HV.out hn).mono ?_
    rintro e w1 ⟨⟨r, hr, rfl⟩, rfl⟩
    have hr' : ¬ r < 0 := by omega
    go_wp2_with fail
    refine (toSpanS_any v xs _ HV.out hn).mono ?_
    rintro e w1 ⟨v1, rfl, ho1, hb1⟩
    have HS1 := Lib.hid (spansAt_of ho1); clear ho1
    have HV1 := Lib.hid (HV.out.below hb1)
    have HB1 := Lib.hid hb1; clear hb1
    have hs1 := HB1.out.size
    go_wp2_with fail
    refine (specSV_any v1 xs _ HS1.out).mono ?_
    rintro e w2 ⟨rfl, rfl⟩
    generalize hB : setV xs = B
    have HBB := Lib.hid hB; clear hB
    go_wp2_with fail
    refine (toSpanS_any v xs _ HV1.out hn).mono ?_
    rintro e w2 ⟨v2, rfl, ho2, hb2⟩
    have HS2 := Lib.hid (spansAt_of ho2); clear ho2
    have HV2 := Lib.hid (HV1.out.below hb2)
    have HB2 := Lib.hid (HB1.out.trans (hb2.mono hs1)); clear hb2
    have hs2 := HB2.out.size
    go_wp2_with fail
    refine (implSV_any v2 xs _ HS2.out).mono ?_
    rw [HBB.out]
    rintro e w3 ⟨rfl, hb3⟩
    have HS3 := Lib.hid (HS2.out.below (hb3.mono (Nat.le_refl _)))
    have HV3 := Lib.hid (HV2.out.below hb3)
    have HB3 := Lib.hid (HB2.out.trans (hb3.mono hs2)); clear hb3
    have hs3 := HB3.out.size
    go_wp2_with fail
    refine (toSpanS_any v xs _ HV3.out hn).mono ?_
    rintro e w4 ⟨v4, rfl, ho4, hb4⟩
    have HS4 := Lib.hid (spansAt_of ho4); clear ho4
    have HT4 := Lib.hid (HS3.out.below hb4)
    have HB4 := Lib.hid (HB3.out.trans (hb4.mono hs3)); clear hb4
    have hs4 := HB4.out.size
    go_wp2_with fail
    refine (eqSpanS_any v2 v4 xs _ HT4.out HS4.out).mono ?_
    rintro e w5 ⟨rfl, hb5⟩
    have HB5 := Lib.hid (HB4.out.trans (hb5.mono hs4)); clear hb5
    go_wp2_with fail
    go_ret
    exact ⟨rfl, HB5.out⟩
  · go_enter Try.func3, Try.ntmps3
    go_wp2_with fail
    refine (szSpanS_no v xs _ HV.out (by omega)).mono ?_
    rintro e w1 ⟨rfl, rfl⟩
    go_wp2_with fail
    go_ret
    exact ⟨rfl, Below.refl _ _⟩

end Go.Proofs.Ythabmjadfomnkaa
