/- Flags: FlagsHave, the drawn flags, and the walks of the laws. -/
import Derived.Test.YtcfobnmbgnobcaaFlags3
namespace Go.Proofs.Ytcfobnmbgnobcaa
open Go.RowKit
set_option linter.unusedVariables false

def haveR (f o : Int) : Bool := flB f && flB o && (chgTo 1 f o 5 == f)

set_option maxHeartbeats 1000000 in
theorem specFH_any (f o : Int) (w : World) :
    Calls Try.prog 7 #[.int .i64 f, .int .i64 o] w fun e w' => e = .returned (.bool (haveR f o)) ∧ Below w.heap.size w w' := by
  cases hv : flB f
  · have HV := Lib.hid hv
    have HR := Lib.hid (show haveR f o = false by simp [haveR, hv]); clear hv
    rw [HR.out]
    go_enter Try.func7, Try.ntmps7
    go_wp2_with fail
    refine (l4Flags_any f _).mono ?_
    rw [HV.out]; rintro e w1 ⟨rfl, rfl⟩
    go_wp2_with fail
    go_ret
    exact ⟨rfl, Below.refl _ _⟩
  cases hv' : flB o
  · have HV := Lib.hid hv
    have HV' := Lib.hid hv'
    have HR := Lib.hid (show haveR f o = false by simp [haveR, hv']); clear hv hv'
    rw [HR.out]
    go_enter Try.func7, Try.ntmps7
    go_wp2_with fail
    refine (l4Flags_any f _).mono ?_
    rw [HV.out]; rintro e w1 ⟨rfl, rfl⟩
    go_wp2_with fail
    refine (l4Flags_any o _).mono ?_
    rw [HV'.out]; rintro e w1 ⟨rfl, rfl⟩
    go_wp2_with fail
    go_ret
    exact ⟨rfl, Below.refl _ _⟩
  · have hf : 0 ≤ f ∧ f ≤ 31 := by simpa [flB] using hv
    have ho : 0 ≤ o ∧ o ≤ 31 := by simpa [flB] using hv'
    have HV := Lib.hid hv
    have HV' := Lib.hid hv'
    have HR := Lib.hid (show haveR f o = (chgTo 1 f o 5 == f) by simp [haveR, hv, hv']); clear hv hv'
    rw [HR.out]
    go_enter Try.func7, Try.ntmps7
    go_wp2_with fail
    refine (l4Flags_any f _).mono ?_
    rw [HV.out]; rintro e w1 ⟨rfl, rfl⟩
    go_wp2_with fail
    refine (l4Flags_any o _).mono ?_
    rw [HV'.out]; rintro e w1 ⟨rfl, rfl⟩
    go_wp2_with fail
    refine (l4Change_any f 1 o _ hf.1 hf.2 ho.1 ho.2 (.inl rfl)).mono ?_
    rintro e w1 ⟨rfl, hb⟩
    have HB := Lib.hid hb; clear hb
    go_wp2_with fail
    go_ret
    exact ⟨rfl, HB.out⟩

set_option maxHeartbeats 1000000 in
theorem implFH_any (f o : Int) (w : World) :
    Calls Try.prog 8 #[.int .i64 f, .int .i64 o] w fun e w' => e = .returned (.bool (haveR f o)) ∧ Below w.heap.size w w' := by
  cases hv : flB f
  · have HV := Lib.hid hv
    have HR := Lib.hid (show haveR f o = false by simp [haveR, hv]); clear hv
    rw [HR.out]
    go_enter Try.func8, Try.ntmps8
    go_wp2_with fail
    refine (flagsValid_any f _).mono ?_
    rw [HV.out]; rintro e w1 ⟨rfl, rfl⟩
    go_wp2_with fail
    go_ret
    exact ⟨rfl, Below.refl _ _⟩
  cases hv' : flB o
  · have HV := Lib.hid hv
    have HV' := Lib.hid hv'
    have HR := Lib.hid (show haveR f o = false by simp [haveR, hv']); clear hv hv'
    rw [HR.out]
    go_enter Try.func8, Try.ntmps8
    go_wp2_with fail
    refine (flagsValid_any f _).mono ?_
    rw [HV.out]; rintro e w1 ⟨rfl, rfl⟩
    go_wp2_with fail
    refine (flagsValid_any o _).mono ?_
    rw [HV'.out]; rintro e w1 ⟨rfl, rfl⟩
    go_wp2_with fail
    go_ret
    exact ⟨rfl, Below.refl _ _⟩
  · have HV := Lib.hid hv
    have HV' := Lib.hid hv'
    have HR := Lib.hid (show haveR f o = (bits .and .i64 f o == o) by simp [haveR, hv, hv', and_at f o hv hv']); clear hv hv'
    rw [HR.out]
    go_enter Try.func8, Try.ntmps8
    go_wp2_with fail
    refine (flagsValid_any f _).mono ?_
    rw [HV.out]; rintro e w1 ⟨rfl, rfl⟩
    go_wp2_with fail
    refine (flagsValid_any o _).mono ?_
    rw [HV'.out]; rintro e w1 ⟨rfl, rfl⟩
    go_wp2_with fail
    go_ret
    exact ⟨rfl, Below.refl _ _⟩

theorem flagsHave_walk (f : Int) (hf : (Lit.int .i64 f).wf = true) (o : Int) (ho : (Lit.int .i64 o).wf = true) (w : World) :
    Calls Try.prog 4 #[.int .i64 f, .int .i64 o] w fun e w' => e = .returned (.bool true) ∧ Below w.heap.size w w' := by
  clear hf ho
  go_enter Try.func4, Try.ntmps4
  go_wp2_with fail
  refine (specFH_any f o _).mono ?_
  rintro e w1 ⟨rfl, hb1⟩
  have HB1 := Lib.hid hb1; clear hb1
  go_wp2_with fail
  refine (implFH_any f o _).mono ?_
  rintro e w2 ⟨rfl, hb2⟩
  have HB2 := Lib.hid (HB1.out.trans (hb2.mono HB1.out.size)); clear hb2
  go_wp2
  go_ret
  exact ⟨rfl, HB2.out⟩

theorem flagsChange_walk (f : Int) (hf : (Lit.int .i64 f).wf = true) (how : Int) (hh : (Lit.int .i64 how).wf = true) (o : Int) (ho : (Lit.int .i64 o).wf = true) (w : World) :
    Calls Try.prog 5 #[.int .i64 f, .int .i64 how, .int .i64 o] w fun e w' => e = .returned (.bool true) ∧ Below w.heap.size w w' := by
  clear hf hh ho
  go_enter Try.func5, Try.ntmps5
  go_wp2_with fail
  refine (specFC_any f how o _).mono ?_
  rintro e w1 ⟨rfl, hb1⟩
  have HB1 := Lib.hid hb1; clear hb1
  go_wp2_with fail
  refine (implFC_any f how o _).mono ?_
  rintro e w2 ⟨rfl, hb2⟩
  have HB2 := Lib.hid (HB1.out.trans (hb2.mono HB1.out.size)); clear hb2
  go_wp2
  go_ret
  exact ⟨rfl, HB2.out⟩

end Go.Proofs.Ytcfobnmbgnobcaa
