/- Flags: the reference's and the program's changes of flags. -/
import Derived.Test.YtcfobnmbgnobcaaFlags
namespace Go.Proofs.Ytcfobnmbgnobcaa
open Go.RowKit
set_option linter.unusedVariables false

/-- What three ways of change come to, by numbers. -/
theorem chg_or : ∀ f : Fin 32, ∀ o : Fin 32, chgTo 1 (f.val : Int) (o.val : Int) 5 = ((f.val ||| o.val : Nat) : Int) := by decide +kernel
theorem chg_put : ∀ f : Fin 32, ∀ o : Fin 32, chgTo 0 (f.val : Int) (o.val : Int) 5 = (o.val : Int) := by decide +kernel
theorem chg_off : ∀ f : Fin 32, ∀ o : Fin 32, chgTo (-1) (f.val : Int) (o.val : Int) 5 = bits .andNot .i64 (f.val : Int) (o.val : Int) := by decide +kernel
theorem have_and : ∀ f : Fin 32, ∀ o : Fin 32, (chgTo 1 (f.val : Int) (o.val : Int) 5 == (f.val : Int)) = (((f.val &&& o.val : Nat) : Int) == (o.val : Int)) := by decide +kernel

set_option maxHeartbeats 4000000 in
/-- The reference's l4Change, bit by bit. -/
theorem l4Change_any (f how o : Int) (w : World) (h1 : 0 ≤ f) (h2 : f ≤ 31) (h3 : 0 ≤ o) (h4 : o ≤ 31) (hw : how = 1 ∨ how = 0 ∨ how = -1) :
    Calls Try.prog 13 #[.int .i64 f, .int .i64 how, .int .i64 o] w fun e w' => e = .returned (.int .i64 (chgTo how f o 5)) ∧ Below w.heap.size w w' := by
  go_enter Try.func13, Try.ntmps13
  go_wp2_with fail
  go_loopg [7, 8] 5 (fun k t i wr => ∃ j : Nat, j ≤ 5 ∧ k = 5 - j ∧ i = .int .i64 j ∧ t = .int .i64 (chgTo how f o j) ∧ Below w.heap.size w wr)
  case atStart => exact ⟨0, by omega, rfl, rfl, rfl, Below.refl _ _⟩
  case round =>
    obtain ⟨j, hj, hk, rfl, rfl, hbw⟩ := hrel
    have HK := Lib.hid hk; clear hk
    have HBW := Lib.hid hbw; clear hbw
    have cb := chgTo_bd how f o j hj
    by_cases hlt : j < 5
    · have hi : (j : Int) < 5 := by omega
      have bb := bt_bd j hlt
      have HS := Lib.hid (show chgTo how f o (j + 1) = chgTo how f o j + (if onB how f o j then bt j else 0) from rfl)
      have q1 : 0 ≤ f / bt j := Int.ediv_nonneg h1 (by omega)
      have q2 : 0 ≤ o / bt j := Int.ediv_nonneg h3 (by omega)
      have hA : f / bt j % 2 = 0 ∨ f / bt j % 2 = 1 := by omega
      have hB : o / bt j % 2 = 0 ∨ o / bt j % 2 = 1 := by omega
      generalize chgTo how f o j = c at cb HS ⊢
      rcases hw with rfl | rfl | rfl <;> rcases hA with hA | hA <;> rcases hB with hB | hB
      all_goals
        go_wp2_with fail
        refine (l4Bit_any j _ hlt).mono ?_
        rintro e w1 ⟨rfl, hb1⟩
        have HB1 := Lib.hid (HBW.out.trans (hb1.mono HBW.out.size)); clear hb1
        go_wp2_with fail
        refine (l4Bit_any j _ hlt).mono ?_
        rintro e w2 ⟨rfl, hb2⟩
        have HB2 := Lib.hid (HB1.out.trans (hb2.mono HB1.out.size)); clear hb2
        go_wp2_with fail
        first
          | (go_roundg (5 - (j + 1))
             case measure => rw [HK.out]; omega
             case rel => exact ⟨j + 1, by omega, rfl, by go_num, by rw [HS.out]; simp [onB, hA, hB], HB2.out⟩)
          | (refine (l4Bit_any j _ hlt).mono ?_
             rintro e w3 ⟨rfl, hb3⟩
             have HB3 := Lib.hid (HB2.out.trans (hb3.mono HB2.out.size)); clear hb3
             go_wp2_with fail
             go_roundg (5 - (j + 1))
             case measure => rw [HK.out]; omega
             case rel => exact ⟨j + 1, by omega, rfl, by go_num, by rw [HS.out]; simp [onB, hA, hB], HB3.out⟩)
    · obtain rfl : j = 5 := by omega
      go_wp2_with fail
      go_ret
      exact ⟨rfl, HBW.out⟩

set_option maxHeartbeats 1000000 in
theorem specChange_any (f how o : Int) (w : World) (hv : flB f = true) (hv' : flB o = true) (hw : how = 1 ∨ how = 0 ∨ how = -1) :
    Calls Try.prog 9 #[.int .i64 f, .int .i64 how, .int .i64 o] w fun e w' => e = .returned (.int .i64 (chgTo how f o 5)) ∧ Below w.heap.size w w' := by
  have hf : 0 ≤ f ∧ f ≤ 31 := by simpa [flB] using hv
  have ho : 0 ≤ o ∧ o ≤ 31 := by simpa [flB] using hv'
  have HV := Lib.hid hv; have HV' := Lib.hid hv'; clear hv hv'
  have HW := Lib.hid hw
  have hin : (decide ((-1 : Int) ≤ how) && decide (how ≤ 1)) = true := by rcases hw with rfl | rfl | rfl <;> rfl
  have HIN := Lib.hid hin; clear hin hw
  go_enter Try.func9, Try.ntmps9
  go_wp2_with fail
  refine (l4Flags_any f _).mono ?_
  rw [HV.out]; rintro e w1 ⟨rfl, rfl⟩
  go_wp2_with fail
  refine (l4Flags_any o _).mono ?_
  rw [HV'.out]; rintro e w1 ⟨rfl, rfl⟩
  go_wp2_with fail
  refine (l6In_any how _ _ _).mono ?_
  rw [HIN.out]; rintro e w1 ⟨rfl, rfl⟩
  go_wp2_with fail
  refine (l4Change_any f how o _ hf.1 hf.2 ho.1 ho.2 HW.out).mono ?_
  rintro e w1 ⟨rfl, hb⟩
  go_wp2_with fail
  go_ret
  exact ⟨rfl, hb⟩

end Go.Proofs.Ytcfobnmbgnobcaa
