/- The walks of the laws FnSetZero. -/
import Derived.Test.YthabmjadfomnkaaLSetP
import Derived.Test.YthabmjadfomnkaaDrawP
import Derived.Test.YthabmjadfomnkaaLSet
namespace Go.Proofs.Ythabmjadfomnkaa
open Go.RowKit
set_option linter.unusedVariables false

theorem bl_lit (c : UInt8) (s : ByteArray) : bl (⟨#[c]⟩ ++ s) = c :: bl s := by rw [bl_append]; rfl
theorem set_zero (c : UInt8) (s : ByteArray) (h1 : c ≠ 42) (h2 : (dgB c && decide (c ≠ 48)) = false) : (setT (bl (⟨#[c]⟩ ++ s))).getD [] = [] ∧ (setT (bl (⟨#[c]⟩ ++ s))).isSome = false := by
  rw [bl_lit, set_bad c _ h1 h2]; exact ⟨rfl, rfl⟩
theorem sz_lit (c : UInt8) (s : ByteArray) : (⟨#[c]⟩ ++ s : ByteArray).size = s.size + 1 := by
  rw [ByteArray.size_append, show (⟨#[c]⟩ : ByteArray).size = 1 from rfl]; omega

set_option maxHeartbeats 4000000 in
theorem setZero_walk (a : Option Addr) (len cap : Nat) (zs : List Int) (w : World) (h : IsRow w a len cap zs) :
    Calls Try.prog 16 #[.slice a len cap] w fun e w' => e = .returned (.bool true) ∧ Below w.heap.size w w' := by
  by_cases hb : (1048576 : Int) < (len : Int)
  · go_enter Try.func16, Try.ntmps16
    go_wp2_with fail
    go_ret
    exact ⟨rfl, Below.refl _ _⟩
  have H := Lib.hid h; clear h
  go_enter Try.func16, Try.ntmps16
  go_wp2_with fail
  refine (drawSetParse_any a len cap zs _ H.out).mono ?_
  rintro e w1 ⟨s, hs, rfl, hb1⟩
  have HB1 := Lib.hid hb1; clear hb1
  have hs1 := HB1.out.size
  generalize hx : (setT (bl s)).getD [] = xs
  generalize hB : (setT (bl s)).isSome = B
  have HX := Lib.hid hx; clear hx
  have HB := Lib.hid hB; clear hB
  go_wp2_with fail
  refine (implSP_g s _ (by omega) xs B HX.out HB.out).mono ?_
  rintro e w2 ⟨v2, rfl, ho2, hb2⟩
  have HV2 := Lib.hid (spansAt_of ho2); clear ho2
  have HB2 := Lib.hid (HB1.out.trans (hb2.mono hs1)); clear hb2
  have hs2 := HB2.out.size
  go_wp2_with fail
  refine (specSP_g s _ (by omega) xs B HX.out HB.out).mono ?_
  rintro e w3 ⟨v3, rfl, ho3, hb3⟩
  have HV3 := Lib.hid (spansAt_of ho3); clear ho3
  have HW3 := Lib.hid (HV2.out.below hb3)
  have HB3 := Lib.hid (HB2.out.trans (hb3.mono hs2)); clear hb3
  have hs3 := HB3.out.size
  go_wp2_with fail
  refine (sameSpans_any v2 v3 xs _ HW3.out HV3.out).mono ?_
  rintro e w4 ⟨rfl, hb4⟩
  have HV4 := Lib.hid (HV3.out.below hb4)
  have HW4 := Lib.hid (HW3.out.below hb4)
  have HB4 := Lib.hid (HB3.out.trans (hb4.mono hs3)); clear hb4
  have hs4 := HB4.out.size
  cases B
  · go_wp2_with fail
    refine (sameSpans_any v2 v3 xs _ HW4.out HV4.out).mono ?_
    rintro e w5 ⟨rfl, hb5⟩
    have HB5 := Lib.hid (HB4.out.trans (hb5.mono hs4)); clear hb5
    go_wp2_with fail
    go_ret
    exact ⟨rfl, HB5.out⟩
  · obtain ⟨X1, h1⟩ : ∃ X : ByteArray, (⟨#[48]⟩ ++ s : ByteArray) = X := ⟨_, rfl⟩
    obtain ⟨X2, h2⟩ : ∃ X : ByteArray, (⟨#[32]⟩ ++ s : ByteArray) = X := ⟨_, rfl⟩
    obtain ⟨X3, h3⟩ : ∃ X : ByteArray, (⟨#[44]⟩ ++ s : ByteArray) = X := ⟨_, rfl⟩
    have z1 := sz_lit 48 s
    have z2 := sz_lit 32 s
    have z3 := sz_lit 44 s
    have S1 := set_zero 48 s (by decide) (by decide)
    have S2 := set_zero 32 s (by decide) (by decide)
    have S3 := set_zero 44 s (by decide) (by decide)
    rw [h1] at z1 S1
    rw [h2] at z2 S2
    rw [h3] at z3 S3
    have y1 : X1.size ≤ 1000000000 := by omega
    have y2 : X2.size ≤ 1000000000 := by omega
    have y3 : X3.size ≤ 1000000000 := by omega
    have T1 := Lib.hid S1
    have T2 := Lib.hid S2
    have T3 := Lib.hid S3
    clear z1 z2 z3 S1 S2 S3
    go_wp2_with fail
    refine (implSP_g X1 _ y1 [] false T1.out.1 T1.out.2).mono ?_
    rintro e w5 ⟨v5, rfl, _, hb5⟩
    have HB5 := Lib.hid (HB4.out.trans (hb5.mono hs4)); clear hb5
    have hs5 := HB5.out.size
    go_wp2_with fail
    refine (implSP_g X2 _ y2 [] false T2.out.1 T2.out.2).mono ?_
    rintro e w6 ⟨v6, rfl, _, hb6⟩
    have HB6 := Lib.hid (HB5.out.trans (hb6.mono hs5)); clear hb6
    have hs6 := HB6.out.size
    go_wp2_with fail
    refine (implSP_g X3 _ y3 [] false T3.out.1 T3.out.2).mono ?_
    rintro e w7 ⟨v7, rfl, _, hb7⟩
    have HB7 := Lib.hid (HB6.out.trans (hb7.mono hs6)); clear hb7
    go_wp2_with fail
    go_ret
    exact ⟨rfl, HB7.out⟩

end Go.Proofs.Ythabmjadfomnkaa
