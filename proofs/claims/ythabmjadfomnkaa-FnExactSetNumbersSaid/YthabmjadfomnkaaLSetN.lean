/- The walk of the law FnExactSetNumbers. -/
import Derived.Test.YthabmjadfomnkaaMarkI
import Derived.Test.YthabmjadfomnkaaOpenS
import Derived.Test.YthabmjadfomnkaaNumW2
namespace Go.Proofs.Ythabmjadfomnkaa
open Go.RowKit
set_option linter.unusedVariables false

set_option maxHeartbeats 8000000 in
theorem exactSetNumbers_walk (v : Value) (xs : List Sp) (last : Int) (hlast : (Lit.int .i64 last).wf = true) (w : World) (hv : SpansAt w v xs) :
    Calls Try.prog 14 #[v, .int .i64 last] w fun e w' => e = .returned (.bool true) ∧ Below w.heap.size w w' := by
  have HV := Lib.hid hv; clear hv
  clear hlast
  by_cases hn : xs.length ≤ 1048576
  · have hn99 := numsL_len xs last
    generalize hN : numsL xs last = ns at hn99
    have HN := Lib.hid hN; clear hN
    go_enter Try.func14, Try.ntmps14
    go_wp2_with fail
    refine (szSpanS_yes v xs _ HV.out hn).mono ?_
    rintro e w1 ⟨⟨r, hr, rfl⟩, rfl⟩
    have hr' : ¬ r < 0 := by omega
    go_wp2_with fail
    refine (toSpanS_any v xs _ HV.out hn).mono ?_
    rintro e w1 ⟨v1, rfl, ho1, hb1⟩
    have HS1 := Lib.hid (spansAt_of ho1); clear ho1
    have HB1 := Lib.hid hb1; clear hb1
    have hs1 := HB1.out.size
    go_wp2_with fail
    refine (specSN_any v1 xs last _ HS1.out).mono ?_
    rw [HN.out]
    rintro e w2 ⟨vw, rfl, ho2, hb2⟩
    have HW2 := Lib.hid (intsAt_of ho2); clear ho2
    have HB2 := Lib.hid (HB1.out.trans (hb2.mono hs1)); clear hb2
    have hs2 := HB2.out.size
    go_wp2_with fail
    refine (toSpanS_any v xs _ (HV.out.below HB2.out) hn).mono ?_
    rintro e w3 ⟨vx, rfl, ho3, hb3⟩
    have HX3 := Lib.hid ho3; clear ho3
    have HC3 := Lib.hid hb3
    have hc3 := hb3.size
    have HB3 := Lib.hid (HB2.out.trans (hb3.mono hs2)); clear hb3
    have hs3 := HB3.out.size
    go_wp2_with fail
    refine (implSN_any vx xs last _ (spansAt_of HX3.out)).mono ?_
    rw [HN.out]
    rintro e w4 ⟨vg, rfl, ho4, hb4⟩
    have HG4 := Lib.hid ho4; clear ho4
    have HX4 := Lib.hid (own_below HX3.out hb4)
    have HC4 := Lib.hid (HC3.out.trans (hb4.mono hc3))
    have hc4 := HC4.out.size
    have HB4 := Lib.hid (HB3.out.trans (hb4.mono hs3)); clear hb4
    have hs4 := HB4.out.size
    go_wp2_with fail
    refine (eqIntS_any vg vw ns _ (intsAt_of HG4.out) (HW2.out.below HC4.out)).mono ?_
    rintro e w5 ⟨rfl, hb5⟩
    have HG5 := Lib.hid (own_below HG4.out hb5)
    have HX5 := Lib.hid (own_below HX4.out hb5)
    have HC5 := Lib.hid (HC4.out.trans (hb5.mono hc4))
    have hc5 := HC5.out.size
    have HB5 := Lib.hid (HB4.out.trans (hb5.mono hs4)); clear hb5
    have hs5 := HB5.out.size
    go_wp2_with fail
    refine (toSpanS_any v xs _ (HV.out.below HB5.out) hn).mono ?_
    rintro e w6 ⟨v6, rfl, ho6, hb6⟩
    have HS6 := Lib.hid (spansAt_of ho6); clear ho6
    have HG6 := Lib.hid (own_below HG5.out hb6)
    have HX6 := Lib.hid (own_below HX5.out hb6)
    have HC6 := Lib.hid (HC5.out.trans (hb6.mono hc5))
    have hc6 := HC6.out.size
    have HB6 := Lib.hid (HB5.out.trans (hb6.mono hs5)); clear hb6
    have hs6 := HB6.out.size
    go_wp2_with fail
    refine (eqSpanS_any vx v6 xs _ (spansAt_of HX6.out) HS6.out).mono ?_
    rintro e w7 ⟨rfl, hb7⟩
    have HG7 := Lib.hid (own_below HG6.out hb7)
    have HX7 := Lib.hid (own_below HX6.out hb7)
    have HC7 := Lib.hid (HC6.out.trans (hb7.mono hc6))
    have hc7 := HC7.out.size
    have HB7 := Lib.hid (HB6.out.trans (hb7.mono hs6)); clear hb7
    have hs7 := HB7.out.size
    go_wp2_with fail
    refine (markSpanS_any vx xs 1 w2.heap.size _ HX7.out (by omega) (by omega) hn).mono ?_
    rintro e w8 ⟨rfl, ho8, hg8⟩
    have HG8 := Lib.hid (HG7.out.kept hg8 (by
      cases hgb : vg.ownBlock with
      | none => exact .inl rfl
      | some k =>
        refine .inr fun e => ?_
        have h1 := (HG4.out.lt k hgb).1
        have h2 := (HX3.out.lt k e.symm).2
        omega))
    have HC8 := Lib.hid (HC7.out.grown hg8 hc7 (fun k e => (HX7.out.lt k e).1))
    have hc8 := HC8.out.size
    have HB8 := Lib.hid (HB7.out.grown hg8 hs7 (fun k e => by have := (HX7.out.lt k e).1; omega)); clear hg8 ho8
    have hs8 := HB8.out.size
    have hq : ¬ (1 : Int) + 2 * (xs.length : Int) < 0 := by omega
    have dq : decide ((1 : Int) + 2 * (xs.length : Int) < 0) = false := decide_eq_false hq
    go_wp2_with fail
    refine (eqIntS_any vg vw ns _ (intsAt_of HG8.out) (HW2.out.below HC8.out)).mono ?_
    rintro e w9 ⟨rfl, hb9⟩
    have HG9 := Lib.hid (own_below HG8.out hb9)
    have HC9 := Lib.hid (HC8.out.trans (hb9.mono hc8))
    have hc9 := HC9.out.size
    have HB9 := Lib.hid (HB8.out.trans (hb9.mono hs8)); clear hb9
    have hs9 := HB9.out.size
    clear dq hq
    go_wp2_with fail
    refine (markIntS_any vg ns 1 w3.heap.size _ HG9.out (by omega) (by omega) (by omega)).mono ?_
    rintro e w10 ⟨rfl, ho10, hg10⟩
    have HM10 := Lib.hid (show IntsAt w10 vg (markIL ns.length 1) from intsAt_of (by rw [markIL_length]; exact ho10))
    have HC10 := Lib.hid (HC9.out.grown hg10 hc9 (fun k e => by have := (HG9.out.lt k e).1; omega))
    have hc10 := HC10.out.size
    have HB10 := Lib.hid (HB9.out.grown hg10 hs9 (fun k e => by have := (HG9.out.lt k e).1; omega)); clear hg10 ho10
    have hs10 := HB10.out.size
    go_wp2_with fail
    refine (heldIntS_any vg ns.length 1 _ HM10.out (by omega) (by omega) (by omega)).mono ?_
    rintro e w11 ⟨rfl, rfl⟩
    have hq1 : ¬ (1 : Int) + (ns.length : Int) < 0 := by omega
    go_wp2_with fail
    refine (toSpanS_any v xs _ (HV.out.below HB10.out) hn).mono ?_
    rintro e w11 ⟨v11, rfl, ho11, hb11⟩
    have HS11 := Lib.hid (spansAt_of ho11); clear ho11
    have HM11 := Lib.hid (HM10.out.below hb11)
    have HC11 := Lib.hid (HC10.out.trans (hb11.mono hc10))
    have hc11 := HC11.out.size
    have HB11 := Lib.hid (HB10.out.trans (hb11.mono hs10)); clear hb11
    have hs11 := HB11.out.size
    go_wp2_with fail
    refine (implSN_any v11 xs last _ HS11.out).mono ?_
    rw [HN.out]
    rintro e w12 ⟨vh, rfl, ho12, hb12⟩
    have HH12 := Lib.hid (intsAt_of ho12); clear ho12
    have HM12 := Lib.hid (HM11.out.below hb12)
    have HC12 := Lib.hid (HC11.out.trans (hb12.mono hc11))
    have HB12 := Lib.hid (HB11.out.trans (hb12.mono hs11)); clear hb12
    have hs12 := HB12.out.size
    go_wp2_with fail
    refine (eqIntS_any vh vw ns _ HH12.out (HW2.out.below HC12.out)).mono ?_
    rintro e w13 ⟨rfl, hb13⟩
    have HM13 := Lib.hid (HM12.out.below hb13)
    have HB13 := Lib.hid (HB12.out.trans (hb13.mono hs12)); clear hb13
    go_wp2_with fail
    refine (heldIntS_any vg ns.length 1 _ HM13.out (by omega) (by omega) (by omega)).mono ?_
    rintro e w14 ⟨rfl, rfl⟩
    go_wp2_with fail
    go_ret
    exact ⟨rfl, HB13.out⟩
  · go_enter Try.func14, Try.ntmps14
    go_wp2_with fail
    refine (szSpanS_no v xs _ HV.out (by omega)).mono ?_
    rintro e w1 ⟨rfl, rfl⟩
    go_wp2_with fail
    go_ret
    exact ⟨rfl, Below.refl _ _⟩

end Go.Proofs.Ythabmjadfomnkaa
