/- The walks of the laws FnSetText, FnSet, FnExactSetText. -/
import Derived.Test.YthabmjadfomnkaaDoorSetXW
import Derived.Test.YthabmjadfomnkaaDoorDrawP
import Derived.Test.YthabmjadfomnkaaDoorOpenS
namespace Go.Proofs.YthabmjadfomnkaaDoor
open Go.RowKit
set_option linter.unusedVariables false

/-- A slice of a drawn set. -/
def GaveSpans (w : World) (e : Ending) (w' : World) : Prop := ∃ v xs, smallSp xs ∧ e = .returned v ∧ SpansAt w' v xs ∧ Below w.heap.size w w'
theorem drawSetText_any (a : Option Addr) (len cap : Nat) (zs : List Int) (w : World) (h : IsRow w a len cap zs) :
    Calls Tryd.prog 6 #[.slice a len cap] w (GaveSpans w) := by
  have H := Lib.hid h; clear h
  go_enter Tryd.func6, Tryd.ntmps6
  go_wp2_with fail
  refine (open_any a len cap zs _ H.out).mono ?_
  rintro e w1 ⟨rfl, hb, hr⟩
  have HB := Lib.hid hb; clear hb
  have HR := Lib.hid hr; clear hr
  go_wp2_with fail
  refine (drawSet_any _ 0 _ (by omega) HR.out).mono ?_
  rintro e w2 ⟨v, xs, hxs, rfl, hv, hk, hr2, _⟩
  go_wp2_with fail
  go_ret
  exact ⟨v, xs, hxs, rfl, hv, HB.out.trans (hk.below (Nat.le_refl _) HB.out.size)⟩
theorem implSP_g (s : ByteArray) (w : World) (hs : s.size ≤ 1000000000) (xs : List Sp) (B : Bool) (hx : (setT (bl s)).getD [] = xs) (hB : (setT (bl s)).isSome = B) :
    Calls Tryd.prog 9 #[.string s] w fun e w' => ∃ v, e = .returned (.tuple #[v, .bool B]) ∧ w'.ownsRow w.heap.size 41 2 v xs.length (spCells xs) ∧ Below w.heap.size w w' := by
  subst hx hB
  exact implSP_any s w hs
theorem specSP_g (s : ByteArray) (w : World) (hs : s.size ≤ 2000000) (xs : List Sp) (B : Bool) (hx : (setT (bl s)).getD [] = xs) (hB : (setT (bl s)).isSome = B) :
    Calls Tryd.prog 12 #[.string s] w fun e w' => ∃ v, e = .returned (.tuple #[v, .bool B]) ∧ w'.ownsRow w.heap.size 41 2 v xs.length (spCells xs) ∧ Below w.heap.size w w' := by
  subst hx hB
  exact specSP_any s w hs
theorem setTx_yes {xs : List Sp} (h : setV xs = true) : setT (bl (setTx xs)) = some xs ∧ setTx xs ≠ ⟨#[]⟩ := by
  have ht : setTx xs = ⟨(textL xs).toArray⟩ := by unfold setTx; rw [if_pos h]
  rw [ht]
  refine ⟨text_set xs h, fun e => ?_⟩
  have h' := h
  simp only [setV, Bool.and_eq_true, decide_eq_true_iff] at h'
  refine textL_ne xs h'.1 (by rintro rfl; simp at h') ?_
  have := congrArg bl e
  exact this
theorem setTx_no {xs : List Sp} (h : setV xs = false) : setTx xs = ⟨#[]⟩ := by unfold setTx; rw [if_neg (by simp [h])]

set_option maxHeartbeats 4000000 in
theorem setText_walk (a : Option Addr) (len cap : Nat) (zs : List Int) (w : World) (h : IsRow w a len cap zs) :
    Calls Tryd.prog 3 #[.slice a len cap] w fun e w' => e = .returned (.bool true) ∧ Below w.heap.size w w' := by
  by_cases hb : (1048576 : Int) < (len : Int)
  · go_enter Tryd.func3, Tryd.ntmps3
    go_wp2_with fail
    go_ret
    exact ⟨rfl, Below.refl _ _⟩
  have H := Lib.hid h; clear h
  go_enter Tryd.func3, Tryd.ntmps3
  go_wp2_with fail
  refine (drawSetText_any a len cap zs _ H.out).mono ?_
  rintro e w1 ⟨v, xs, hsm, rfl, hv, hb1⟩
  have HB1 := Lib.hid hb1; clear hb1
  have HV1 := Lib.hid hv; clear hv
  have hs1 := HB1.out.size
  have hXz := setTx_size xs
  have HY := Lib.hid (@setTx_yes xs)
  have HN := Lib.hid (@setTx_no xs)
  have HI := Lib.hid (fun w h => implST_any v xs w h)
  have HS := Lib.hid (fun w h => specST_any v xs w h)
  generalize setTx xs = X at hXz HY HN HI HS
  go_wp2_with fail
  refine (HI.out _ HV1.out).mono ?_
  rintro e w2 ⟨rfl, hb2⟩
  have HV2 := Lib.hid (HV1.out.below hb2)
  have HB2 := Lib.hid (HB1.out.trans (hb2.mono hs1)); clear hb2
  have hs2 := HB2.out.size
  go_wp2_with fail
  refine (HS.out _ HV2.out).mono ?_
  rintro e w3 ⟨rfl, hb3⟩
  have HV3 := Lib.hid (HV2.out.below hb3)
  have HB3 := Lib.hid (HB2.out.trans (hb3.mono hs2)); clear hb3
  have hs3 := HB3.out.size
  cases hsv : setV xs
  · obtain rfl := HN.out hsv
    clear hsv
    go_wp2_with fail
    go_ret
    exact ⟨rfl, HB3.out⟩
  · obtain ⟨hT, hne⟩ := HY.out hsv
    have hXe : X.toList.isEmpty = false := by
      rw [List.isEmpty_eq_false_iff, ByteArray.toList_eq]
      intro e
      exact hne (bl_inj (s := X) (t := ⟨#[]⟩) e)
    have HT := Lib.hid hT; clear hT hsv
    go_wp2_with fail
    refine (implSP_g X _ (by omega) xs true (by rw [HT.out]; rfl) (by rw [HT.out]; rfl)).mono ?_
    rintro e w4 ⟨v4, rfl, ho4, hb4⟩
    have HV4 := Lib.hid (spansAt_of ho4); clear ho4
    have HW4 := Lib.hid (HV3.out.below hb4)
    have HB4 := Lib.hid (HB3.out.trans (hb4.mono hs3)); clear hb4
    have hs4 := HB4.out.size
    go_wp2_with fail
    refine (sameSpans_any v4 v xs _ HV4.out HW4.out).mono ?_
    rintro e w5 ⟨rfl, hb5⟩
    have HB5 := Lib.hid (HB4.out.trans (hb5.mono hs4)); clear hb5
    go_wp2_with fail
    go_ret
    exact ⟨rfl, HB5.out⟩

set_option maxHeartbeats 4000000 in
theorem set_walk (a : Option Addr) (len cap : Nat) (zs : List Int) (w : World) (h : IsRow w a len cap zs) :
    Calls Tryd.prog 4 #[.slice a len cap] w fun e w' => e = .returned (.bool true) ∧ Below w.heap.size w w' := by
  by_cases hb : (1048576 : Int) < (len : Int)
  · go_enter Tryd.func4, Tryd.ntmps4
    go_wp2_with fail
    go_ret
    exact ⟨rfl, Below.refl _ _⟩
  have H := Lib.hid h; clear h
  go_enter Tryd.func4, Tryd.ntmps4
  go_wp2_with fail
  refine (drawSetParse_any a len cap zs _ H.out).mono ?_
  rintro e w1 ⟨s, hs, rfl, hb1⟩
  have HB1 := Lib.hid hb1; clear hb1
  have hs1 := HB1.out.size
  have HSV := Lib.hid (show (setT (bl s)).isSome = true → setV ((setT (bl s)).getD []) = true by
    intro h
    cases hs : setT (bl s) with
    | none => rw [hs] at h; cases h
    | some xs => exact set_ok hs)
  generalize hx : (setT (bl s)).getD [] = xs at HSV
  generalize hB : (setT (bl s)).isSome = B at HSV
  have HX := Lib.hid hx; clear hx
  have HB := Lib.hid hB; clear hB
  go_wp2_with fail
  refine (implSP_g s _ (by omega) xs B HX.out HB.out).mono ?_
  rintro e w2 ⟨v2, rfl, ho2, hb2⟩
  have HV2 := Lib.hid (spansAt_of ho2); clear ho2
  have HB2 := Lib.hid (HB1.out.trans (hb2.mono hs1)); clear hb2
  have hs2 := HB2.out.size
  go_wp2_with fail
  refine (specSP_g s _ (by omega) xs B HX.out HB.out).mono ?_
  rintro e w3 ⟨v3, rfl, ho3, hb3⟩
  have HV3 := Lib.hid (spansAt_of ho3); clear ho3
  have HW3 := Lib.hid (HV2.out.below hb3)
  have HB3 := Lib.hid (HB2.out.trans (hb3.mono hs2)); clear hb3
  have hs3 := HB3.out.size
  go_wp2_with fail
  refine (sameSpans_any v2 v3 xs _ HW3.out HV3.out).mono ?_
  rintro e w4 ⟨rfl, hb4⟩
  have HV4 := Lib.hid (HV3.out.below hb4)
  have HW4 := Lib.hid (HW3.out.below hb4)
  have HB4 := Lib.hid (HB3.out.trans (hb4.mono hs3)); clear hb4
  have hs4 := HB4.out.size
  cases B
  · go_wp2_with fail
    refine (sameSpans_any v2 v3 xs _ HW4.out HV4.out).mono ?_
    rintro e w5 ⟨rfl, hb5⟩
    have HB5 := Lib.hid (HB4.out.trans (hb5.mono hs4)); clear hb5
    go_wp2_with fail
    go_ret
    exact ⟨rfl, HB5.out⟩
  · have hXz := setTx_size xs
    obtain ⟨hT, _⟩ := setTx_yes (HSV.out rfl)
    have HT := Lib.hid hT; clear hT
    have HI := Lib.hid (fun w h => implST_any v2 xs w h)
    generalize setTx xs = X at hXz HT HI
    go_wp2_with fail
    refine (HI.out _ HW4.out).mono ?_
    rintro e w5 ⟨rfl, hb5⟩
    have HW5 := Lib.hid (HW4.out.below hb5)
    have HB5 := Lib.hid (HB4.out.trans (hb5.mono hs4)); clear hb5
    have hs5 := HB5.out.size
    go_wp2_with fail
    refine (implSP_g X _ (by omega) xs true (by rw [HT.out]; rfl) (by rw [HT.out]; rfl)).mono ?_
    rintro e w6 ⟨v6, rfl, ho6, hb6⟩
    have HV6 := Lib.hid (spansAt_of ho6); clear ho6
    have HW6 := Lib.hid (HW5.out.below hb6)
    have HB6 := Lib.hid (HB5.out.trans (hb6.mono hs5)); clear hb6
    have hs6 := HB6.out.size
    go_wp2_with fail
    refine (sameSpans_any v6 v2 xs _ HV6.out HW6.out).mono ?_
    rintro e w7 ⟨rfl, hb7⟩
    have HB7 := Lib.hid (HB6.out.trans (hb7.mono hs6)); clear hb7
    go_wp2_with fail
    go_ret
    exact ⟨rfl, HB7.out⟩

set_option maxHeartbeats 4000000 in
theorem exactSetText_walk (v : Value) (xs : List Sp) (w : World) (hv : SpansAt w v xs) :
    Calls Tryd.prog 5 #[v] w fun e w' => e = .returned (.bool true) ∧ Below w.heap.size w w' := by
  have HV := Lib.hid hv; clear hv
  by_cases hn : xs.length ≤ 1048576
  · have hXz := setTx_size xs
    have HI := Lib.hid (fun v w h => implST_any v xs w h)
    have HS := Lib.hid (fun v w h => specST_any v xs w h)
    generalize setTx xs = X at hXz HI HS
    go_enter Tryd.func5, Tryd.ntmps5
    go_wp2_with fail
    refine (szSpanS_yes v xs _ HV.out hn).mono ?_
    rintro e w1 ⟨⟨r, hr, rfl⟩, rfl⟩
    have hr' : ¬ r < 0 := by omega
    go_wp2_with fail
    refine (toSpanS_any v xs _ HV.out hn).mono ?_
    rintro e w1 ⟨v1, rfl, ho1, hb1⟩
    have HS1 := Lib.hid (spansAt_of ho1); clear ho1
    have HV1 := Lib.hid (HV.out.below hb1)
    have HB1 := Lib.hid hb1; clear hb1
    have hs1 := HB1.out.size
    go_wp2_with fail
    refine (HS.out v1 _ HS1.out).mono ?_
    rintro e w2 ⟨rfl, hb2⟩
    have HV2 := Lib.hid (HV1.out.below hb2)
    have HB2 := Lib.hid (HB1.out.trans (hb2.mono hs1)); clear hb2
    have hs2 := HB2.out.size
    go_wp2_with fail
    refine (toSpanS_any v xs _ HV2.out hn).mono ?_
    rintro e w3 ⟨v3, rfl, ho3, hb3⟩
    have HS3 := Lib.hid (spansAt_of ho3); clear ho3
    have HV3 := Lib.hid (HV2.out.below hb3)
    have HB3 := Lib.hid (HB2.out.trans (hb3.mono hs2)); clear hb3
    have hs3 := HB3.out.size
    go_wp2_with fail
    refine (HI.out v3 _ HS3.out).mono ?_
    rintro e w4 ⟨rfl, hb4⟩
    have HS4 := Lib.hid (HS3.out.below hb4)
    have HV4 := Lib.hid (HV3.out.below hb4)
    have HB4 := Lib.hid (HB3.out.trans (hb4.mono hs3)); clear hb4
    have hs4 := HB4.out.size
    go_wp2_with fail
    refine (toSpanS_any v xs _ HV4.out hn).mono ?_
    rintro e w5 ⟨v5, rfl, ho5, hb5⟩
    have HS5 := Lib.hid (spansAt_of ho5); clear ho5
    have HT5 := Lib.hid (HS4.out.below hb5)
    have HB5 := Lib.hid (HB4.out.trans (hb5.mono hs4)); clear hb5
    have hs5 := HB5.out.size
    go_wp2_with fail
    refine (eqSpanS_any v3 v5 xs _ HT5.out HS5.out).mono ?_
    rintro e w6 ⟨rfl, hb6⟩
    have HB6 := Lib.hid (HB5.out.trans (hb6.mono hs5)); clear hb6
    go_wp2_with fail
    go_ret
    exact ⟨rfl, HB6.out⟩
  · go_enter Tryd.func5, Tryd.ntmps5
    go_wp2_with fail
    refine (szSpanS_no v xs _ HV.out (by omega)).mono ?_
    rintro e w1 ⟨rfl, rfl⟩
    go_wp2_with fail
    go_ret
    exact ⟨rfl, Below.refl _ _⟩

end Go.Proofs.YthabmjadfomnkaaDoor
