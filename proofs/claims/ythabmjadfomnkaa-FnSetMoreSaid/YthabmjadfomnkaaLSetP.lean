/- The walk of the law FnExactSetParse. -/
import Derived.Test.YthabmjadfomnkaaMarkW
import Derived.Test.YthabmjadfomnkaaSpecQ
namespace Go.Proofs.Ythabmjadfomnkaa
open Go.RowKit
set_option linter.unusedVariables false

theorem spans_grown {w w' : World} {v : Value} {xs : List Sp} {row : Option Nat} (h : SpansAt w v xs) (hg : w.grownBy w' row) (hr : ∀ k, row = some k → v.ownBlock ≠ some k) : SpansAt w' v xs := by
  obtain ⟨a, cap, rfl, h1, h2, h3⟩ := h
  refine ⟨a, cap, rfl, h1, h2, h3.imp id ?_⟩
  rintro ⟨g, off, rfl, hb, hc⟩
  have hne : some g ≠ row := fun e => hr g e.symm rfl
  exact ⟨g, off, rfl, Nat.lt_of_lt_of_le hb hg.size, fun i hi => ⟨World.grownBy.cell hg (hc i hi).1 hne, World.grownBy.cell hg (hc i hi).2 hne⟩⟩
theorem implSP_g (s : ByteArray) (w : World) (hs : s.size ≤ 1000000000) (xs : List Sp) (B : Bool) (hx : (setT (bl s)).getD [] = xs) (hB : (setT (bl s)).isSome = B) :
    Calls Try.prog 30 #[.string s] w fun e w' => ∃ v, e = .returned (.tuple #[v, .bool B]) ∧ w'.ownsRow w.heap.size 32 2 v xs.length (spCells xs) ∧ Below w.heap.size w w' := by
  subst hx hB
  exact implSP_any s w hs
theorem specSP_g (s : ByteArray) (w : World) (hs : s.size ≤ 2000000) (xs : List Sp) (B : Bool) (hx : (setT (bl s)).getD [] = xs) (hB : (setT (bl s)).isSome = B) :
    Calls Try.prog 29 #[.string s] w fun e w' => ∃ v, e = .returned (.tuple #[v, .bool B]) ∧ w'.ownsRow w.heap.size 32 2 v xs.length (spCells xs) ∧ Below w.heap.size w w' := by
  subst hx hB
  exact specSP_any s w hs
theorem setT_len (l : List UInt8) : ((setT l).getD []).length ≤ 6 := by
  cases h : setT l with
  | none => simp
  | some xs =>
    have := set_ok h
    simp only [setV, Bool.and_eq_true, decide_eq_true_iff] at this
    exact this.2.2
theorem below_grown {B : Nat} {w w1 w2 : World} {row : Option Nat} (h : Below B w w1) (hg : w1.grownBy w2 row) (hB : B ≤ w1.heap.size) (hr : ∀ k, row = some k → B ≤ k) : Below B w w2 := h.grown hg hB hr

set_option maxHeartbeats 4000000 in
theorem exactSetParse_walk (s : ByteArray) (h : s.size ≤ maxLen) (w : World) :
    Calls Try.prog 13 #[.string s] w fun e w' => e = .returned (.bool true) ∧ Below w.heap.size w w' := by
  unfold maxLen at h
  by_cases hb : (1048576 : Int) < (s.size : Int)
  · go_enter Try.func13, Try.ntmps13
    go_wp2_with fail
    go_ret
    exact ⟨rfl, Below.refl _ _⟩
  have hl6 := setT_len (bl s)
  generalize hx : (setT (bl s)).getD [] = xs at hl6
  generalize hB : (setT (bl s)).isSome = B
  have HX := Lib.hid hx; clear hx
  have HB := Lib.hid hB; clear hB
  go_enter Try.func13, Try.ntmps13
  go_wp2_with fail
  refine (specSP_g s _ (by omega) xs B HX.out HB.out).mono ?_
  rintro e w1 ⟨v0, rfl, ho1, hb1⟩
  have HLT := Lib.hid (fun k e => (ho1.lt k e).2)
  have HV1 := Lib.hid (spansAt_of ho1); clear ho1
  have HB1 := Lib.hid hb1; clear hb1
  have hs1 := HB1.out.size
  go_wp2_with fail
  refine (implSP_g s _ (by omega) xs B HX.out HB.out).mono ?_
  rintro e w2 ⟨v1, rfl, ho2, hb2⟩
  have HO2 := Lib.hid ho2; clear ho2
  have HV2 := Lib.hid (HV1.out.below hb2)
  have HB2 := Lib.hid (HB1.out.trans (hb2.mono hs1)); clear hb2
  have hs2 := HB2.out.size
  go_wp2_with fail
  refine (eqSpanS_any v1 v0 xs _ (spansAt_of HO2.out) HV2.out).mono ?_
  rintro e w3 ⟨rfl, hb3⟩
  have HO3 := Lib.hid (own_below HO2.out hb3)
  have HV3 := Lib.hid (HV2.out.below hb3)
  have HB3 := Lib.hid (HB2.out.trans (hb3.mono hs2)); clear hb3
  have hs3 := HB3.out.size
  go_wp2_with fail
  refine (markSpanS_any v1 xs 1 w1.heap.size _ HO3.out (by omega) (by omega) (by omega)).mono ?_
  rintro e w4 ⟨rfl, ho4, hg4⟩
  have HV4 := Lib.hid (spans_grown HV3.out hg4 (fun k e1 e2 => by have := HLT.out k e2; have := (HO3.out.lt k e1).1; omega))
  have HB4 := Lib.hid (HB3.out.grown hg4 hs3 (fun k e => by have := (HO3.out.lt k e).1; omega)); clear hg4
  have HO4 := Lib.hid ho4; clear ho4
  have hs4 := HB4.out.size
  have HM4 := Lib.hid (show SpansAt w4 v1 (markL xs.length 1) from spansAt_of (by rw [markL_length]; exact HO4.out))
  go_wp2_with fail
  refine (heldSpanS_any v1 xs.length 1 _ HM4.out (by omega) (by omega) (by omega)).mono ?_
  rintro e w5 ⟨rfl, rfl⟩
  have hq : ¬ (1 : Int) + 2 * (xs.length : Int) < 0 := by omega
  go_wp2_with fail
  refine (implSP_g s _ (by omega) xs B HX.out HB.out).mono ?_
  rintro e w6 ⟨v6, rfl, ho6, hb6⟩
  have HV6 := Lib.hid (spansAt_of ho6); clear ho6
  have HW6 := Lib.hid (HV4.out.below hb6)
  have HM6 := Lib.hid (HM4.out.below hb6)
  have HB6 := Lib.hid (HB4.out.trans (hb6.mono hs4)); clear hb6
  have hs6 := HB6.out.size
  go_wp2_with fail
  refine (eqSpanS_any v6 v0 xs _ HV6.out HW6.out).mono ?_
  rintro e w7 ⟨rfl, hb7⟩
  have HM7 := Lib.hid (HM6.out.below hb7)
  have HB7 := Lib.hid (HB6.out.trans (hb7.mono hs6)); clear hb7
  go_wp2_with fail
  refine (heldSpanS_any v1 xs.length 1 _ HM7.out (by omega) (by omega) (by omega)).mono ?_
  rintro e w8 ⟨rfl, rfl⟩
  go_wp2_with fail
  go_ret
  exact ⟨rfl, HB7.out⟩

end Go.Proofs.Ythabmjadfomnkaa
