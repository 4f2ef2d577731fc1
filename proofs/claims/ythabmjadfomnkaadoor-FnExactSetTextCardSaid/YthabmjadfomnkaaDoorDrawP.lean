/- Contracts: drawn texts of sets; spans compared. -/
import Derived.Test.YthabmjadfomnkaaDoorSetTW
import Derived.Test.YthabmjadfomnkaaDoorDraws
namespace Go.Proofs.YthabmjadfomnkaaDoor
open Go.RowKit
set_option linter.unusedVariables false

theorem setTx_size (xs : List Sp) : (setTx xs).size ≤ 36 := by
  unfold setTx
  split
  · rename_i h
    have h6 : xs.length ≤ 6 := by
      simp only [setV, Bool.and_eq_true, decide_eq_true_iff] at h
      exact h.2.2
    have := textL_len xs
    rw [← bl_length]
    show (textL xs).length ≤ 36
    omega
  · rw [← bl_length]; simp [bl_mk]

set_option maxHeartbeats 4000000 in
theorem drawSetParse_any (a : Option Addr) (len cap : Nat) (zs : List Int) (w : World) (h : IsRow w a len cap zs) :
    Calls Tryd.prog 11 #[.slice a len cap] w (GaveStr 60 w) := by
  have H := Lib.hid h; clear h
  go_enter Tryd.func11, Tryd.ntmps11
  go_wp2_with fail
  refine (open_any a len cap zs _ H.out).mono ?_
  rintro e w1 ⟨rfl, hb, hr⟩
  have HB := Lib.hid hb; clear hb
  have hs1 := HB.out.size
  have HR := Lib.hid hr; clear hr
  go_wp2_with fail
  refine (drawSet_any _ 0 _ (by omega) HR.out).mono ?_
  rintro e w2 ⟨v, xs, hsm, rfl, hv, hk, hr2, _⟩
  have HV := Lib.hid hv; clear hv
  have HB2 := Lib.hid (HB.out.trans (hk.below (Nat.le_refl _) hs1)); clear hk
  have HR2 := Lib.hid hr2; clear hr2
  have hs2 := HB2.out.size
  go_wp2_with fail
  refine (specST_any v xs _ HV.out).mono ?_
  have hT := setTx_size xs
  generalize setTx xs = T at hT ⊢
  rintro e w3 ⟨rfl, hb3⟩
  have HR3 := Lib.hid (HR2.out.keptN hb3)
  have HB3 := Lib.hid (HB2.out.trans (hb3.mono hs2)); clear hb3
  have hs3 := HB3.out.size
  go_wp2_with fail
  refine (pick_any _ 100 _ _ (by omega) (by omega) HR3.out).mono ?_
  rintro e w4 ⟨c, hc0, hc1, rfl, hk4, hr4⟩
  have HB4 := Lib.hid (HB3.out.trans (hk4.below (Nat.le_refl _) hs3)); clear hk4
  have HR4 := Lib.hid hr4; clear hr4
  have hs4 := HB4.out.size
  have hl4 := HR4.out.lt
  cases d0 : (c == 0)
  · cases d1 : (c == 1)
    · go_wp2_with fail
      go_ret
      exact ⟨T, by omega, rfl, HB4.out⟩
    · go_wp2_with fail
      refine (of_any _ 101 w4.heap.size 4 20 _ (by omega) (by omega) (by omega) (HR4.out.alloc _) (by omega) (strs_new w4 _ _ _ rfl)).mono ?_
      rintro e w5 ⟨s, hs, rfl, hk5, hr5⟩
      have HB5 := Lib.hid ((HB4.out.alloc hs4 _).trans (hk5.below (Nat.le_refl _) (by simp; omega))); clear hk5 hr5
      go_wp2_with fail
      go_ret
      exact ⟨_, by rw [ByteArray.size_append]; omega, rfl, HB5.out⟩
  · go_wp2_with fail
    refine (of_any _ 101 w4.heap.size 12 20 _ (by omega) (by omega) (by omega) (HR4.out.alloc _) (by omega) (strs_new w4 _ _ _ rfl)).mono ?_
    rintro e w5 ⟨s, hs, rfl, hk5, hr5⟩
    have HB5 := Lib.hid ((HB4.out.alloc hs4 _).trans (hk5.below (Nat.le_refl _) (by simp; omega))); clear hk5 hr5
    go_wp2_with fail
    go_ret
    exact ⟨s, by omega, rfl, HB5.out⟩

set_option maxHeartbeats 4000000 in
theorem sameSpans_any (v v' : Value) (xs : List Sp) (w : World) (hv : SpansAt w v xs) (hv' : SpansAt w v' xs) :
    Calls Tryd.prog 10 #[v, v'] w fun e w' => e = .returned (.bool true) ∧ Below w.heap.size w w' := by
  obtain ⟨a, cap, rfl, hlc, hcm, hrow⟩ := hv
  obtain ⟨a', cap', rfl, hlc', hcm', hrow'⟩ := hv'
  unfold maxLen at hcm hcm'
  have HROW := Lib.hid hrow; clear hrow
  have HROW' := Lib.hid hrow'; clear hrow'
  go_enter Tryd.func10, Tryd.ntmps10
  go_wp2_with fail
  go_loopg [5] xs.length (fun k iv wr => ∃ j : Nat, j ≤ xs.length ∧ k = xs.length - j ∧ iv = .int .i64 j ∧ Below w.heap.size w wr)
  case atStart => exact ⟨0, Nat.zero_le _, rfl, rfl, Below.refl _ _⟩
  case round =>
    obtain ⟨j, hj, hk, rfl, hbw⟩ := hrel
    have HK := Lib.hid hk; clear hk
    have hzw := hbw.size
    have HBW := Lib.hid hbw; clear hbw
    by_cases hlt : j < xs.length
    · have hi : (j : Int) < (xs.length : Int) := by omega
      have hne : xs ≠ [] := by rintro rfl; simp at hlt
      obtain ⟨g, off, rfl, hg, hcell⟩ := HROW.out.resolve_left hne
      obtain ⟨g', off', rfl, hg', hcell'⟩ := HROW'.out.resolve_left hne
      clear hne
      have c0 := (HBW.out.cell (p := ⟨g, off + j * 2, none⟩) hg).trans (hcell j hlt).1
      have c1 := (HBW.out.cell (p := ⟨g, off + j * 2 + 1, none⟩) hg).trans (hcell j hlt).2
      have e0 := (HBW.out.cell (p := ⟨g', off' + j * 2, none⟩) hg').trans (hcell' j hlt).1
      have e1 := (HBW.out.cell (p := ⟨g', off' + j * 2 + 1, none⟩) hg').trans (hcell' j hlt).2
      clear hcell hcell'
      generalize xs[j] = x at c0 c1 e0 e1
      obtain ⟨x1, x2⟩ := x
      simp only at c0 c1 e0 e1
      go_wp2_with fail
      go_quiet (fail)
      go_wp2_with fail
      go_roundg (xs.length - (j + 1))
      case measure => rw [HK.out]; omega
      case rel => exact ⟨j + 1, by omega, rfl, by go_num, Below.drewN' HBW.out nq⟩
    · have hi : ¬ (j : Int) < (xs.length : Int) := by omega
      go_wp2_with fail
      go_ret
      exact ⟨rfl, HBW.out⟩

end Go.Proofs.YthabmjadfomnkaaDoor
