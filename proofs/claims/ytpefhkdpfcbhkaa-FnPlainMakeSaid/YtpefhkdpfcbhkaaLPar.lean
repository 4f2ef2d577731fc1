/- Drawn texts of proofs; the walks of the laws FnExactPlainParse, FnPlainMake, FnPlainParse, FnPlainMore. -/
import Derived.Test.YtpefhkdpfcbhkaaParPW
import Derived.Test.YtpefhkdpfcbhkaaDecD
namespace Go.Proofs.Ytpefhkdpfcbhkaa
open Go.RowKit
set_option linter.unusedVariables false

theorem IsRow.below {w w' : World} {a : Option Addr} {len cap : Nat} {zs : List Int} (h : IsRow w a len cap zs) (hb : Below w.heap.size w w') : IsRow w' a len cap zs := by
  rcases h with h | ⟨x, rfl, h1, h2, h3, hc, hz⟩
  · exact .inl h
  · exact .inr ⟨x, rfl, h1, h2, h3, fun i hi => (hb.cell (World.block_lt_of_cell? w _ (hc i hi))).trans (hc i hi), hz⟩
theorem mkB_size (u p : ByteArray) : (mkB u p).size ≤ 40 := by
  unfold mkB
  split
  · rename_i h
    rw [Bool.and_eq_true] at h
    have := name_le8 h.1; have := name_le8 h.2
    rw [size_mk, List.size_toArray, encL_length, plainB_len, bl_length, bl_length]; omega
  · simp [size_mk]

set_option maxHeartbeats 4000000 in
theorem drawPP_any (a : Option Addr) (len cap : Nat) (zs : List Int) (w : World) (h : IsRow w a len cap zs) :
    Calls Try.prog 12 #[.slice a len cap] w (GaveStr 100 w) := by
  have H := Lib.hid h; clear h
  go_enter Try.func12, Try.ntmps12
  go_wp2_with fail
  refine (open_any a len cap zs _ H.out).mono ?_
  rintro e w1 ⟨rfl, hb, hr⟩
  have HB := Lib.hid hb; clear hb
  have hs1 := HB.out.size
  have HR := Lib.hid hr; clear hr
  go_wp2_with fail
  refine (drawName_any _ 0 _ (by omega) HR.out).mono ?_
  rintro e w2 ⟨x, hx, rfl, hk, hr2⟩
  have HB2 := Lib.hid (HB.out.trans (hk.below (Nat.le_refl _) hs1)); clear hk
  have HR2 := Lib.hid hr2; clear hr2
  have hs2 := HB2.out.size
  go_wp2_with fail
  refine (pick_any _ 2 _ _ (by omega) (by omega) HR2.out).mono ?_
  rintro e w3 ⟨c, hc0, hc1, rfl, hk3, hr3⟩
  have HB3 := Lib.hid (HB2.out.trans (hk3.below (Nat.le_refl _) hs2)); clear hk3
  have HR3 := Lib.hid hr3; clear hr3
  have hs3 := HB3.out.size
  cases d0 : (c == 0)
  · cases d1 : (c == 1)
    · cases d2 : (c == 2)
      · go_wp2_with fail
        refine (drawName_any _ 3 _ (by omega) HR3.out).mono ?_
        rintro e w4 ⟨y, hy, rfl, hk4, hr4⟩
        have HB4 := Lib.hid (HB3.out.trans (hk4.below (Nat.le_refl _) hs3)); clear hk4 hr4
        have hs4 := HB4.out.size
        have hM := mkB_size x y
        go_wp2_with fail
        refine (specPM_any x y _ (by omega) (by omega)).mono ?_
        generalize mkB x y = M at *
        rintro e w5 ⟨rfl, hb5⟩
        have HB5 := Lib.hid (HB4.out.trans (hb5.mono hs4)); clear hb5
        go_wp2_with fail
        go_ret
        exact ⟨M, by omega, rfl, HB5.out⟩
      · have HI := Lib.hid (H.out.below HB3.out)
        go_wp2_with fail
        refine (drawDec_any a len cap zs _ HI.out).mono ?_
        rintro e w4 ⟨y, hy, rfl, hb4⟩
        have HB4 := Lib.hid (HB3.out.trans (hb4.mono hs3)); clear hb4
        go_wp2_with fail
        go_ret
        exact ⟨y, hy, rfl, HB4.out⟩
    · obtain ⟨X, hX⟩ : ∃ X : ByteArray, (⟨#[0]⟩ ++ x : ByteArray) = X := ⟨_, rfl⟩
      have hXs : X.size ≤ 2000000 := by rw [← hX, ByteArray.size_append, show (⟨#[0]⟩ : ByteArray).size = 1 from rfl]; omega
      have hE := encB_size X
      go_wp2_with fail
      refine (specEnc_any X _ hXs).mono ?_
      generalize encB X = E at *
      rintro e w4 ⟨rfl, hb4⟩
      have HB4 := Lib.hid (HB3.out.trans (hb4.mono hs3)); clear hb4
      go_wp2_with fail
      go_ret
      exact ⟨E, by omega, rfl, HB4.out⟩
  · obtain ⟨X, hX⟩ : ∃ X : ByteArray, (⟨#[120, 0]⟩ ++ x ++ ⟨#[0]⟩ : ByteArray) = X := ⟨_, rfl⟩
    have hXs : X.size ≤ 30 := by rw [← hX, ByteArray.size_append, ByteArray.size_append, show (⟨#[0]⟩ : ByteArray).size = 1 from rfl, show (⟨#[120, 0]⟩ : ByteArray).size = 2 from rfl]; omega
    go_wp2_with fail
    refine (drawName_any _ 3 _ (by omega) HR3.out).mono ?_
    rintro e w4 ⟨y, hy, rfl, hk4, hr4⟩
    have HB4 := Lib.hid (HB3.out.trans (hk4.below (Nat.le_refl _) hs3)); clear hk4 hr4
    have hs4 := HB4.out.size
    have HXY := Lib.hid (show (X ++ y).size ≤ 2000000 by rw [ByteArray.size_append]; omega)
    have hE := encB_size (X ++ y)
    go_wp2_with fail
    refine (specEnc_any (X ++ y) _ HXY.out).mono ?_
    generalize encB (X ++ y) = E at *
    rintro e w5 ⟨rfl, hb5⟩
    have HB5 := Lib.hid (HB4.out.trans (hb5.mono hs4)); clear hb5
    go_wp2_with fail
    go_ret
    exact ⟨E, by omega, rfl, HB5.out⟩

set_option maxHeartbeats 1000000 in
theorem exactPP_walk (s : ByteArray) (h : s.size ≤ maxLen) (w : World) (m : Int) (hm : w.cell? ⟨0, 0, none⟩ = some (.int .i64 m)) :
    Calls Try.prog 4 #[.string s] w fun e w' => e = .returned (.bool true) ∧ Below w.heap.size w w' := by
  have HM := Lib.hid hm
  have h0w : 0 < w.heap.size := World.block_lt_of_cell? w _ hm
  clear hm
  unfold maxLen at h
  by_cases hb : (1048576 : Int) < (s.size : Int)
  · go_enter Try.func4, Try.ntmps4
    go_wp2_with fail
    go_ret
    exact ⟨rfl, Below.refl _ _⟩
  · go_enter Try.func4, Try.ntmps4
    go_wp2_with fail
    refine (specPP_any s _ (by omega)).mono ?_
    generalize hU : ppU s = U
    generalize hV : ppV s = V
    generalize hO : ppOk s = O
    have HU := Lib.hid hU; clear hU
    have HV := Lib.hid hV; clear hV
    have HO := Lib.hid hO; clear hO
    rintro e w1 ⟨rfl, hb1⟩
    have HM1 := Lib.hid ((hb1.cell (p := ⟨0, 0, none⟩) h0w).trans HM.out)
    have HB1 := Lib.hid hb1; clear hb1
    have hs1 := HB1.out.size
    go_wp2_with fail
    refine (implPP_any s _ (by omega) m HM1.out).mono ?_
    rw [HU.out, HV.out, HO.out]
    rintro e w2 ⟨rfl, hb2⟩
    have HB2 := Lib.hid (HB1.out.trans (hb2.mono hs1)); clear hb2
    go_wp2_with fail
    go_ret
    exact ⟨rfl, HB2.out⟩

set_option maxHeartbeats 2000000 in
theorem plainMake_walk (a : Option Addr) (len cap : Nat) (zs : List Int) (w : World) (m : Int) (hm : w.cell? ⟨0, 0, none⟩ = some (.int .i64 m)) (h : IsRow w a len cap zs) :
    Calls Try.prog 3 #[.slice a len cap] w fun e w' => e = .returned (.bool true) ∧ Below w.heap.size w w' := by
  have HM0 := Lib.hid hm
  have h0w : 0 < w.heap.size := World.block_lt_of_cell? w _ hm
  clear hm
  by_cases hb : (1048576 : Int) < (len : Int)
  · go_enter Try.func3, Try.ntmps3
    go_wp2_with fail
    go_ret
    exact ⟨rfl, Below.refl _ _⟩
  have H := Lib.hid h; clear h
  go_enter Try.func3, Try.ntmps3
  go_wp2_with fail
  refine (drawPlainMake_any a len cap zs _ H.out).mono ?_
  rintro e w1 ⟨u, p, hu, hp, rfl, hb1⟩
  have HB1 := Lib.hid hb1; clear hb1
  have hs1 := HB1.out.size
  have HN := Lib.hid (show (nameB u && nameB p) = false → mkB u p = ⟨#[]⟩ from fun h => by unfold mkB; rw [h]; rfl)
  have HY := Lib.hid (show (nameB u && nameB p) = true → 1 ≤ (mkB u p).size ∧ (mkB u p).size ≤ 40 ∧ ppU (mkB u p) = u ∧ ppV (mkB u p) = p ∧ ppOk (mkB u p) = true from fun hn => by
    have hn' := hn
    rw [Bool.and_eq_true] at hn'
    have h1 := name_le8 hn'.1
    have h2 := name_le8 hn'.2
    have hb : bl (mkB u p) = encL (plainB (bl u) (bl p)) := by unfold mkB; rw [hn]; rfl
    have hz : (mkB u p).size = ((plainB (bl u) (bl p)).length + 2) / 3 * 4 := by rw [← bl_length, hb, encL_length]
    rw [plainB_len, bl_length, bl_length] at hz
    have hd : decI (bl (mkB u p)) = some (plainB (bl u) (bl p)) := (decI_iff _ _).2 ⟨by rw [bl_length]; omega, hb.symm⟩
    have hpp : ppL (mkB u p) = some (bl u, bl p) := by
      unfold ppL; rw [hd]
      exact plainP_B (by rw [← nameB_list]; exact hn'.1) (by rw [← nameB_list]; exact hn'.2)
    obtain ⟨h3, h4, h5⟩ := pp_some _ _ _ hpp
    exact ⟨by omega, by omega, h3, h4, h5⟩)
  generalize hM : mkB u p = M at HN HY
  have HM := Lib.hid hM; clear hM
  go_wp2_with fail
  refine (implPM_any u p _ (by omega) (by omega)).mono ?_
  rw [HM.out]
  rintro e w2 ⟨rfl, hb2⟩
  have HB2 := Lib.hid (HB1.out.trans (hb2.mono hs1)); clear hb2
  have hs2 := HB2.out.size
  go_wp2_with fail
  refine (specPM_any u p _ (by omega) (by omega)).mono ?_
  rw [HM.out]
  rintro e w3 ⟨rfl, hb3⟩
  have HB3 := Lib.hid (HB2.out.trans (hb3.mono hs2)); clear hb3
  have hs3 := HB3.out.size
  cases hn : (nameB u && nameB p)
  · obtain rfl : M = ⟨#[]⟩ := HN.out hn
    clear hn
    go_wp2_with fail
    go_ret
    exact ⟨rfl, HB3.out⟩
  · obtain ⟨hm1, hm2, hU, hV, hO⟩ := HY.out hn
    clear hn
    obtain ⟨e1, e2⟩ := ne_empty (x := M) hm1
    have HU := Lib.hid hU; clear hU
    have HV := Lib.hid hV; clear hV
    have HO := Lib.hid hO; clear hO
    have HM3 := Lib.hid ((HB3.out.cell (p := ⟨0, 0, none⟩) h0w).trans HM0.out)
    go_wp2_with fail
    refine (implPP_any M _ (by omega) m HM3.out).mono ?_
    rw [HU.out, HV.out, HO.out]
    rintro e w4 ⟨rfl, hb4⟩
    have HB4 := Lib.hid (HB3.out.trans (hb4.mono hs3)); clear hb4
    go_wp2_with fail
    go_ret
    exact ⟨rfl, HB4.out⟩

theorem pp_cases (s : ByteArray) : (ppOk s = false ∧ ppU s = ⟨#[]⟩ ∧ ppV s = ⟨#[]⟩) ∨ (ppOk s = true ∧ (ppU s).size ≤ 8 ∧ (ppV s).size ≤ 8 ∧ mkB (ppU s) (ppV s) = s ∧ ppOk (⟨#[65, 65, 65, 65]⟩ ++ s) = false) := by
  cases hp : ppL s with
  | none => obtain ⟨h1, h2, h3⟩ := pp_none hp; exact .inl ⟨h3, h1, h2⟩
  | some x =>
    obtain ⟨u, v⟩ := x
    obtain ⟨h1, h2, h3⟩ := pp_some s u v hp
    right
    cases hd : decI (bl s) with
    | none => unfold ppL at hp; rw [hd] at hp; cases hp
    | some d =>
      have hpd : plainP d = some (u, v) := by unfold ppL at hp; rw [hd] at hp; exact hp
      obtain ⟨rfl, hu, hv⟩ := plainP_iff hpd
      have hul := (nameL_iff u).1 hu
      have hvl := (nameL_iff v).1 hv
      obtain ⟨_, h5⟩ := (decI_iff _ _).1 hd
      refine ⟨h3, ?_, ?_, ?_, ?_⟩
      · rw [h1, size_mk, List.size_toArray]; omega
      · rw [h2, size_mk, List.size_toArray]; omega
      · rw [h1, h2]; unfold mkB
        rw [nameB_mk, nameB_mk, hu, hv]
        exact bl_inj h5
      · have hn : ppL (⟨#[65, 65, 65, 65]⟩ ++ s) = none := by
          unfold ppL
          rw [bl_append]
          cases hd2 : decI (bl ⟨#[65, 65, 65, 65]⟩ ++ bl s) with
          | none => rfl
          | some r => exact dec_more hd r hd2
        exact (pp_none hn).2.2

set_option maxHeartbeats 2000000 in
theorem plainParse_walk (a : Option Addr) (len cap : Nat) (zs : List Int) (w : World) (m : Int) (hm : w.cell? ⟨0, 0, none⟩ = some (.int .i64 m)) (h : IsRow w a len cap zs) :
    Calls Try.prog 6 #[.slice a len cap] w fun e w' => e = .returned (.bool true) ∧ Below w.heap.size w w' := by
  have HM0 := Lib.hid hm
  have h0w : 0 < w.heap.size := World.block_lt_of_cell? w _ hm
  clear hm
  by_cases hb : (1048576 : Int) < (len : Int)
  · go_enter Try.func6, Try.ntmps6
    go_wp2_with fail
    go_ret
    exact ⟨rfl, Below.refl _ _⟩
  have H := Lib.hid h; clear h
  go_enter Try.func6, Try.ntmps6
  go_wp2_with fail
  refine (drawPP_any a len cap zs _ H.out).mono ?_
  rintro e w1 ⟨s, hs, rfl, hb1⟩
  have HB1 := Lib.hid hb1; clear hb1
  have hs1 := HB1.out.size
  have HC := Lib.hid (pp_cases s)
  generalize hU : ppU s = U at HC
  generalize hV : ppV s = V at HC
  generalize hO : ppOk s = O at HC
  have HU := Lib.hid hU; clear hU
  have HV := Lib.hid hV; clear hV
  have HO := Lib.hid hO; clear hO
  have HM1 := Lib.hid ((HB1.out.cell (p := ⟨0, 0, none⟩) h0w).trans HM0.out)
  go_wp2_with fail
  refine (implPP_any s _ (by omega) m HM1.out).mono ?_
  rw [HU.out, HV.out, HO.out]
  rintro e w2 ⟨rfl, hb2⟩
  have HB2 := Lib.hid (HB1.out.trans (hb2.mono hs1)); clear hb2
  have hs2 := HB2.out.size
  go_wp2_with fail
  refine (specPP_any s _ (by omega)).mono ?_
  rw [HU.out, HV.out, HO.out]
  rintro e w3 ⟨rfl, hb3⟩
  have HB3 := Lib.hid (HB2.out.trans (hb3.mono hs2)); clear hb3
  have hs3 := HB3.out.size
  rcases HC.out with ⟨rfl, rfl, rfl⟩ | ⟨rfl, hu8, hv8, hE, _⟩
  · go_wp2_with fail
    go_ret
    exact ⟨rfl, HB3.out⟩
  · have HE := Lib.hid hE; clear hE
    go_wp2_with fail
    refine (implPM_any U V _ (by omega) (by omega)).mono ?_
    rw [HE.out]
    rintro e w4 ⟨rfl, hb4⟩
    have HB4 := Lib.hid (HB3.out.trans (hb4.mono hs3)); clear hb4
    go_wp2_with fail
    go_ret
    refine ⟨?_, HB4.out⟩
    first | rfl | simp

set_option maxHeartbeats 2000000 in
theorem plainMore_walk (a : Option Addr) (len cap : Nat) (zs : List Int) (w : World) (m : Int) (hm : w.cell? ⟨0, 0, none⟩ = some (.int .i64 m)) (h : IsRow w a len cap zs) :
    Calls Try.prog 5 #[.slice a len cap] w fun e w' => e = .returned (.bool true) ∧ Below w.heap.size w w' := by
  have HM0 := Lib.hid hm
  have h0w : 0 < w.heap.size := World.block_lt_of_cell? w _ hm
  clear hm
  by_cases hb : (1048576 : Int) < (len : Int)
  · go_enter Try.func5, Try.ntmps5
    go_wp2_with fail
    go_ret
    exact ⟨rfl, Below.refl _ _⟩
  have H := Lib.hid h; clear h
  go_enter Try.func5, Try.ntmps5
  go_wp2_with fail
  refine (drawPP_any a len cap zs _ H.out).mono ?_
  rintro e w1 ⟨s, hs, rfl, hb1⟩
  have HB1 := Lib.hid hb1; clear hb1
  have hs1 := HB1.out.size
  have HC := Lib.hid (pp_cases s)
  generalize hU : ppU s = U at HC
  generalize hV : ppV s = V at HC
  generalize hO : ppOk s = O at HC
  have HU := Lib.hid hU; clear hU
  have HV := Lib.hid hV; clear hV
  have HO := Lib.hid hO; clear hO
  have HM1 := Lib.hid ((HB1.out.cell (p := ⟨0, 0, none⟩) h0w).trans HM0.out)
  go_wp2_with fail
  refine (implPP_any s _ (by omega) m HM1.out).mono ?_
  rw [HU.out, HV.out, HO.out]
  rintro e w2 ⟨rfl, hb2⟩
  have HB2 := Lib.hid (HB1.out.trans (hb2.mono hs1)); clear hb2
  have hs2 := HB2.out.size
  go_wp2_with fail
  refine (specPP_any s _ (by omega)).mono ?_
  rw [HU.out, HV.out, HO.out]
  rintro e w3 ⟨rfl, hb3⟩
  have HB3 := Lib.hid (HB2.out.trans (hb3.mono hs2)); clear hb3
  have hs3 := HB3.out.size
  rcases HC.out with ⟨rfl, rfl, rfl⟩ | ⟨rfl, hu8, hv8, _, hbad⟩
  · go_wp2_with fail
    go_ret
    exact ⟨rfl, HB3.out⟩
  · obtain ⟨X, hX⟩ : ∃ X : ByteArray, (⟨#[65, 65, 65, 65]⟩ ++ s : ByteArray) = X := ⟨_, rfl⟩
    rw [hX] at hbad
    have HBAD := Lib.hid hbad; clear hbad
    have hXs : X.size ≤ 2000000 := by rw [← hX, ByteArray.size_append, show (⟨#[65, 65, 65, 65]⟩ : ByteArray).size = 4 from rfl]; omega
    have HM3 := Lib.hid ((HB3.out.cell (p := ⟨0, 0, none⟩) h0w).trans HM0.out)
    go_wp2_with fail
    refine (implPP_any X _ hXs m HM3.out).mono ?_
    rw [HBAD.out]
    rintro e w4 ⟨rfl, hb4⟩
    have HB4 := Lib.hid (HB3.out.trans (hb4.mono hs3)); clear hb4
    go_wp2_with fail
    go_ret
    exact ⟨rfl, HB4.out⟩

end Go.Proofs.Ytpefhkdpfcbhkaa
