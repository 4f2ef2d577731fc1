/- The walks of the laws FnDecodeSign, FnPlainBytes. -/
import Derived.Test.YtjiaihkjadhpcaaLDec
import Derived.Test.YtjiaihkjadhpcaaMakeW
namespace Go.Proofs.Ytjiaihkjadhpcaa
open Go.RowKit
set_option linter.unusedVariables false

set_option maxHeartbeats 4000000 in
theorem decodeSign_walk (a : Option Addr) (len cap : Nat) (zs : List Int) (a' : Option Addr) (len' cap' : Nat) (zs' : List Int) (w : World) (h : IsRow w a len cap zs) (h' : IsRow w a' len' cap' zs') :
    Calls Try.prog 8 #[.slice a len cap, .slice a' len' cap'] w fun e w' => e = .returned (.bool true) ∧ Below w.heap.size w w' := by
  by_cases hb : (1048576 : Int) < (len : Int)
  · have hd : decide ((1048576 : Int) < (len : Int)) = true := decide_eq_true hb
    go_enter Try.func8, Try.ntmps8
    go_wp2_with fail
    go_ret
    exact ⟨rfl, Below.refl _ _⟩
  have hd : decide ((1048576 : Int) < (len : Int)) = false := decide_eq_false hb
  by_cases hb' : (1048576 : Int) < (len' : Int)
  · have hd' : decide ((1048576 : Int) < (len' : Int)) = true := decide_eq_true hb'
    go_enter Try.func8, Try.ntmps8
    go_wp2_with fail
    go_ret
    exact ⟨rfl, Below.refl _ _⟩
  have hd' : decide ((1048576 : Int) < (len' : Int)) = false := decide_eq_false hb'
  have H := Lib.hid h; clear h h'
  go_enter Try.func8, Try.ntmps8
  go_wp2_with fail
  clear hd hd'
  refine (drawDec_any a len cap zs _ H.out).mono ?_
  rintro e w1 ⟨s, hs, rfl, hb1⟩
  have HB1 := Lib.hid hb1; clear hb1
  have hs1 := HB1.out.size
  have HC := Lib.hid (dec_cases s)
  generalize hD : decB s = D at HC
  generalize hO : decOk s = O at HC
  have HD := Lib.hid hD; clear hD
  have HO := Lib.hid hO; clear hO
  go_wp2_with fail
  refine (implDec_any s _ (by omega)).mono ?_
  rw [HD.out, HO.out]
  rintro e w2 ⟨rfl, hb2⟩
  have HB2 := Lib.hid (HB1.out.trans (hb2.mono hs1)); clear hb2
  have hs2 := HB2.out.size
  go_wp2_with fail
  refine (specDec_any s _ (by omega)).mono ?_
  rw [HD.out, HO.out]
  rintro e w3 ⟨rfl, hb3⟩
  have HB3 := Lib.hid (HB2.out.trans (hb3.mono hs2)); clear hb3
  have hs3 := HB3.out.size
  rcases HC.out with ⟨rfl, rfl⟩ | ⟨rfl, h40, h30, _, hm4, _⟩
  · go_wp2_with fail
    go_ret
    exact ⟨rfl, HB3.out⟩
  · by_cases h0 : s.size = 0
    · obtain rfl : s = ⟨#[]⟩ := bl_inj (List.length_eq_zero_iff.1 (by rw [bl_length]; exact h0))
      clear h0
      go_wp2_with fail
      go_ret
      exact ⟨rfl, HB3.out⟩
    · obtain ⟨e1, e2⟩ := ne_empty (x := s) (by omega)
      have hpos : (0 : Int) < (s.size : Int) := by omega
      have hl0 : ((s.size : Int) == 0) = false := beq_eq_false_iff_ne.2 (by omega)
      clear hm4 h0
      obtain ⟨K, hK⟩ : ∃ K : Nat, K = len' % s.size := ⟨_, rfl⟩
      have hKlt : K < s.size := by rw [hK]; exact Nat.mod_lt _ (by omega)
      have hr1 : (len' : Int) % (s.size : Int) = (K : Int) := by rw [hK]; rfl
      have hr2 : (len' : Int).tmod (s.size : Int) = (K : Int) := by rw [Int.tmod_eq_emod_of_nonneg (by omega)]; exact hr1
      clear hK
      have hk1 : (K : Int) ≤ (s.size : Int) := by omega
      have hw1 : IntKind.i64.wrap ((K : Int) + 1) = (K : Int) + 1 := IntWalk.i64_in _ (by omega)
      have hk11 : (0 : Int) ≤ (K : Int) + 1 := by omega
      have hk12 : (K : Int) + 1 ≤ (s.size : Int) := by omega
      have hk13 : ((K : Int) + 1).toNat = K + 1 := by omega
      have HBS := Lib.hid (dec_bad_sign (s.extract 0 K ++ ⟨#[45]⟩ ++ s.extract (K + 1) s.size) (by simp only [bl_append]; simp [bl_mk]))
      have HSZ := Lib.hid (show (s.extract 0 K ++ ⟨#[45]⟩ ++ s.extract (K + 1) s.size).size ≤ 2000000 by simp [size_mk]; omega)
      go_wp2_with fail
      go_region_with (go_at_call 10; refine (implDec_any _ _ HSZ.out).mono ?_; rw [HBS.out.1, HBS.out.2]; rintro e w4 ⟨rfl, hb4⟩)
      all_goals
        have HB4 := Lib.hid ((Below.drw HB3.out).trans (hb4.mono (show w.heap.size ≤ w3.drew.heap.size from hs3))); clear hb4
        clear hw1 hk11 hk12 hk13 hr1 hr2
        go_wp2_with fail
        go_ret
        exact ⟨rfl, HB4.out⟩

set_option maxHeartbeats 2000000 in
theorem plainBytes_walk (a : Option Addr) (len cap : Nat) (zs : List Int) (w : World) (h : IsRow w a len cap zs) :
    Calls Try.prog 5 #[.slice a len cap] w fun e w' => e = .returned (.bool true) ∧ Below w.heap.size w w' := by
  by_cases hb : (1048576 : Int) < (len : Int)
  · go_enter Try.func5, Try.ntmps5
    go_wp2_with fail
    go_ret
    exact ⟨rfl, Below.refl _ _⟩
  have H := Lib.hid h; clear h
  go_enter Try.func5, Try.ntmps5
  go_wp2_with fail
  refine (drawPlainMake_any a len cap zs _ H.out).mono ?_
  rintro e w1 ⟨u, p, hu, hp, rfl, hb1⟩
  have HB1 := Lib.hid hb1; clear hb1
  have hs1 := HB1.out.size
  have HN := Lib.hid (show (nameB u && nameB p) = false → mkB u p = ⟨#[]⟩ from fun h => by unfold mkB; rw [h]; rfl)
  have HY := Lib.hid (show (nameB u && nameB p) = true → 1 ≤ (mkB u p).size ∧ (mkB u p).size ≤ 40 ∧ decB (mkB u p) = plB u p ∧ decOk (mkB u p) = true from fun hn => by
    have hn' := hn
    rw [Bool.and_eq_true] at hn'
    have h1 := name_le8 hn'.1
    have h2 := name_le8 hn'.2
    have hb : bl (mkB u p) = encL (plainB (bl u) (bl p)) := by unfold mkB; rw [hn]; rfl
    have hz : (mkB u p).size = ((plainB (bl u) (bl p)).length + 2) / 3 * 4 := by rw [← bl_length, hb, encL_length]
    rw [plainB_len, bl_length, bl_length] at hz
    have hd : decI (bl (mkB u p)) = some (plainB (bl u) (bl p)) := (decI_iff _ _).2 ⟨by rw [bl_length]; omega, hb.symm⟩
    obtain ⟨h3, h4⟩ := dec_some _ _ hd
    exact ⟨by omega, by omega, h3.trans (bl_inj (plB_bl u p).symm), h4⟩)
  generalize hM : mkB u p = M at HN HY
  have HM := Lib.hid hM; clear hM
  go_wp2_with fail
  refine (implPM_any u p _ (by omega) (by omega)).mono ?_
  rw [HM.out]
  rintro e w2 ⟨rfl, hb2⟩
  have HB2 := Lib.hid (HB1.out.trans (hb2.mono hs1)); clear hb2
  have hs2 := HB2.out.size
  go_wp2_with fail
  refine (specPM_any u p _ (by omega) (by omega)).mono ?_
  rw [HM.out]
  rintro e w3 ⟨rfl, hb3⟩
  have HB3 := Lib.hid (HB2.out.trans (hb3.mono hs2)); clear hb3
  have hs3 := HB3.out.size
  cases hn : (nameB u && nameB p)
  · obtain rfl : M = ⟨#[]⟩ := HN.out hn
    clear hn
    go_wp2_with fail
    go_ret
    exact ⟨rfl, HB3.out⟩
  · obtain ⟨hm1, hm2, hD, hO⟩ := HY.out hn
    clear hn
    obtain ⟨e1, e2⟩ := ne_empty (x := M) hm1
    have HD := Lib.hid hD; clear hD
    have HO := Lib.hid hO; clear hO
    have hX : ⟨#[0]⟩ ++ u ++ ⟨#[0]⟩ ++ p = plB u p := rfl
    go_wp2_with fail
    refine (implDec_any M _ (by omega)).mono ?_
    rw [HD.out, HO.out]
    rintro e w4 ⟨rfl, hb4⟩
    have HB4 := Lib.hid (HB3.out.trans (hb4.mono hs3)); clear hb4
    go_wp2_with fail
    go_ret
    refine ⟨?_, HB4.out⟩
    first | rfl | simp

end Go.Proofs.Ytjiaihkjadhpcaa
