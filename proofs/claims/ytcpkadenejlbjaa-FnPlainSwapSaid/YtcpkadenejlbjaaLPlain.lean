/- The walks of the laws FnExactPlainMake, FnPlainNames, FnPlainSwap. -/
import Derived.Test.YtcpkadenejlbjaaMakeW
import Derived.Test.YtcpkadenejlbjaaLEnc2
namespace Go.Proofs.Ytcpkadenejlbjaa
open Go.RowKit
set_option linter.unusedVariables false

set_option maxHeartbeats 1000000 in
theorem exactPlainMake_walk (u : ByteArray) (hu : u.size ≤ maxLen) (p : ByteArray) (hp : p.size ≤ maxLen) (w : World) :
    Calls Try.prog 8 #[.string u, .string p] w fun e w' => e = .returned (.bool true) ∧ Below w.heap.size w w' := by
  unfold maxLen at hu hp
  by_cases hb : (1048576 : Int) < (u.size : Int)
  · go_enter Try.func8, Try.ntmps8
    go_wp2_with fail
    go_ret
    exact ⟨rfl, Below.refl _ _⟩
  by_cases hb' : (1048576 : Int) < (p.size : Int)
  · go_enter Try.func8, Try.ntmps8
    go_wp2_with fail
    go_ret
    exact ⟨rfl, Below.refl _ _⟩
  go_enter Try.func8, Try.ntmps8
  go_wp2_with fail
  refine (specPM_any u p _ (by omega) (by omega)).mono ?_
  rintro e w1 ⟨rfl, hb1⟩
  have HB1 := Lib.hid hb1; clear hb1
  have hs1 := HB1.out.size
  go_wp2_with fail
  refine (implPM_any u p _ (by omega) (by omega)).mono ?_
  rintro e w2 ⟨rfl, hb2⟩
  have HB2 := Lib.hid (HB1.out.trans (hb2.mono hs1)); clear hb2
  go_wp2_with fail
  go_ret
  exact ⟨rfl, HB2.out⟩

theorem mkB_no {u p : ByteArray} (h : (nameB u && nameB p) = false) : mkB u p = ⟨#[]⟩ := by unfold mkB; rw [h]; rfl
theorem mkB_yes {u p : ByteArray} (hu : nameB u = true) (hp : nameB p = true) : bl (mkB u p) = encL (plainB (bl u) (bl p)) := by
  unfold mkB; rw [hu, hp]; rfl
theorem mkB_len {u p : ByteArray} (hu : nameB u = true) (hp : nameB p = true) : 1 ≤ (mkB u p).size ∧ (mkB u p).size ≤ 40 := by
  rw [← bl_length, mkB_yes hu hp, encL_length, plainB_len, bl_length, bl_length]
  have := name_le8 hu; have := name_le8 hp; omega
theorem mkB_ne {u p u' p' : ByteArray} (hu : nameB u = true) (hp : nameB p = true) (hu' : nameB u' = true) (hp' : nameB p' = true) (h : mkB u p = mkB u' p') : u = u' ∧ p = p' := by
  have h1 := congrArg bl h
  rw [mkB_yes hu hp, mkB_yes hu' hp'] at h1
  have h2 := plainB_inj (by rw [← nameB_list]; exact hu) (by rw [← nameB_list]; exact hp) (by rw [← nameB_list]; exact hu') (by rw [← nameB_list]; exact hp') (encL_inj h1)
  exact ⟨bl_inj h2.1, bl_inj h2.2⟩
theorem beq_list_false {x y : ByteArray} (h : x ≠ y) : (x.toList == y.toList) = false := by
  rw [beq_eq_false_iff_ne, ByteArray.toList_eq, ByteArray.toList_eq]
  intro e; exact h (bl_inj e)

set_option maxHeartbeats 2000000 in
theorem plainNames_walk (a : Option Addr) (len cap : Nat) (zs : List Int) (w : World) (h : IsRow w a len cap zs) :
    Calls Try.prog 9 #[.slice a len cap] w fun e w' => e = .returned (.bool true) ∧ Below w.heap.size w w' := by
  by_cases hb : (1048576 : Int) < (len : Int)
  · go_enter Try.func9, Try.ntmps9
    go_wp2_with fail
    go_ret
    exact ⟨rfl, Below.refl _ _⟩
  have H := Lib.hid h; clear h
  go_enter Try.func9, Try.ntmps9
  go_wp2_with fail
  refine (drawPlainMake_any a len cap zs _ H.out).mono ?_
  rintro e w1 ⟨u, p, hu, hp, rfl, hb1⟩
  have HB1 := Lib.hid hb1; clear hb1
  have hs1 := HB1.out.size
  go_wp2_with fail
  refine (implPM_any u p _ (by omega) (by omega)).mono ?_
  rintro e w2 ⟨rfl, hb2⟩
  have HB2 := Lib.hid (HB1.out.trans (hb2.mono hs1)); clear hb2
  have hs2 := HB2.out.size
  go_wp2_with fail
  refine (specPM_any u p _ (by omega) (by omega)).mono ?_
  rintro e w3 ⟨rfl, hb3⟩
  have HB3 := Lib.hid (HB2.out.trans (hb3.mono hs2)); clear hb3
  have hs3 := HB3.out.size
  cases hnu : nameB u
  · have HU := Lib.hid hnu; clear hnu
    have HM := mkB_no (u := u) (p := p) (by rw [HU.out]; rfl)
    rw [HM]
    clear HM
    go_wp2_with fail
    refine (implName_any u _ (by omega)).mono ?_
    rw [HU.out]
    rintro e w4 ⟨rfl, hb4⟩
    have HB4 := Lib.hid (HB3.out.trans (hb4.mono hs3)); clear hb4
    go_wp2_with fail
    go_ret
    exact ⟨rfl, HB4.out⟩
  · have HU := Lib.hid hnu; clear hnu
    cases hnp : nameB p
    · have HP := Lib.hid hnp; clear hnp
      have HM := mkB_no (u := u) (p := p) (by rw [HU.out, HP.out]; rfl)
      rw [HM]
      clear HM
      go_wp2_with fail
      refine (implName_any u _ (by omega)).mono ?_
      rw [HU.out]
      rintro e w4 ⟨rfl, hb4⟩
      have HB4 := Lib.hid (HB3.out.trans (hb4.mono hs3)); clear hb4
      have hs4 := HB4.out.size
      go_wp2_with fail
      refine (implName_any p _ (by omega)).mono ?_
      rw [HP.out]
      rintro e w5 ⟨rfl, hb5⟩
      have HB5 := Lib.hid (HB4.out.trans (hb5.mono hs4)); clear hb5
      go_wp2_with fail
      go_ret
      exact ⟨rfl, HB5.out⟩
    · have HP := Lib.hid hnp; clear hnp
      obtain ⟨e1, e2⟩ := not_empty (mkB_len HU.out HP.out).1
      generalize mkB u p = M at *
      go_wp2_with fail
      refine (implName_any u _ (by omega)).mono ?_
      rw [HU.out]
      rintro e w4 ⟨rfl, hb4⟩
      have HB4 := Lib.hid (HB3.out.trans (hb4.mono hs3)); clear hb4
      have hs4 := HB4.out.size
      go_wp2_with fail
      refine (implName_any p _ (by omega)).mono ?_
      rw [HP.out]
      rintro e w5 ⟨rfl, hb5⟩
      have HB5 := Lib.hid (HB4.out.trans (hb5.mono hs4)); clear hb5
      go_wp2_with fail
      go_ret
      refine ⟨?_, HB5.out⟩
      first | rfl | simp [e1, e2]

set_option maxHeartbeats 2000000 in
theorem plainSwap_walk (a : Option Addr) (len cap : Nat) (zs : List Int) (w : World) (h : IsRow w a len cap zs) :
    Calls Try.prog 10 #[.slice a len cap] w fun e w' => e = .returned (.bool true) ∧ Below w.heap.size w w' := by
  by_cases hb : (1048576 : Int) < (len : Int)
  · go_enter Try.func10, Try.ntmps10
    go_wp2_with fail
    go_ret
    exact ⟨rfl, Below.refl _ _⟩
  have H := Lib.hid h; clear h
  go_enter Try.func10, Try.ntmps10
  go_wp2_with fail
  refine (drawPlainMake_any a len cap zs _ H.out).mono ?_
  rintro e w1 ⟨u, p, hu, hp, rfl, hb1⟩
  have HB1 := Lib.hid hb1; clear hb1
  have hs1 := HB1.out.size
  go_wp2_with fail
  refine (implPM_any u p _ (by omega) (by omega)).mono ?_
  rintro e w2 ⟨rfl, hb2⟩
  have HB2 := Lib.hid (HB1.out.trans (hb2.mono hs1)); clear hb2
  have hs2 := HB2.out.size
  go_wp2_with fail
  refine (specPM_any u p _ (by omega) (by omega)).mono ?_
  rintro e w3 ⟨rfl, hb3⟩
  have HB3 := Lib.hid (HB2.out.trans (hb3.mono hs2)); clear hb3
  have hs3 := HB3.out.size
  cases hn : (nameB u && nameB p)
  · have HM := mkB_no hn
    rw [HM]
    clear HM hn
    go_wp2_with fail
    go_ret
    exact ⟨rfl, HB3.out⟩
  · rw [Bool.and_eq_true] at hn
    obtain ⟨hnu, hnp⟩ := hn
    have HU := Lib.hid hnu; clear hnu
    have HP := Lib.hid hnp; clear hnp
    by_cases hup : u = p
    · subst hup
      obtain ⟨e1, e2⟩ := not_empty (mkB_len HU.out HP.out).1
      generalize hM : mkB u u = M at *
      have HM := Lib.hid hM; clear hM
      go_wp2_with fail
      refine (implPM_any u u _ (by omega) (by omega)).mono ?_
      rw [HM.out]
      rintro e w4 ⟨rfl, hb4⟩
      have HB4 := Lib.hid (HB3.out.trans (hb4.mono hs3)); clear hb4
      go_wp2_with fail
      go_ret
      exact ⟨rfl, HB4.out⟩
    · have f1 : (u.toList == p.toList) = false := beq_list_false hup
      have f2 : ((mkB p u).toList == (mkB u p).toList) = false := beq_list_false (fun e => hup (mkB_ne HP.out HU.out HU.out HP.out e).1.symm)
      clear hup
      obtain ⟨e1, e2⟩ := not_empty (mkB_len HU.out HP.out).1
      generalize hM : mkB u p = M at *
      generalize hM2 : mkB p u = M2 at *
      have HM2 := Lib.hid hM2; clear hM hM2
      go_wp2_with fail
      refine (implPM_any p u _ (by omega) (by omega)).mono ?_
      rw [HM2.out]
      rintro e w4 ⟨rfl, hb4⟩
      have HB4 := Lib.hid (HB3.out.trans (hb4.mono hs3)); clear hb4
      go_wp2_with fail
      go_ret
      refine ⟨?_, HB4.out⟩
      first | rfl | simp [f1, f2]

end Go.Proofs.Ytcpkadenejlbjaa
