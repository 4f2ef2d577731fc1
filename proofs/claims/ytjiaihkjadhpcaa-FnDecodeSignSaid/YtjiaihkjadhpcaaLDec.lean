/- The walks of the laws FnExactBase64Decode, FnEncodeBack, FnDecode, FnDecodePart, FnDecodeSign. -/
import Derived.Test.YtjiaihkjadhpcaaDecD
namespace Go.Proofs.Ytjiaihkjadhpcaa
open Go.RowKit
set_option linter.unusedVariables false

theorem dec_cases (s : ByteArray) : (decOk s = false ∧ decB s = ⟨#[]⟩) ∨ (decOk s = true ∧ s.size ≤ 40 ∧ (decB s).size ≤ 30 ∧ encB (decB s) = s ∧ s.size % 4 = 0 ∧ decI (bl s) = some (bl (decB s))) := by
  cases hd : decI (bl s) with
  | none => exact .inl ⟨(dec_no s hd).2, (dec_no s hd).1⟩
  | some d =>
    right
    obtain ⟨h1, h2⟩ := dec_some s d hd
    have h3 := dec_len hd
    obtain ⟨h4, h5⟩ := (decI_iff _ _).1 hd
    rw [bl_length] at h4 h3
    rw [h1, h2]
    refine ⟨rfl, h4, by rw [size_mk, List.size_toArray]; exact h3.1, ?_, h3.2.1, rfl⟩
    unfold encB
    rw [if_pos (by rw [size_mk, List.size_toArray]; exact h3.1)]
    exact bl_inj h5

set_option maxHeartbeats 1000000 in
theorem exactDec_walk (s : ByteArray) (h : s.size ≤ maxLen) (w : World) :
    Calls Try.prog 3 #[.string s] w fun e w' => e = .returned (.bool true) ∧ Below w.heap.size w w' := by
  unfold maxLen at h
  by_cases hb : (1048576 : Int) < (s.size : Int)
  · go_enter Try.func3, Try.ntmps3
    go_wp2_with fail
    go_ret
    exact ⟨rfl, Below.refl _ _⟩
  · go_enter Try.func3, Try.ntmps3
    go_wp2_with fail
    refine (specDec_any s _ (by omega)).mono ?_
    generalize hD : decB s = D
    generalize hO : decOk s = O
    have HD := Lib.hid hD; clear hD
    have HO := Lib.hid hO; clear hO
    rintro e w1 ⟨rfl, hb1⟩
    have HB1 := Lib.hid hb1; clear hb1
    have hs1 := HB1.out.size
    go_wp2_with fail
    refine (implDec_any s _ (by omega)).mono ?_
    rw [HD.out, HO.out]
    rintro e w2 ⟨rfl, hb2⟩
    have HB2 := Lib.hid (HB1.out.trans (hb2.mono hs1)); clear hb2
    go_wp2_with fail
    go_ret
    exact ⟨rfl, HB2.out⟩

set_option maxHeartbeats 2000000 in
theorem encodeBack_walk (a : Option Addr) (len cap : Nat) (zs : List Int) (w : World) (h : IsRow w a len cap zs) :
    Calls Try.prog 4 #[.slice a len cap] w fun e w' => e = .returned (.bool true) ∧ Below w.heap.size w w' := by
  by_cases hb : (1048576 : Int) < (len : Int)
  · go_enter Try.func4, Try.ntmps4
    go_wp2_with fail
    go_ret
    exact ⟨rfl, Below.refl _ _⟩
  have H := Lib.hid h; clear h
  go_enter Try.func4, Try.ntmps4
  go_wp2_with fail
  refine (drawBase64Encode_any a len cap zs _ H.out).mono ?_
  rintro e w1 ⟨s, hs, rfl, hb1⟩
  have HB1 := Lib.hid hb1; clear hb1
  have hs1 := HB1.out.size
  have hEz := encB_size s
  have HDE := Lib.hid (show s.size ≤ 30 → decB (encB s) = s ∧ decOk (encB s) = true by
    intro h30
    have hd : decI (bl (encB s)) = some (bl s) := by
      refine (decI_iff _ _).2 ⟨by rw [bl_length]; exact hEz, ?_⟩
      unfold encB; rw [if_pos h30]; rfl
    obtain ⟨h1, h2⟩ := dec_some _ _ hd
    exact ⟨h1, h2⟩)
  generalize hE : encB s = E at hEz HDE
  have HE := Lib.hid hE; clear hE
  go_wp2_with fail
  refine (implEnc_any s _).mono ?_
  rw [HE.out]
  rintro e w2 ⟨rfl, hb2⟩
  have HB2 := Lib.hid (HB1.out.trans (hb2.mono hs1)); clear hb2
  have hs2 := HB2.out.size
  go_wp2_with fail
  refine (specEnc_any s _ (by omega)).mono ?_
  rw [HE.out]
  rintro e w3 ⟨rfl, hb3⟩
  have HB3 := Lib.hid (HB2.out.trans (hb3.mono hs2)); clear hb3
  have hs3 := HB3.out.size
  by_cases h30 : s.size ≤ 30
  · have hi : ¬ (30 : Int) < (s.size : Int) := by omega
    have HD := Lib.hid (HDE.out h30)
    go_wp2_with fail
    refine (implDec_any E _ (by omega)).mono ?_
    rw [HD.out.1, HD.out.2]
    rintro e w4 ⟨rfl, hb4⟩
    have HB4 := Lib.hid (HB3.out.trans (hb4.mono hs3)); clear hb4
    go_wp2_with fail
    go_ret
    exact ⟨rfl, HB4.out⟩
  · have hi : (30 : Int) < (s.size : Int) := by omega
    go_wp2_with fail
    go_ret
    exact ⟨rfl, HB3.out⟩

set_option maxHeartbeats 2000000 in
theorem decode_walk (a : Option Addr) (len cap : Nat) (zs : List Int) (w : World) (h : IsRow w a len cap zs) :
    Calls Try.prog 6 #[.slice a len cap] w fun e w' => e = .returned (.bool true) ∧ Below w.heap.size w w' := by
  by_cases hb : (1048576 : Int) < (len : Int)
  · go_enter Try.func6, Try.ntmps6
    go_wp2_with fail
    go_ret
    exact ⟨rfl, Below.refl _ _⟩
  have H := Lib.hid h; clear h
  go_enter Try.func6, Try.ntmps6
  go_wp2_with fail
  refine (drawDec_any a len cap zs _ H.out).mono ?_
  rintro e w1 ⟨s, hs, rfl, hb1⟩
  have HB1 := Lib.hid hb1; clear hb1
  have hs1 := HB1.out.size
  have HC := Lib.hid (dec_cases s)
  generalize hD : decB s = D at HC
  generalize hO : decOk s = O at HC
  have HD := Lib.hid hD; clear hD
  have HO := Lib.hid hO; clear hO
  go_wp2_with fail
  refine (implDec_any s _ (by omega)).mono ?_
  rw [HD.out, HO.out]
  rintro e w2 ⟨rfl, hb2⟩
  have HB2 := Lib.hid (HB1.out.trans (hb2.mono hs1)); clear hb2
  have hs2 := HB2.out.size
  go_wp2_with fail
  refine (specDec_any s _ (by omega)).mono ?_
  rw [HD.out, HO.out]
  rintro e w3 ⟨rfl, hb3⟩
  have HB3 := Lib.hid (HB2.out.trans (hb3.mono hs2)); clear hb3
  have hs3 := HB3.out.size
  rcases HC.out with ⟨rfl, rfl⟩ | ⟨rfl, h40, h30, hE, _, _⟩
  · go_wp2_with fail
    go_ret
    exact ⟨rfl, HB3.out⟩
  · have HE := Lib.hid hE; clear hE
    have hi : (D.size : Int) ≤ 30 := by omega
    go_wp2_with fail
    refine (implEnc_any D _).mono ?_
    rw [HE.out]
    rintro e w4 ⟨rfl, hb4⟩
    have HB4 := Lib.hid (HB3.out.trans (hb4.mono hs3)); clear hb4
    go_wp2_with fail
    go_ret
    refine ⟨?_, HB4.out⟩
    first | rfl | simp [hi]

theorem dec_bad_mod (s : ByteArray) (h : s.size % 4 ≠ 0) : decB s = ⟨#[]⟩ ∧ decOk s = false := dec_no s (dec_none_mod (by rw [bl_length]; exact h))

set_option maxHeartbeats 2000000 in
theorem decodePart_walk (a : Option Addr) (len cap : Nat) (zs : List Int) (w : World) (h : IsRow w a len cap zs) :
    Calls Try.prog 7 #[.slice a len cap] w fun e w' => e = .returned (.bool true) ∧ Below w.heap.size w w' := by
  by_cases hb : (1048576 : Int) < (len : Int)
  · go_enter Try.func7, Try.ntmps7
    go_wp2_with fail
    go_ret
    exact ⟨rfl, Below.refl _ _⟩
  have H := Lib.hid h; clear h
  go_enter Try.func7, Try.ntmps7
  go_wp2_with fail
  refine (drawDec_any a len cap zs _ H.out).mono ?_
  rintro e w1 ⟨s, hs, rfl, hb1⟩
  have HB1 := Lib.hid hb1; clear hb1
  have hs1 := HB1.out.size
  have HC := Lib.hid (dec_cases s)
  generalize hD : decB s = D at HC
  generalize hO : decOk s = O at HC
  have HD := Lib.hid hD; clear hD
  have HO := Lib.hid hO; clear hO
  go_wp2_with fail
  refine (implDec_any s _ (by omega)).mono ?_
  rw [HD.out, HO.out]
  rintro e w2 ⟨rfl, hb2⟩
  have HB2 := Lib.hid (HB1.out.trans (hb2.mono hs1)); clear hb2
  have hs2 := HB2.out.size
  go_wp2_with fail
  refine (specDec_any s _ (by omega)).mono ?_
  rw [HD.out, HO.out]
  rintro e w3 ⟨rfl, hb3⟩
  have HB3 := Lib.hid (HB2.out.trans (hb3.mono hs2)); clear hb3
  have hs3 := HB3.out.size
  rcases HC.out with ⟨rfl, rfl⟩ | ⟨rfl, h40, h30, _, hm4, _⟩
  · go_wp2_with fail
    go_ret
    exact ⟨rfl, HB3.out⟩
  · by_cases h0 : s.size = 0
    · obtain rfl : s = ⟨#[]⟩ := bl_inj (List.length_eq_zero_iff.1 (by rw [bl_length]; exact h0))
      clear h0
      go_wp2_with fail
      go_ret
      exact ⟨rfl, HB3.out⟩
    · obtain ⟨e1, e2⟩ := ne_empty (x := s) (by omega)
      have h4 : 4 ≤ s.size := by omega
      have HM4 := Lib.hid hm4; clear hm4
      go_wp2_with fail
      go_loopg [8] 3 (fun k iv wr => ∃ c : Nat, 1 ≤ c ∧ c ≤ 4 ∧ k = 4 - c ∧ iv = .int .i64 c ∧ Below w.heap.size w wr)
      case atStart => exact ⟨1, by omega, by omega, rfl, rfl, HB3.out⟩
      case round =>
        obtain ⟨c, hc1, hc4, hk, rfl, hbw⟩ := hrel
        have HK := Lib.hid hk; clear hk
        have hzw := hbw.size
        have HBW := Lib.hid hbw; clear hbw
        by_cases hlt : c < 4
        · have hi : (c : Int) < 4 := by omega
          have hz1' : (0 : Int) ≤ (s.size : Int) - (c : Int) := by omega
          have hz2' : (s.size : Int) - (c : Int) ≤ (s.size : Int) := by omega
          have hz3' : ((s.size : Int) - (c : Int)).toNat = s.size - c := by omega
          have HXS := Lib.hid (show (s.extract 0 (s.size - c)).size = s.size - c by simp)
          have HBM := Lib.hid (dec_bad_mod (s.extract 0 (s.size - c)) (by rw [HXS.out]; have := HM4.out; omega))
          go_wp2_with fail
          refine (implDec_any (s.extract 0 (s.size - c)) _ (by rw [HXS.out]; omega)).mono ?_
          rw [HBM.out.1, HBM.out.2]
          rintro e w4 ⟨rfl, hb4⟩
          have HB4 := Lib.hid (HBW.out.trans (hb4.mono hzw)); clear hb4
          clear hz1' hz2' hz3'
          go_wp2_with fail
          go_roundg (4 - (c + 1))
          case measure => rw [HK.out]; omega
          case rel => exact ⟨c + 1, by omega, by omega, rfl, by go_num, HB4.out⟩
        · have hi : ¬ (c : Int) < 4 := by omega
          go_wp2_with fail
          go_ret
          exact ⟨rfl, HBW.out⟩

theorem dec_bad_sign (x : ByteArray) (h : (45 : UInt8) ∈ bl x) : decB x = ⟨#[]⟩ ∧ decOk x = false := by
  refine dec_no x ?_
  cases hd : decI (bl x) with
  | none => rfl
  | some d =>
    obtain ⟨_, h2⟩ := (decI_iff _ _).1 hd
    rw [← h2] at h
    exact absurd rfl (encL_mem45 d 45 h)

end Go.Proofs.Ytjiaihkjadhpcaa
