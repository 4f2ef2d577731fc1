/- The walks of the laws FnEncode, FnEncodeLong, FnEncodeEqual. -/
import Derived.Test.YtcpkadenejlbjaaLEnc
namespace Go.Proofs.Ytcpkadenejlbjaa
open Go.RowKit
set_option linter.unusedVariables false

theorem bl_arr (l : List UInt8) : bl ⟨l.toArray⟩ = l := rfl
theorem enc_facts (s : ByteArray) : s.size ≤ 30 → bl (encB s) = encL (bl s) ∧ (encB s).size = (s.size + 2) / 3 * 4 := by
  intro h
  unfold encB
  rw [if_pos h]
  exact ⟨rfl, by rw [← bl_length, bl_arr, encL_length, bl_length]⟩
theorem enc_none (s : ByteArray) : 30 < s.size → encB s = ⟨#[]⟩ := by
  intro h; unfold encB; rw [if_neg (by omega)]
theorem not_empty {x : ByteArray} (h : 1 ≤ x.size) : x.toList.isEmpty = false ∧ ¬ x.toList = [] := by
  have : ¬ x.toList = [] := by
    rw [ByteArray.toList_eq]; intro e
    have := congrArg List.length e
    rw [show x.data.toList.length = x.size from bl_length x, List.length_nil] at this
    omega
  exact ⟨by simpa using this, this⟩
/-- The last two signs. -/
theorem enc_last (l : List UInt8) (h : l ≠ []) : ∃ pre x y, encL l = pre ++ [x, y] ∧ (y = 61 ↔ l.length % 3 ≠ 0) ∧ (x = 61 ↔ l.length % 3 = 1) := by
  induction l using three_ind with
  | h0 => exact absurd rfl h
  | h1 a => exact ⟨[sgn (n24 a 0 0 / 262144), sgn (n24 a 0 0 / 4096 % 64)], 61, 61, by simp only [encL, grp]; rfl, by simp, by simp⟩
  | h2 a b =>
    have := n24_lt a b 0
    exact ⟨[sgn (n24 a b 0 / 262144), sgn (n24 a b 0 / 4096 % 64)], sgn (n24 a b 0 / 64 % 64), 61, rfl, by simp, by simp; exact sgn_ne _ (by omega)⟩
  | h3 a b c r ih =>
    have := n24_lt a b c
    rw [encL_three]
    by_cases hr : r = []
    · subst hr
      refine ⟨[sgn (n24 a b c / 262144), sgn (n24 a b c / 4096 % 64)], sgn (n24 a b c / 64 % 64), sgn (n24 a b c % 64), by rw [encL_nil]; rfl, ?_, ?_⟩
      · simp; exact sgn_ne _ (by omega)
      · simp; exact sgn_ne _ (by omega)
    · obtain ⟨pre, x, y, e, h1, h2⟩ := ih hr
      refine ⟨grp [a, b, c] ++ pre, x, y, by rw [e, List.append_assoc], ?_, ?_⟩
      · rw [h1]; simp only [List.length_cons]; omega
      · rw [h2]; simp only [List.length_cons]; omega

set_option maxHeartbeats 2000000 in
theorem encode_walk (a : Option Addr) (len cap : Nat) (zs : List Int) (w : World) (h : IsRow w a len cap zs) :
    Calls Try.prog 4 #[.slice a len cap] w fun e w' => e = .returned (.bool true) ∧ Below w.heap.size w w' := by
  by_cases hb : (1048576 : Int) < (len : Int)
  · go_enter Try.func4, Try.ntmps4
    go_wp2_with fail
    go_ret
    exact ⟨rfl, Below.refl _ _⟩
  have H := Lib.hid h; clear h
  go_enter Try.func4, Try.ntmps4
  go_wp2_with fail
  refine (drawBase64Encode_any a len cap zs _ H.out).mono ?_
  rintro e w1 ⟨s, hs, rfl, hb1⟩
  have HB1 := Lib.hid hb1; clear hb1
  have hs1 := HB1.out.size
  have HEB := Lib.hid (enc_facts s)
  have HEN := Lib.hid (enc_none s)
  generalize hE : encB s = E at HEB HEN
  have HE := Lib.hid hE; clear hE
  go_wp2_with fail
  refine (implEnc_any s _).mono ?_
  rw [HE.out]
  rintro e w2 ⟨rfl, hb2⟩
  have HB2 := Lib.hid (HB1.out.trans (hb2.mono hs1)); clear hb2
  have hs2 := HB2.out.size
  go_wp2_with fail
  refine (specEnc_any s _ (by omega)).mono ?_
  rw [HE.out]
  rintro e w3 ⟨rfl, hb3⟩
  have HB3 := Lib.hid (HB2.out.trans (hb3.mono hs2)); clear hb3
  have hs3 := HB3.out.size
  by_cases h30 : s.size ≤ 30
  · obtain ⟨hbl, hsz⟩ := HEB.out h30
    have hi : ¬ (30 : Int) < (s.size : Int) := by omega
    have hEz : E.size ≤ 100 := by omega
    have hq : ((E.size : Int) == ((s.size : Int) + 2) / 3 * 4) = true := by simp; omega
    have hq' : (E.size : Int) = ((s.size : Int) + 2) / 3 * 4 := by omega
    have HQ := Lib.hid hq'; clear hq'
    clear hbl hsz
    go_wp2_with fail
    go_ret
    exact ⟨rfl, HB3.out⟩
  · have hi : (30 : Int) < (s.size : Int) := by omega
    go_wp2_with fail
    go_ret
    exact ⟨rfl, HB3.out⟩

set_option maxHeartbeats 2000000 in
theorem encodeLong_walk (a : Option Addr) (len cap : Nat) (zs : List Int) (w : World) (h : IsRow w a len cap zs) :
    Calls Try.prog 7 #[.slice a len cap] w fun e w' => e = .returned (.bool true) ∧ Below w.heap.size w w' := by
  by_cases hb : (1048576 : Int) < (len : Int)
  · go_enter Try.func7, Try.ntmps7
    go_wp2_with fail
    go_ret
    exact ⟨rfl, Below.refl _ _⟩
  have H := Lib.hid h; clear h
  go_enter Try.func7, Try.ntmps7
  go_wp2_with fail
  refine (drawBase64Encode_any a len cap zs _ H.out).mono ?_
  rintro e w1 ⟨s, hs, rfl, hb1⟩
  have HB1 := Lib.hid hb1; clear hb1
  have hs1 := HB1.out.size
  have HEB := Lib.hid (enc_facts s)
  have HEN := Lib.hid (enc_none s)
  generalize hE : encB s = E at HEB HEN
  have HE := Lib.hid hE; clear hE
  go_wp2_with fail
  refine (implEnc_any s _).mono ?_
  rw [HE.out]
  rintro e w2 ⟨rfl, hb2⟩
  have HB2 := Lib.hid (HB1.out.trans (hb2.mono hs1)); clear hb2
  have hs2 := HB2.out.size
  go_wp2_with fail
  refine (specEnc_any s _ (by omega)).mono ?_
  rw [HE.out]
  rintro e w3 ⟨rfl, hb3⟩
  have HB3 := Lib.hid (HB2.out.trans (hb3.mono hs2)); clear hb3
  have hs3 := HB3.out.size
  by_cases h0 : s.size = 0
  · obtain rfl : s = ⟨#[]⟩ := bl_inj (List.length_eq_zero_iff.1 (by rw [bl_length]; exact h0))
    clear h0
    go_wp2_with fail
    go_ret
    exact ⟨rfl, HB3.out⟩
  · obtain ⟨e1, e2⟩ := not_empty (x := s) (by omega)
    go_wp2_with fail
    go_loopg [6] (40 - s.size) (fun k xv wr => ∃ x : ByteArray, k = 40 - x.size ∧ s.size ≤ x.size ∧ x.size ≤ 80 ∧ xv = .string x ∧ Below w.heap.size w wr)
    case atStart => exact ⟨s, rfl, Nat.le_refl _, by omega, rfl, HB3.out⟩
    case round =>
      obtain ⟨x, hk, hx1, hx2, rfl, hbw⟩ := hrel
      have HK := Lib.hid hk; clear hk
      have hzw := hbw.size
      have HBW := Lib.hid hbw; clear hbw
      by_cases hx : x.size ≤ 30
      · have hi : (x.size : Int) ≤ 30 := by omega
        have hxs : (x ++ s).size = x.size + s.size := by simp
        have HXS := Lib.hid hxs; clear hxs
        go_wp2_with fail
        go_roundg (40 - (x ++ s).size)
        case measure => rw [HK.out, HXS.out]; omega
        case rel => exact ⟨x ++ s, rfl, by rw [HXS.out]; omega, by rw [HXS.out]; omega, rfl, HBW.out⟩
      · have hi : ¬ (x.size : Int) ≤ 30 := by omega
        have HN := Lib.hid (enc_none x (by omega))
        go_wp2_with fail
        refine (implEnc_any x _).mono ?_
        rw [HN.out]
        rintro e w5 ⟨rfl, hb5⟩
        have HB5 := Lib.hid (HBW.out.trans (hb5.mono hzw)); clear hb5
        go_wp2_with fail
        go_ret
        exact ⟨rfl, HB5.out⟩

end Go.Proofs.Ytcpkadenejlbjaa
