/- Drawn base64 texts. -/
import Derived.Test.YtpefhkdpfcbhkaaSDecW
import Derived.Deep.RegionWith
import Derived.IntWalk
namespace Go.Proofs.Ytpefhkdpfcbhkaa
open Go.RowKit
set_option linter.unusedVariables false

theorem ne_empty {x : ByteArray} (h : 1 ≤ x.size) : x.toList.isEmpty = false ∧ ¬ x.toList = [] := by
  have : ¬ x.toList = [] := by
    rw [ByteArray.toList_eq]; intro e
    have := congrArg List.length e
    rw [show x.data.toList.length = x.size from bl_length x, List.length_nil] at this
    omega
  exact ⟨by simpa using this, this⟩
theorem encB_size (s : ByteArray) : (encB s).size ≤ 40 := by
  unfold encB
  split
  · rw [size_mk, List.size_toArray, encL_length, bl_length]; omega
  · simp [size_mk]
theorem RdAt.belowK {w w' : World} {b m : Nat} (h : RdAt w b m) (hb : Below w.heap.size w w') : RdAt w' b m := h.keptN hb
theorem RdAt.drw {w : World} {b m : Nat} (h : RdAt w b m) : RdAt w.drew b m := h
theorem sz_adw (w : World) (o : Obj) : (w.alloc o).drew.heap.size = w.heap.size + 1 := by show (w.heap.push o).size = _; simp
theorem Below.drw {B : Nat} {a w : World} (h : Below B a w) : Below B a w.drew := Below.drewN' h 1
theorem StrRow.drw {w : World} {sb n B : Nat} (h : StrRow w sb n B) : StrRow w.drew sb n B := h

set_option maxHeartbeats 8000000 in
theorem drawDec_any (a : Option Addr) (len cap : Nat) (zs : List Int) (w : World) (h : IsRow w a len cap zs) :
    Calls Try.prog 26 #[.slice a len cap] w (GaveStr 100 w) := by
  have H := Lib.hid h; clear h
  go_enter Try.func26, Try.ntmps26
  go_wp2_with fail
  refine (open_any a len cap zs _ H.out).mono ?_
  rintro e w1 ⟨rfl, hb, hr⟩
  have HB := Lib.hid hb; clear hb
  have hs1 := HB.out.size
  have HR := Lib.hid hr; clear hr
  go_wp2_with fail
  refine (drawBytes_any _ 0 _ (by omega) HR.out).mono ?_
  rintro e w2 ⟨x, hx, rfl, hk, hr2⟩
  have HB2 := Lib.hid (HB.out.trans (hk.below (Nat.le_refl _) hs1)); clear hk
  have HR2 := Lib.hid hr2; clear hr2
  have hs2 := HB2.out.size
  go_wp2_with fail
  refine (specEnc_any x _ (by omega)).mono ?_
  have hT := encB_size x
  generalize encB x = T at hT ⊢
  rintro e w3 ⟨rfl, hb3⟩
  have HR3 := Lib.hid (HR2.out.belowK hb3)
  have HB3 := Lib.hid (HB2.out.trans (hb3.mono hs2)); clear hb3
  have hs3 := HB3.out.size
  have hl3 := HR3.out.lt
  by_cases h0 : T.size = 0
  · obtain rfl : T = ⟨#[]⟩ := bl_inj (List.length_eq_zero_iff.1 (by rw [bl_length]; exact h0))
    clear h0
    go_wp2_with fail
    refine (of_any _ 200 w3.heap.size 9 20 _ (by omega) (by omega) (by omega) (HR3.out.alloc _) (by omega) (strs_new w3 _ _ _ rfl)).mono ?_
    rintro e w4 ⟨s, hs, rfl, hk4, hr4⟩
    have HB4 := Lib.hid ((HB3.out.alloc hs3 _).trans (hk4.below (Nat.le_refl _) (by simp; omega))); clear hk4
    go_wp2_with fail
    go_ret
    exact ⟨s, by omega, rfl, HB4.out⟩
  · obtain ⟨e1, e2⟩ := ne_empty (x := T) (by omega)
    have hp : (1 : Int) ≤ (T.size : Int) := by omega
    go_wp2_with fail
    refine (pick_any _ 200 _ _ hp (by omega) HR3.out).mono ?_
    rintro e w4 ⟨k, hk0, hk1, rfl, hk4, hr4⟩
    obtain ⟨k, rfl⟩ := Int.eq_ofNat_of_zero_le hk0
    have HB4 := Lib.hid (HB3.out.trans (hk4.below (Nat.le_refl _) hs3)); clear hk4
    have HR4 := Lib.hid hr4; clear hr4
    have hs4 := HB4.out.size
    go_wp2_with fail
    refine (pick_any _ 201 _ _ (by omega) (by omega) HR4.out).mono ?_
    rintro e w5 ⟨c, hc0, hc1, rfl, hk5, hr5⟩
    have HB5 := Lib.hid (HB4.out.trans (hk5.below (Nat.le_refl _) hs4)); clear hk5
    have HR5 := Lib.hid hr5; clear hr5
    have hs5 := HB5.out.size
    have hl5 := HR5.out.lt
    have hkT : (k : Int) ≤ (T.size : Int) := by omega
    cases d0 : (c == 0)
    · cases d1 : (c == 1)
      · cases d2 : (c == 2)
        · go_wp2_with fail
          go_ret
          exact ⟨T, by omega, rfl, HB5.out⟩
        · go_wp2_with fail
          go_ret
          refine ⟨_, ?_, rfl, HB5.out⟩
          rw [show (T ++ ⟨#[65, 65, 61, 61]⟩ : ByteArray).size = T.size + 4 by simp [size_mk]]
          omega
      · have hw1 : IntKind.i64.wrap ((k : Int) + 1) = (k : Int) + 1 := IntWalk.i64_in _ (by omega)
        have hk11 : (0 : Int) ≤ (k : Int) + 1 := by omega
        have hk12 : (k : Int) + 1 ≤ (T.size : Int) := by omega
        have hk13 : ((k : Int) + 1).toNat = k + 1 := by omega
        have HSN := Lib.hid (strs_new w5 9 [.string ⟨#[65]⟩, .string ⟨#[61]⟩, .string ⟨#[45]⟩, .string ⟨#[122]⟩] 1 rfl)
        go_wp2_with fail
        go_region_with (go_at_call 27; refine (of_any _ 202 w5.heap.size 4 1 _ (by omega) (by omega) (by omega) (HR5.out.alloc _).drw (by omega) HSN.out.drw).mono ?_; rintro e w6 ⟨s, hs, rfl, hk6, hr6⟩)
        all_goals
          have HB6 := Lib.hid ((Below.drw (HB5.out.alloc hs5 _)).trans (hk6.below (Nat.le_refl _) (by rw [sz_adw]; omega))); clear hk6 hr6
          have HZ := Lib.hid (show (T.extract 0 k ++ s ++ T.extract (k + 1) T.size).size ≤ 100 by simp; omega)
          clear hw1 hk11 hk12 hk13
          go_wp2_with fail
          go_ret
          exact ⟨_, HZ.out, rfl, HB6.out⟩
    · go_wp2_with fail
      go_ret
      refine ⟨_, ?_, rfl, HB5.out⟩
      simp; omega

end Go.Proofs.Ytpefhkdpfcbhkaa
