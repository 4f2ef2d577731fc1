/- The walks of the laws on domains. -/
import Derived.Test.YtbafeponkpaenaaDomW
import Derived.Test.YtbafeponkpaenaaDraws
import Derived.Test.YtbafeponkpaenaaPlainL
namespace Go.Proofs.Ytbafeponkpaenaa
open Go.RowKit
set_option linter.unusedVariables false

theorem size_mk (a : Array UInt8) : ByteArray.size ⟨a⟩ = a.size := rfl
theorem IsRow.below {w w' : World} {a : Option Addr} {len cap : Nat} {zs : List Int} (h : IsRow w a len cap zs) (hb : Below w.heap.size w w') : IsRow w' a len cap zs := by
  rcases h with h | ⟨x, rfl, h1, h2, h3, h4, h5⟩
  · exact .inl h
  · refine .inr ⟨x, rfl, h1, h2, h3, fun i hi => ?_, h5⟩
    have hc := h4 i hi
    refine (hb.cell (p := x.add i) ?_).trans hc
    apply Classical.byContradiction
    intro hn
    have : w.heap[(x.add i).block]? = none := Array.getElem?_eq_none (by omega)
    unfold World.cell? at hc
    rw [this] at hc
    split at hc <;> simp_all

set_option maxHeartbeats 400000 in
theorem exactDom_walk (s : ByteArray) (h : s.size ≤ maxLen) (w : World) :
    Calls Try.prog 6 #[.string s] w fun e w' => e = .returned (.bool true) ∧ Below w.heap.size w w' := by
  unfold maxLen at h
  by_cases hb : (1048576 : Int) < (s.size : Int)
  · go_enter Try.func6, Try.ntmps6
    go_wp2_with fail
    go_ret
    exact ⟨rfl, Below.refl _ _⟩
  · go_enter Try.func6, Try.ntmps6
    go_wp2_with fail
    refine (specDom_any s _ (by omega)).mono ?_
    rintro e w1 ⟨rfl, hb1⟩
    have HB1 := Lib.hid hb1; clear hb1
    go_wp2_with fail
    refine (implDom_any s _ (by omega)).mono ?_
    rintro e w2 ⟨rfl, hb2⟩
    have HB2 := Lib.hid (HB1.out.trans (hb2.mono HB1.out.size)); clear hb2
    go_wp2
    go_ret
    exact ⟨rfl, HB2.out⟩

set_option maxHeartbeats 1000000 in
theorem domainName_walk (a : Option Addr) (len cap : Nat) (zs : List Int) (w : World) (h : IsRow w a len cap zs) :
    Calls Try.prog 7 #[.slice a len cap] w fun e w' => e = .returned (.bool true) ∧ Below w.heap.size w w' := by
  by_cases hb : (1048576 : Int) < (len : Int)
  · go_enter Try.func7, Try.ntmps7
    go_wp2_with fail
    go_ret
    exact ⟨rfl, Below.refl _ _⟩
  · have H := Lib.hid h; clear h
    go_enter Try.func7, Try.ntmps7
    go_wp2_with fail
    refine (drawNameValid_any a len cap zs _ H.out).mono ?_
    rintro e w1 ⟨s, hs, rfl, hb1⟩
    have HB1 := Lib.hid hb1; clear hb1
    go_wp2_with fail
    refine (implName_any s _ (by omega)).mono ?_
    rintro e w2 ⟨rfl, hb2⟩
    have HB2 := Lib.hid (HB1.out.trans (hb2.mono HB1.out.size)); clear hb2
    go_wp2_with fail
    refine (specName_any s _ (by omega)).mono ?_
    rintro e w3 ⟨rfl, rfl⟩
    have HB3 := HB2
    cases hv : nameB s
    · go_wp2_with fail
      go_ret
      exact ⟨rfl, HB3.out⟩
    · have HV := Lib.hid hv
      have HS := Lib.hid hs
      have e1 : domB s = true := by rw [domB_list]; exact dom_of_name (by rw [← nameB_list]; exact HV.out)
      have e2 : domB (s ++ ⟨#[46]⟩) = false := by rw [domB_list, bl_append]; exact dom_dot_end _
      have E1 := Lib.hid e1; have E2 := Lib.hid e2; clear e1 e2
      go_wp2_with fail
      refine (implDom_any s _ (by omega)).mono ?_
      rw [E1.out]
      rintro e w4 ⟨rfl, hb4⟩
      have HB4 := Lib.hid (HB3.out.trans (hb4.mono HB3.out.size)); clear hb4
      go_wp2_with fail
      refine (implDom_any _ _ ?_).mono ?_
      · simp [size_mk]; omega
      rw [E2.out]
      rintro e w5 ⟨rfl, hb5⟩
      have HB5 := Lib.hid (HB4.out.trans (hb5.mono HB4.out.size)); clear hb5
      go_wp2_with fail
      go_ret
      exact ⟨rfl, HB5.out⟩

set_option maxHeartbeats 1000000 in
theorem domainDots_walk (a : Option Addr) (len cap : Nat) (zs : List Int) (w : World) (h : IsRow w a len cap zs) :
    Calls Try.prog 9 #[.slice a len cap] w fun e w' => e = .returned (.bool true) ∧ Below w.heap.size w w' := by
  by_cases hb : (1048576 : Int) < (len : Int)
  · go_enter Try.func9, Try.ntmps9
    go_wp2_with fail
    go_ret
    exact ⟨rfl, Below.refl _ _⟩
  · have H := Lib.hid h; clear h
    go_enter Try.func9, Try.ntmps9
    go_wp2_with fail
    refine (drawDomainValid_any a len cap zs _ H.out).mono ?_
    rintro e w1 ⟨s, hs, rfl, hb1⟩
    have HB1 := Lib.hid hb1; clear hb1
    go_wp2_with fail
    refine (implDom_any s _ (by omega)).mono ?_
    rintro e w2 ⟨rfl, hb2⟩
    have HB2 := Lib.hid (HB1.out.trans (hb2.mono HB1.out.size)); clear hb2
    go_wp2_with fail
    refine (specDom_any s _ (by omega)).mono ?_
    rintro e w3 ⟨rfl, hb3⟩
    have HB3 := Lib.hid (HB2.out.trans (hb3.mono HB2.out.size)); clear hb3
    cases hv : domB s
    · go_wp2_with fail
      go_ret
      exact ⟨rfl, HB3.out⟩
    · have HV := Lib.hid hv
      have HS := Lib.hid hs
      have e1 : domB (⟨#[46]⟩ ++ s) = false := by rw [domB_list, bl_append]; exact dom_dot_ahead _
      have e2 : domB (s ++ ⟨#[46]⟩) = false := by rw [domB_list, bl_append]; exact dom_dot_end _
      have e3 : domB (⟨#[97, 46, 98, 46, 99, 46]⟩ ++ s) = false := by rw [domB_list, bl_append]; exact dom_six _
      have E1 := Lib.hid e1; have E2 := Lib.hid e2; have E3 := Lib.hid e3; clear e1 e2 e3
      go_wp2_with fail
      refine (implDom_any _ _ ?_).mono ?_
      · simp [size_mk]; omega
      rw [E1.out]
      rintro e w4 ⟨rfl, hb4⟩
      have HB4 := Lib.hid (HB3.out.trans (hb4.mono HB3.out.size)); clear hb4
      go_wp2_with fail
      refine (implDom_any _ _ ?_).mono ?_
      · simp [size_mk]; omega
      rw [E2.out]
      rintro e w5 ⟨rfl, hb5⟩
      have HB5 := Lib.hid (HB4.out.trans (hb5.mono HB4.out.size)); clear hb5
      go_wp2_with fail
      refine (implDom_any _ _ ?_).mono ?_
      · simp [size_mk]; omega
      rw [E3.out]
      rintro e w6 ⟨rfl, hb6⟩
      have HB6 := Lib.hid (HB5.out.trans (hb6.mono HB5.out.size)); clear hb6
      go_wp2_with fail
      go_ret
      exact ⟨rfl, HB6.out⟩

/-- What stands ahead of the first byte c. -/
def befB (s : ByteArray) (c : UInt8) : ByteArray := (cut s c 0 0).headD ⟨#[]⟩
theorem extract_all (s : ByteArray) : s.extract 0 s.size = s := by
  apply bl_inj
  rw [bl_extract, List.drop_zero]
  exact List.take_of_length_le (by rw [bl_length]; exact Nat.le_refl _)
set_option maxHeartbeats 1000000 in
theorem before_any (s : ByteArray) (c : UInt8) (w : World) (hs : s.size ≤ 1000000000) :
    Calls Try.prog 26 #[.string s, .int .u8 (c.toNat : Int)] w fun e w' => e = .returned (.string (befB s c)) ∧ w = w' := by
  generalize hB : befB s c = B
  have HB := Lib.hid hB; clear hB
  go_enter Try.func26, Try.ntmps26
  go_wp2_with fail
  go_loopg [5] s.size (fun k iv wr => ∃ i : Nat, i ≤ s.size ∧ k = s.size - i ∧ iv = .int .i64 i ∧ cut s c 0 0 = cut s c 0 i ∧ w = wr)
  case atStart => exact ⟨0, Nat.zero_le _, rfl, rfl, rfl, rfl⟩
  case round =>
    obtain ⟨i, his, hk, rfl, hx, rfl⟩ := hrel
    have HK := Lib.hid hk; clear hk
    have HX := Lib.hid hx; clear hx
    by_cases hlt : i < s.size
    · have hi : (i : Int) < (s.size : Int) := by omega
      have hi2 : (i : Int) ≤ (s.size : Int) := by omega
      cases hat : atB s i c
      · have hne : (((s[i]).toNat : Int) == (c.toNat : Int)) = false := by
          rw [atB_iff s i c hlt, decide_eq_false_iff_not] at hat
          rw [beq_eq_false_iff_ne]; intro h; exact hat (UInt8.toNat_inj.1 (by omega))
        have HAT := Lib.hid hat; clear hat
        go_wp2_with fail
        go_roundg (s.size - (i + 1))
        case measure => rw [HK.out]; omega
        case rel => exact ⟨i + 1, by omega, rfl, by go_num, by rw [← cut_miss s c 0 i hlt HAT.out]; exact HX.out, rfl⟩
      · have heq : (((s[i]).toNat : Int) == (c.toNat : Int)) = true := by
          rw [atB_iff s i c hlt, decide_eq_true_iff] at hat
          rw [hat]; simp
        have hBv : B = s.extract 0 i := by rw [← HB.out]; unfold befB; rw [HX.out, cut_hit s c 0 i hat]; rfl
        clear hat
        subst hBv
        go_wp2_with fail
        go_ret
        exact ⟨rfl, rfl⟩
    · obtain rfl : i = s.size := by omega
      have hBv : B = s := by rw [← HB.out]; unfold befB; rw [HX.out, cut_end s c 0 s.size (Nat.le_refl _)]; exact extract_all s
      subst hBv
      go_wp2_with fail
      go_ret
      exact ⟨rfl, rfl⟩
theorem dom_before (s : ByteArray) (h : domB s = true) : nameB (befB s 46) = true ∧ s.size ≤ 20 ∧ (befB s 46).size ≤ 30 := by
  rw [← domS_eq] at h
  unfold domS at h
  simp only [Bool.and_eq_true, decide_eq_true_iff] at h
  obtain ⟨⟨h1, h2⟩, h3⟩ := h
  have hl := cut_len s 46 0 0
  have hz := cut_sizes s 46 0 0
  unfold befB
  cases hc : cut s 46 0 0 with
  | nil => rw [hc] at hl; simp at hl
  | cons x l =>
    rw [hc] at h1 hz
    have := hz x (by simp)
    exact ⟨by simpa using (List.all_eq_true.1 h1 x (by simp)), h3, by simp only [List.headD_cons]; omega⟩

set_option maxHeartbeats 1000000 in
theorem domain_walk (a : Option Addr) (len cap : Nat) (zs : List Int) (w : World) (h : IsRow w a len cap zs) :
    Calls Try.prog 10 #[.slice a len cap] w fun e w' => e = .returned (.bool true) ∧ Below w.heap.size w w' := by
  by_cases hb : (1048576 : Int) < (len : Int)
  · go_enter Try.func10, Try.ntmps10
    go_wp2_with fail
    go_ret
    exact ⟨rfl, Below.refl _ _⟩
  · have H := Lib.hid h; clear h
    go_enter Try.func10, Try.ntmps10
    go_wp2_with fail
    refine (drawDomainValid_any a len cap zs _ H.out).mono ?_
    rintro e w1 ⟨s, hs, rfl, hb1⟩
    have HB1 := Lib.hid hb1; clear hb1
    go_wp2_with fail
    refine (implDom_any s _ (by omega)).mono ?_
    rintro e w2 ⟨rfl, hb2⟩
    have HB2 := Lib.hid (HB1.out.trans (hb2.mono HB1.out.size)); clear hb2
    go_wp2_with fail
    refine (specDom_any s _ (by omega)).mono ?_
    rintro e w3 ⟨rfl, hb3⟩
    have HB3 := Lib.hid (HB2.out.trans (hb3.mono HB2.out.size)); clear hb3
    cases hv : domB s
    · go_wp2_with fail
      go_ret
      exact ⟨rfl, HB3.out⟩
    · have HV := Lib.hid hv
      have HS := Lib.hid hs
      have hbef := dom_before s HV.out
      have h20 : (s.size : Int) ≤ 20 := by omega
      have HBEF := Lib.hid hbef.1
      have hbz := hbef.2.2
      clear hbef
      go_wp2_with fail
      refine (before_any s 46 _ (by omega)).mono ?_
      rintro e w4 ⟨rfl, rfl⟩
      generalize befB s 46 = x at HBEF hbz ⊢
      go_wp2_with fail
      refine (implName_any x _ (by omega)).mono ?_
      rw [HBEF.out]
      rintro e w5 ⟨rfl, hb5⟩
      have HB5 := Lib.hid (HB3.out.trans (hb5.mono HB3.out.size)); clear hb5
      go_wp2_with fail
      go_ret
      exact ⟨rfl, HB5.out⟩

set_option maxHeartbeats 2000000 in
theorem domainTwo_walk (a : Option Addr) (len cap : Nat) (zs : List Int) (a2 : Option Addr) (len2 cap2 : Nat) (zs2 : List Int) (w : World) (h : IsRow w a len cap zs) (h2 : IsRow w a2 len2 cap2 zs2) :
    Calls Try.prog 8 #[.slice a len cap, .slice a2 len2 cap2] w fun e w' => e = .returned (.bool true) ∧ Below w.heap.size w w' := by
  by_cases hb : (1048576 : Int) < (len : Int)
  · go_enter Try.func8, Try.ntmps8
    go_wp2_with fail
    go_ret
    exact ⟨rfl, Below.refl _ _⟩
  have hbf : decide ((1048576 : Int) < (len : Int)) = false := by simpa using hb
  by_cases hc : (1048576 : Int) < (len2 : Int)
  · go_enter Try.func8, Try.ntmps8
    go_wp2_with fail
    go_ret
    exact ⟨rfl, Below.refl _ _⟩
  · have hcf : decide ((1048576 : Int) < (len2 : Int)) = false := by simpa using hc
    have H := Lib.hid h; clear h
    have H2 := Lib.hid h2; clear h2
    go_enter Try.func8, Try.ntmps8
    go_wp2_with fail
    refine (drawNameValid_any a len cap zs _ H.out).mono ?_
    rintro e w1 ⟨s, hs, rfl, hb1⟩
    have HB1 := Lib.hid hb1; clear hb1
    go_wp2_with fail
    refine (drawNameValid_any a2 len2 cap2 zs2 _ (H2.out.below HB1.out)).mono ?_
    rintro e w1' ⟨x, hx, rfl, hb1'⟩
    have HB1' := Lib.hid (HB1.out.trans (hb1'.mono HB1.out.size)); clear hb1'
    go_wp2_with fail
    refine (implName_any s _ (by omega)).mono ?_
    rintro e w2 ⟨rfl, hb2⟩
    have HB2 := Lib.hid (HB1'.out.trans (hb2.mono HB1'.out.size)); clear hb2
    go_wp2_with fail
    refine (specName_any s _ (by omega)).mono ?_
    rintro e w3 ⟨rfl, rfl⟩
    cases hv : nameB s
    · go_wp2_with fail
      go_ret
      exact ⟨rfl, HB2.out⟩
    · have HV := Lib.hid hv
      cases hvx : nameB x
      · have HVX := Lib.hid hvx; clear hvx
        go_wp2_with fail
        refine (specName_any x _ (by omega)).mono ?_
        rw [HVX.out]
        rintro e w4 ⟨rfl, rfl⟩
        go_wp2_with fail
        go_ret
        exact ⟨rfl, HB2.out⟩
      · have HVX := Lib.hid hvx; clear hvx
        have e1 : domB (s ++ ⟨#[46]⟩ ++ x) = true := by
          rw [domB_list, bl_append, bl_append, List.append_assoc]
          exact dom_two (l := bl s) (x := bl x) (by rw [← nameB_list]; exact HV.out) (by rw [← nameB_list]; exact HVX.out)
        have e2 : domB (⟨#[97, 46]⟩ ++ s ++ ⟨#[46]⟩ ++ x) = true := by
          rw [domB_list, bl_append, bl_append, bl_append, List.append_assoc, List.append_assoc]
          exact dom_three (l := bl s) (x := bl x) (by rw [← nameB_list]; exact HV.out) (by rw [← nameB_list]; exact HVX.out)
        have E1 := Lib.hid e1; have E2 := Lib.hid e2; clear e1 e2
        go_wp2_with fail
        refine (specName_any x _ (by omega)).mono ?_
        rw [HVX.out]
        rintro e w4 ⟨rfl, rfl⟩
        go_wp2_with fail
        refine (implDom_any _ _ ?_).mono ?_
        · simp [size_mk]; omega
        rw [E1.out]
        rintro e w5 ⟨rfl, hb5⟩
        have HB5 := Lib.hid (HB2.out.trans (hb5.mono HB2.out.size)); clear hb5
        go_wp2_with fail
        refine (implDom_any _ _ ?_).mono ?_
        · simp [size_mk]; omega
        rw [E2.out]
        rintro e w6 ⟨rfl, hb6⟩
        have HB6 := Lib.hid (HB5.out.trans (hb6.mono HB5.out.size)); clear hb6
        go_wp2_with fail
        go_ret
        exact ⟨rfl, HB6.out⟩

end Go.Proofs.Ytbafeponkpaenaa
