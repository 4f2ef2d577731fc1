/- The walks of the laws on addresses: drawing, comparing, exact laws. -/
import Derived.Test.YtbafeponkpaenaaAddrW3
import Derived.Test.YtbafeponkpaenaaDraws
import Derived.Test.YtbafeponkpaenaaLDom
namespace Go.Proofs.Ytbafeponkpaenaa
open Go.RowKit
set_option linter.unusedVariables false

/-- An address of short parts. -/
def GaveAd (w : World) (e : Ending) (w' : World) : Prop := ∃ u d : ByteArray, u.size ≤ 20 ∧ d.size ≤ 30 ∧ e = .returned (.agg #[.string u, .string d]) ∧ Below w.heap.size w w'

set_option maxHeartbeats 1000000 in
theorem drawAddressParse_any (a : Option Addr) (len cap : Nat) (zs : List Int) (w : World) (h : IsRow w a len cap zs) :
    Calls Try.prog 37 #[.slice a len cap] w (GaveStr 60 w) := by
  have H := Lib.hid h; clear h
  go_enter Try.func37, Try.ntmps37
  go_wp2_with fail
  refine (open_any a len cap zs _ H.out).mono ?_
  rintro e w1 ⟨rfl, hb, hr⟩
  have HB := Lib.hid hb; clear hb
  have HR := Lib.hid hr; clear hr
  go_wp2_with fail
  refine (drawName_any _ 0 _ (by omega) HR.out).mono ?_
  rintro e w2 ⟨s, hs, rfl, hk, hr2⟩
  have HB2 := Lib.hid (HB.out.trans (hk.below (Nat.le_refl _) HB.out.size)); clear hk
  have HR2 := Lib.hid hr2; clear hr2
  go_wp2_with fail
  refine (drawDomain_any _ 2 _ (by omega) HR2.out).mono ?_
  rintro e w3 ⟨t, ht, rfl, hk, hr3⟩
  have HB3 := Lib.hid (HB2.out.trans (hk.below (Nat.le_refl _) HB2.out.size)); clear hk
  have HR3 := Lib.hid hr3; clear hr3
  have hst : (s ++ ⟨#[64]⟩ ++ t).size ≤ 55 := by simp [size_mk]; omega
  go_wp2_with fail
  refine (pick_any _ 4 _ _ (by omega) (by omega) HR3.out).mono ?_
  rintro e w4 ⟨r, hr0, hr1, rfl, hk, hr4⟩
  have HB4 := Lib.hid (HB3.out.trans (hk.below (Nat.le_refl _) HB3.out.size)); clear hk
  have HR4 := Lib.hid hr4; clear hr4
  generalize s ++ ⟨#[64]⟩ ++ t = x at *
  cases h0 : (r == 0)
  · cases h1 : (r == 1)
    · go_wp2_with fail
      go_ret
      exact ⟨x, by omega, rfl, HB4.out⟩
    · go_wp2_with fail
      refine (drawName_any _ 5 _ (by omega) HR4.out).mono ?_
      rintro e w5 ⟨y, hy, rfl, hk, hr5⟩
      have HB5 := Lib.hid (HB4.out.trans (hk.below (Nat.le_refl _) HB4.out.size)); clear hk
      go_wp2_with fail
      go_ret
      exact ⟨y, by omega, rfl, HB5.out⟩
  · go_wp2_with fail
    go_ret
    exact ⟨x ++ ⟨#[64]⟩, by simp [size_mk]; omega, rfl, HB4.out⟩

set_option maxHeartbeats 1000000 in
theorem drawPathParse_any (a : Option Addr) (len cap : Nat) (zs : List Int) (w : World) (h : IsRow w a len cap zs) :
    Calls Try.prog 38 #[.slice a len cap] w (GaveStr 60 w) := by
  have H := Lib.hid h; clear h
  go_enter Try.func38, Try.ntmps38
  go_wp2_with fail
  refine (open_any a len cap zs _ H.out).mono ?_
  rintro e w1 ⟨rfl, hb, hr⟩
  have HB := Lib.hid hb; clear hb
  have HR := Lib.hid hr; clear hr
  go_wp2_with fail
  refine (drawName_any _ 0 _ (by omega) HR.out).mono ?_
  rintro e w2 ⟨s, hs, rfl, hk, hr2⟩
  have HB2 := Lib.hid (HB.out.trans (hk.below (Nat.le_refl _) HB.out.size)); clear hk
  have HR2 := Lib.hid hr2; clear hr2
  go_wp2_with fail
  refine (drawDomain_any _ 2 _ (by omega) HR2.out).mono ?_
  rintro e w3 ⟨t, ht, rfl, hk, hr3⟩
  have HB3 := Lib.hid (HB2.out.trans (hk.below (Nat.le_refl _) HB2.out.size)); clear hk
  have HR3 := Lib.hid hr3; clear hr3
  have hst : (⟨#[60]⟩ ++ s ++ ⟨#[64]⟩ ++ t ++ ⟨#[62]⟩ : ByteArray).size ≤ 55 := by simp [size_mk]; omega
  go_wp2_with fail
  refine (pick_any _ 4 _ _ (by omega) (by omega) HR3.out).mono ?_
  rintro e w4 ⟨r, hr0, hr1, rfl, hk, hr4⟩
  have hlt := hr4.lt
  have HB4 := Lib.hid (HB3.out.trans (hk.below (Nat.le_refl _) HB3.out.size)); clear hk
  have HR4 := Lib.hid hr4; clear hr4
  generalize (⟨#[60]⟩ ++ s ++ ⟨#[64]⟩ ++ t ++ ⟨#[62]⟩ : ByteArray) = x at *
  cases h0 : (r == 0)
  · cases h1 : (r == 1)
    · go_wp2_with fail
      go_ret
      exact ⟨x, by omega, rfl, HB4.out⟩
    · go_wp2_with fail
      go_ret
      exact ⟨x ++ ⟨#[32]⟩, by simp [size_mk]; omega, rfl, HB4.out⟩
  · go_wp2_with fail
    refine (of_any _ 5 w4.heap.size 7 20 _ (by omega) (by omega) (by omega) (HR4.out.alloc _) (by omega) (strs_new w4 _ _ _ rfl)).mono ?_
    rintro e w5 ⟨y, hy, rfl, hk, hr5⟩
    have HB5 := Lib.hid ((HB4.out.alloc (by omega) _).trans (hk.below (Nat.le_refl _) (by simp; omega))); clear hk
    go_wp2_with fail
    go_ret
    exact ⟨y, by omega, rfl, HB5.out⟩

set_option maxHeartbeats 1000000 in
theorem drawAddressText_any (a : Option Addr) (len cap : Nat) (zs : List Int) (w : World) (h : IsRow w a len cap zs) :
    Calls Try.prog 36 #[.slice a len cap] w (GaveAd w) := by
  have HT0 := Lib.hid (Two.new w 29 (.string ⟨#[]⟩) (.string ⟨#[]⟩))
  have HB0 := Lib.hid ((Below.refl w.heap.size w).alloc (Nat.le_refl _) (.cells #[.string ⟨#[]⟩, .string ⟨#[]⟩] 29))
  have H := Lib.hid (h.below HB0.out); clear h
  go_enter Try.func36, Try.ntmps36
  go_wp2_with fail
  refine (open_any a len cap zs _ H.out).mono ?_
  rw [World.size_alloc]
  rintro e w1 ⟨rfl, hb, hr⟩
  have HT1 := Lib.hid (show Two w1 w.heap.size 29 (.string ⟨#[]⟩) (.string ⟨#[]⟩) from (hb.block w.heap.size (by omega)).trans HT0.out)
  have HB := Lib.hid (HB0.out.trans (hb.mono (by omega))); clear hb
  have HR := Lib.hid hr; clear hr
  go_wp2_with fail
  refine (drawName_any _ 0 _ (by omega) HR.out).mono ?_
  rintro e w2 ⟨s, hs, rfl, hk, hr2⟩
  have HT2 := Lib.hid (HT1.out.kept hk (by omega))
  have HB2 := Lib.hid (HB.out.trans (hk.below (by omega) HB.out.size)); clear hk
  have HR2 := Lib.hid hr2; clear hr2
  go_wp2_with fail
  refine (drawDomain_any _ 2 _ (by omega) HR2.out).mono ?_
  rintro e w3 ⟨t, ht, rfl, hk, hr3⟩
  have HT3 := Lib.hid (HT2.out.kept hk (by omega))
  have HB3 := Lib.hid (HB2.out.trans (hk.below (by omega) HB2.out.size)); clear hk hr3
  have a0 := HT3.out.c0
  have a1 := HT3.out.c1
  have f0 := HT3.out.f0
  have f1 := HT3.out.f1
  go_wp2_with fail
  have k := (HT3.out.set0 (.string s)).set1 (.string t)
  exact bodyPost_ret (v := .agg #[.string s, .string t]) (by simp [results, Try.results36, go_sem, k.c0, k.c1]) rfl
    ⟨s, t, hs, ht, rfl, (HB3.out.setCell (p := ⟨w.heap.size, 0, none⟩) (Nat.le_refl _) _).setCell (p := ⟨w.heap.size, 1, none⟩) (Nat.le_refl _) _⟩

theorem eqAd_any (u d : ByteArray) (w : World) :
    Calls Try.prog 29 #[.agg #[.string u, .string d], .agg #[.string u, .string d]] w fun e w' => e = .returned (.bool true) ∧ Below w.heap.size w w' := by
  go_enter Try.func29, Try.ntmps29
  go_wp2_with fail
  go_ret
  exact ⟨rfl, ((Below.refl _ _).alloc (Nat.le_refl _) _).alloc (by simp) _⟩

set_option maxHeartbeats 1000000 in
theorem exactAP_walk (s : ByteArray) (h : s.size ≤ maxLen) (w : World) :
    Calls Try.prog 11 #[.string s] w fun e w' => e = .returned (.bool true) ∧ Below w.heap.size w w' := by
  unfold maxLen at h
  by_cases hb : (1048576 : Int) < (s.size : Int)
  · go_enter Try.func11, Try.ntmps11
    go_wp2_with fail
    go_ret
    exact ⟨rfl, Below.refl _ _⟩
  · go_enter Try.func11, Try.ntmps11
    go_wp2_with fail
    refine (specAP_any s _ (by omega)).mono ?_
    intro e w1 hp1
    cases hd : addrS s with
    | none =>
      rw [hd] at hp1
      obtain ⟨rfl, hb1⟩ := hp1
      have HB1 := Lib.hid hb1; clear hb1
      have HI := Lib.hid ((addr_eq s).trans hd); clear hd
      go_wp2_with fail
      refine (implAP_any s _ (by omega)).mono ?_
      rw [HI.out]
      rintro e w2 ⟨rfl, hb2⟩
      have t2 : Two w2 w1.heap.size 29 (.string ⟨#[]⟩) (.string ⟨#[]⟩) := (hb2.block w1.heap.size (by simp)).trans (Two.new w1 _ _ _)
      have hz2 := t2.lt
      have hz1 := HB1.out.size
      have HB2 := Lib.hid ((HB1.out.alloc (by omega) _).trans (hb2.mono (by simp; omega))); clear hb2
      have c0 := t2.c0
      have c1 := t2.c1
      clear t2
      go_wp2_with fail
      refine (eqAd_any _ _ _).mono ?_
      rintro e w3 ⟨rfl, hb3⟩
      have HB3 := Lib.hid ((HB2.out.alloc (by omega) _).trans (hb3.mono (by simp; omega))); clear hb3
      go_wp2_with fail
      go_ret
      exact ⟨rfl, HB3.out⟩
    | some ud =>
      obtain ⟨u, d⟩ := ud
      rw [hd] at hp1
      obtain ⟨rfl, hb1⟩ := hp1
      have HB1 := Lib.hid hb1; clear hb1
      have HI := Lib.hid ((addr_eq s).trans hd); clear hd
      go_wp2_with fail
      refine (implAP_any s _ (by omega)).mono ?_
      rw [HI.out]
      rintro e w2 ⟨rfl, hb2⟩
      have t2 : Two w2 w1.heap.size 29 (.string u) (.string d) := (hb2.block w1.heap.size (by simp)).trans (Two.new w1 _ _ _)
      have hz2 := t2.lt
      have hz1 := HB1.out.size
      have HB2 := Lib.hid ((HB1.out.alloc (by omega) _).trans (hb2.mono (by simp; omega))); clear hb2
      have c0 := t2.c0
      have c1 := t2.c1
      clear t2
      go_wp2_with fail
      refine (eqAd_any _ _ _).mono ?_
      rintro e w3 ⟨rfl, hb3⟩
      have HB3 := Lib.hid ((HB2.out.alloc (by omega) _).trans (hb3.mono (by simp; omega))); clear hb3
      go_wp2_with fail
      go_ret
      exact ⟨rfl, HB3.out⟩
end Go.Proofs.Ytbafeponkpaenaa
