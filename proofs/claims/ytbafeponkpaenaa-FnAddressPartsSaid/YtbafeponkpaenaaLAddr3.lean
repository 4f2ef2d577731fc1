/- The walks of the laws FnExactAddressText, FnAddressText, FnAddressParts. -/
import Derived.Test.YtbafeponkpaenaaLAddr2
namespace Go.Proofs.Ytbafeponkpaenaa
open Go.RowKit
set_option linter.unusedVariables false

theorem toAd_any (u d : ByteArray) (w : World) :
    Calls Try.prog 32 #[.agg #[.string u, .string d]] w fun e w' => e = .returned (.agg #[.string u, .string d]) ∧ Below w.heap.size w w' := by
  go_enter Try.func32, Try.ntmps32
  go_wp2_with fail
  exact bodyPost_ret (v := .agg #[.string u, .string d]) (by simp [results, Try.results32, go_sem]) rfl
    ⟨rfl, (((Below.refl _ _).alloc (Nat.le_refl _) _).alloc (by simp) _).alloc (by simp; omega) _⟩

theorem szAd_no (u d : ByteArray) (w : World) (hu : u.size ≤ maxLen) (hd : d.size ≤ maxLen) (h : 1048576 < u.size + d.size) :
    Calls Try.prog 30 #[.agg #[.string u, .string d], .int .i64 1048576] w fun e w' => e = .returned (.int .i64 (-1)) ∧ Below w.heap.size w w' := by
  unfold maxLen at hu hd
  by_cases h1 : 1048576 < u.size
  · have h2 : (1048576 : Int) - (u.size : Int) < 0 := by omega
    go_enter Try.func30, Try.ntmps30
    go_wp2_with fail
    go_ret
    exact ⟨rfl, (Below.refl _ _).alloc (Nat.le_refl _) _⟩
  · have h2 : ¬ (1048576 : Int) - (u.size : Int) < 0 := by omega
    have h3 : (1048576 : Int) - (u.size : Int) - (d.size : Int) < 0 := by omega
    go_enter Try.func30, Try.ntmps30
    go_wp2_with fail
    go_ret
    exact ⟨rfl, (Below.refl _ _).alloc (Nat.le_refl _) _⟩
theorem szAd_yes (u d : ByteArray) (w : World) (h : u.size + d.size ≤ 1048576) :
    Calls Try.prog 30 #[.agg #[.string u, .string d], .int .i64 1048576] w fun e w' => e = .returned (.int .i64 (1048576 - (u.size : Int) - (d.size : Int))) ∧ Below w.heap.size w w' := by
  have h2 : ¬ (1048576 : Int) - (u.size : Int) < 0 := by omega
  have h3 : ¬ (1048576 : Int) - (u.size : Int) - (d.size : Int) < 0 := by omega
  go_enter Try.func30, Try.ntmps30
  go_wp2_with fail
  go_ret
  exact ⟨rfl, (Below.refl _ _).alloc (Nat.le_refl _) _⟩

set_option maxHeartbeats 1000000 in
theorem exactAT_walk (u : ByteArray) (hu : u.size ≤ maxLen) (d : ByteArray) (hd : d.size ≤ maxLen) (w : World) :
    Calls Try.prog 12 #[.agg #[.string u, .string d]] w fun e w' => e = .returned (.bool true) ∧ Below w.heap.size w w' := by
  have HT0 := Lib.hid (Two.new w 33 (.string u) (.string d))
  have HB0 := Lib.hid ((Below.refl w.heap.size w).alloc (Nat.le_refl _) (.cells #[.string u, .string d] 33))
  by_cases h : 1048576 < u.size + d.size
  · go_enter Try.func12, Try.ntmps12
    go_wp2_with fail
    refine (szAd_no u d _ hu hd h).mono ?_
    rintro e w1 ⟨rfl, hb1⟩
    have HB1 := Lib.hid (HB0.out.trans (hb1.mono (by simp))); clear hb1
    go_wp2_with fail
    go_ret
    exact ⟨rfl, HB1.out⟩
  · clear hu hd
    have hu : u.size ≤ 1048576 := by omega
    have hd : d.size ≤ 1048576 := by omega
    go_enter Try.func12, Try.ntmps12
    go_wp2_with fail
    refine (szAd_yes u d _ (by omega)).mono ?_
    rintro e w1 ⟨rfl, hb1⟩
    have HT1 := Lib.hid (show Two w1 w.heap.size 33 (.string u) (.string d) from (hb1.block w.heap.size (by simp)).trans HT0.out)
    have HB1 := Lib.hid (HB0.out.trans (hb1.mono (by simp))); clear hb1
    have hz1 := HT1.out.lt
    have hn : ¬ (1048576 : Int) - (u.size : Int) - (d.size : Int) < 0 := by omega
    have c0 := HT1.out.c0
    have c1 := HT1.out.c1
    go_wp2_with fail
    refine (toAd_any u d _).mono ?_
    rintro e w2 ⟨rfl, hb2⟩
    have HT2 := Lib.hid (show Two w2 w.heap.size 33 (.string u) (.string d) from (hb2.block w.heap.size (by omega)).trans HT1.out)
    have HB2 := Lib.hid (HB1.out.trans (hb2.mono (by omega))); clear hb2
    have hz2 := HT2.out.lt
    clear c0 c1
    go_wp2_with fail
    refine (specAT_any u d _ (by omega) (by omega)).mono ?_
    rintro e w3 ⟨rfl, hb3⟩
    have HT3 := Lib.hid (show Two w3 w.heap.size 33 (.string u) (.string d) from (hb3.block w.heap.size (by omega)).trans HT2.out)
    have HB3 := Lib.hid (HB2.out.trans (hb3.mono (by omega))); clear hb3
    have hz3 := HT3.out.lt
    have c0 := HT3.out.c0
    have c1 := HT3.out.c1
    go_wp2_with fail
    refine (toAd_any u d _).mono ?_
    rintro e w4 ⟨rfl, hb4⟩
    have HB4 := Lib.hid (HB3.out.trans (hb4.mono (by omega))); clear hb4
    have hz4 := HB4.out.size
    clear c0 c1
    go_wp2_with fail
    refine (implAT_any u d _ (by omega) (by omega)).mono ?_
    rintro e w5 ⟨rfl, hb5⟩
    have HB5 := Lib.hid (HB4.out.trans (hb5.mono (by omega))); clear hb5
    go_wp2_with fail
    go_ret
    exact ⟨rfl, HB5.out⟩

theorem adText_yes {u d : ByteArray} (hu : nameB u = true) (hd : domB d = true) : adText u d = u ++ ⟨#[64]⟩ ++ d := by unfold adText; rw [hu, hd]; rfl
theorem adText_no {u d : ByteArray} (h : (nameB u && domB d) = false) : adText u d = ⟨#[]⟩ := by unfold adText; rw [h]; rfl

set_option maxHeartbeats 2000000 in
theorem addressText_walk (a : Option Addr) (len cap : Nat) (zs : List Int) (w : World) (h : IsRow w a len cap zs) :
    Calls Try.prog 14 #[.slice a len cap] w fun e w' => e = .returned (.bool true) ∧ Below w.heap.size w w' := by
  by_cases hb : (1048576 : Int) < (len : Int)
  · go_enter Try.func14, Try.ntmps14
    go_wp2_with fail
    go_ret
    exact ⟨rfl, Below.refl _ _⟩
  have H := Lib.hid h; clear h
  go_enter Try.func14, Try.ntmps14
  go_wp2_with fail
  refine (drawAddressText_any a len cap zs _ H.out).mono ?_
  rintro e w1 ⟨u, d, hu, hd, rfl, hb1⟩
  have hz1 := hb1.size
  have HB1 := Lib.hid (hb1.alloc hb1.size (.cells #[.string u, .string d] 29)); clear hb1
  have HT1 := Lib.hid (Two.new w1 29 (.string u) (.string d))
  have c0 := HT1.out.c0
  have c1 := HT1.out.c1
  go_wp2_with fail
  refine (implAT_any u d _ (by omega) (by omega)).mono ?_
  rintro e w2 ⟨rfl, hb2⟩
  have HT2 := Lib.hid (show Two w2 w1.heap.size 29 (.string u) (.string d) from (hb2.block w1.heap.size (by simp)).trans HT1.out)
  have HB2 := Lib.hid (HB1.out.trans (hb2.mono (by simp; omega))); clear hb2
  have hz2 := HT2.out.lt
  clear c0 c1
  have c0 := HT2.out.c0
  have c1 := HT2.out.c1
  go_wp2_with fail
  refine (specAT_any u d _ (by omega) (by omega)).mono ?_
  rintro e w3 ⟨rfl, hb3⟩
  have HT3 := Lib.hid (show Two w3 w1.heap.size 29 (.string u) (.string d) from (hb3.block w1.heap.size (by omega)).trans HT2.out)
  have HB3 := Lib.hid (HB2.out.trans (hb3.mono (by omega))); clear hb3
  have hz3 := HT3.out.lt
  clear c0 c1
  cases hv : nameB u && domB d
  · rw [adText_no hv]
    clear hv
    go_wp2_with fail
    go_ret
    exact ⟨rfl, HB3.out⟩
  · rw [Bool.and_eq_true] at hv
    rw [adText_yes hv.1 hv.2]
    have HI := Lib.hid ((addr_eq _).trans (addrS_text u d hv.1 hv.2))
    have hne := adText_ne u d
    have hxz : (u ++ ⟨#[64]⟩ ++ d).size ≤ 60 := by simp [size_mk]; omega
    clear hv
    generalize u ++ ⟨#[64]⟩ ++ d = x at *
    have e1 : x.toList.isEmpty = false := by
      rw [List.isEmpty_eq_false_iff]; intro e; rw [ByteArray.toList_eq] at e; exact hne (bl_inj (s := x) (t := ⟨#[]⟩) e)
    have e2 : ¬ x.toList = [] := by simpa using e1
    clear hne
    go_wp2_with fail
    refine (implAP_any x _ (by omega)).mono ?_
    rw [HI.out]
    rintro e w4 ⟨rfl, hb4⟩
    have t4 : Two w4 w1.heap.size 29 (.string u) (.string d) := (hb4.block w1.heap.size (by omega)).trans HT3.out
    have HB4 := Lib.hid (HB3.out.trans (hb4.mono (by omega))); clear hb4
    have hz4 := t4.lt
    have c0 := (t4.alloc (.cells #[.string u, .string d] 29)).c0
    have c1 := (t4.alloc (.cells #[.string u, .string d] 29)).c1
    clear t4
    go_wp2_with fail
    go_ret
    exact ⟨rfl, HB4.out.alloc (by omega) _⟩

end Go.Proofs.Ytbafeponkpaenaa
