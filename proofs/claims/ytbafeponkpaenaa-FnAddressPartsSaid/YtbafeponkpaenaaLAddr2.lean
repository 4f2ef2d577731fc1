/- The walks of the laws on addresses. -/
import Derived.Test.YtbafeponkpaenaaLAddr
namespace Go.Proofs.Ytbafeponkpaenaa
open Go.RowKit
set_option linter.unusedVariables false

set_option maxHeartbeats 2000000 in
theorem pathOf_walk (a : Option Addr) (len cap : Nat) (zs : List Int) (w : World) (h : IsRow w a len cap zs) :
    Calls Try.prog 17 #[.slice a len cap] w fun e w' => e = .returned (.bool true) ∧ Below w.heap.size w w' := by
  by_cases hb : (1048576 : Int) < (len : Int)
  · go_enter Try.func17, Try.ntmps17
    go_wp2_with fail
    go_ret
    exact ⟨rfl, Below.refl _ _⟩
  have H := Lib.hid h; clear h
  go_enter Try.func17, Try.ntmps17
  go_wp2_with fail
  refine (drawAddressParse_any a len cap zs _ H.out).mono ?_
  rintro e w1 ⟨s, hs, rfl, hb1⟩
  have HB1 := Lib.hid hb1; clear hb1
  have hz1 := HB1.out.size
  have h9 : s.size ≤ 1000000000 := by omega
  cases hd : addrS s with
  | none =>
    have HD := Lib.hid hd
    have HI := Lib.hid ((addr_eq s).trans hd); clear hd
    go_wp2_with fail
    refine (implAP_any s _ h9).mono ?_
    rw [HI.out]
    rintro e w2 ⟨rfl, hb2⟩
    have HB2 := Lib.hid (HB1.out.trans (hb2.mono hz1)); clear hb2
    have hz2 := HB2.out.size
    go_wp2_with fail
    refine (specAP_any s _ h9).mono ?_
    rw [HD.out]
    rintro e w3 ⟨rfl, hb3⟩
    have t3 : Two w3 w2.heap.size 29 (.string ⟨#[]⟩) (.string ⟨#[]⟩) := (hb3.block w2.heap.size (by simp)).trans (Two.new w2 _ _ _)
    have hz3 := t3.lt
    have HB3 := Lib.hid ((HB2.out.alloc (by omega) _).trans (hb3.mono (by simp; omega))); clear hb3
    have c0 := (t3.alloc (.cells #[.string ⟨#[]⟩, .string ⟨#[]⟩] 29)).c0
    have c1 := (t3.alloc (.cells #[.string ⟨#[]⟩, .string ⟨#[]⟩] 29)).c1
    have n0 := (Two.new w3 29 (.string ⟨#[]⟩) (.string ⟨#[]⟩)).c0
    have n1 := (Two.new w3 29 (.string ⟨#[]⟩) (.string ⟨#[]⟩)).c1
    clear t3
    go_wp2_with fail
    go_ret
    exact ⟨rfl, HB3.out.alloc (by omega) _⟩
  | some ud =>
    obtain ⟨u, d⟩ := ud
    have HD := Lib.hid hd
    have HI := Lib.hid ((addr_eq s).trans hd); clear hd
    go_wp2_with fail
    refine (implAP_any s _ h9).mono ?_
    rw [HI.out]
    rintro e w2 ⟨rfl, hb2⟩
    have HB2 := Lib.hid (HB1.out.trans (hb2.mono hz1)); clear hb2
    have hz2 := HB2.out.size
    go_wp2_with fail
    refine (specAP_any s _ h9).mono ?_
    rw [HD.out]
    rintro e w3 ⟨rfl, hb3⟩
    have t3 : Two w3 w2.heap.size 29 (.string u) (.string d) := (hb3.block w2.heap.size (by simp)).trans (Two.new w2 _ _ _)
    have hz3 := t3.lt
    have HB3 := Lib.hid ((HB2.out.alloc (by omega) _).trans (hb3.mono (by simp; omega))); clear hb3
    have HTA := Lib.hid (t3.alloc (.cells #[.string u, .string d] 29)); clear t3
    have HTN := Lib.hid (Two.new w3 29 (.string u) (.string d))
    have HB4 := Lib.hid (HB3.out.alloc (by omega) (.cells #[.string u, .string d] 29))
    have c0 := HTA.out.c0
    have c1 := HTA.out.c1
    have n0 := HTN.out.c0
    have n1 := HTN.out.c1
    have HP := Lib.hid ((path_eq _).trans (path_of HD.out))
    have hx9 : (⟨#[60]⟩ ++ s ++ ⟨#[62]⟩ : ByteArray).size ≤ 1000000000 := by simp [size_mk]; omega
    go_wp2_with fail
    refine (implPP_any _ _ hx9).mono ?_
    rw [HP.out]
    rintro e w5 ⟨rfl, hb5⟩
    have t5 : Two w5 w2.heap.size 29 (.string u) (.string d) := (hb5.block w2.heap.size (by simp; omega)).trans HTA.out
    have hz5 := t5.lt
    have HB5 := Lib.hid (HB4.out.trans (hb5.mono (by simp; omega))); clear hb5
    clear c0 c1 n0 n1
    have c0 := (t5.alloc (.cells #[.string u, .string d] 29)).c0
    have c1 := (t5.alloc (.cells #[.string u, .string d] 29)).c1
    clear t5
    go_wp2_with fail
    go_ret
    exact ⟨rfl, HB5.out.alloc (by omega) _⟩

set_option maxHeartbeats 2000000 in
theorem address_walk (a : Option Addr) (len cap : Nat) (zs : List Int) (w : World) (h : IsRow w a len cap zs) :
    Calls Try.prog 18 #[.slice a len cap] w fun e w' => e = .returned (.bool true) ∧ Below w.heap.size w w' := by
  by_cases hb : (1048576 : Int) < (len : Int)
  · go_enter Try.func18, Try.ntmps18
    go_wp2_with fail
    go_ret
    exact ⟨rfl, Below.refl _ _⟩
  have H := Lib.hid h; clear h
  go_enter Try.func18, Try.ntmps18
  go_wp2_with fail
  refine (drawAddressParse_any a len cap zs _ H.out).mono ?_
  rintro e w1 ⟨s, hs, rfl, hb1⟩
  have HB1 := Lib.hid hb1; clear hb1
  have hz1 := HB1.out.size
  have h9 : s.size ≤ 1000000000 := by omega
  cases hd : addrS s with
  | none =>
    have HD := Lib.hid hd
    have HI := Lib.hid ((addr_eq s).trans hd); clear hd
    go_wp2_with fail
    refine (implAP_any s _ h9).mono ?_
    rw [HI.out]
    rintro e w2 ⟨rfl, hb2⟩
    have HB2 := Lib.hid (HB1.out.trans (hb2.mono hz1)); clear hb2
    have hz2 := HB2.out.size
    go_wp2_with fail
    refine (specAP_any s _ h9).mono ?_
    rw [HD.out]
    rintro e w3 ⟨rfl, hb3⟩
    have t3 : Two w3 w2.heap.size 29 (.string ⟨#[]⟩) (.string ⟨#[]⟩) := (hb3.block w2.heap.size (by simp)).trans (Two.new w2 _ _ _)
    have hz3 := t3.lt
    have HB3 := Lib.hid ((HB2.out.alloc (by omega) _).trans (hb3.mono (by simp; omega))); clear hb3
    have c0 := (t3.alloc (.cells #[.string ⟨#[]⟩, .string ⟨#[]⟩] 29)).c0
    have c1 := (t3.alloc (.cells #[.string ⟨#[]⟩, .string ⟨#[]⟩] 29)).c1
    have n0 := (Two.new w3 29 (.string ⟨#[]⟩) (.string ⟨#[]⟩)).c0
    have n1 := (Two.new w3 29 (.string ⟨#[]⟩) (.string ⟨#[]⟩)).c1
    clear t3
    go_wp2_with fail
    go_ret
    exact ⟨rfl, HB3.out.alloc (by omega) _⟩
  | some ud =>
    obtain ⟨u, d⟩ := ud
    have HD := Lib.hid hd
    have HI := Lib.hid ((addr_eq s).trans hd); clear hd
    go_wp2_with fail
    refine (implAP_any s _ h9).mono ?_
    rw [HI.out]
    rintro e w2 ⟨rfl, hb2⟩
    have HB2 := Lib.hid (HB1.out.trans (hb2.mono hz1)); clear hb2
    have hz2 := HB2.out.size
    go_wp2_with fail
    refine (specAP_any s _ h9).mono ?_
    rw [HD.out]
    rintro e w3 ⟨rfl, hb3⟩
    have t3 : Two w3 w2.heap.size 29 (.string u) (.string d) := (hb3.block w2.heap.size (by simp)).trans (Two.new w2 _ _ _)
    have hz3 := t3.lt
    have HB3 := Lib.hid ((HB2.out.alloc (by omega) _).trans (hb3.mono (by simp; omega))); clear hb3
    have HTA := Lib.hid (t3.alloc (.cells #[.string u, .string d] 29)); clear t3
    have HTN := Lib.hid (Two.new w3 29 (.string u) (.string d))
    have HB4 := Lib.hid (HB3.out.alloc (by omega) (.cells #[.string u, .string d] 29))
    have c0 := HTA.out.c0
    have c1 := HTA.out.c1
    have n0 := HTN.out.c0
    have n1 := HTN.out.c1
    have hzz := addrS_sizes HD.out
    have hv := (addrS_iff s u d).1 HD.out
    have HT := Lib.hid (show adText u d = s by unfold adText; rw [hv.2.1, hv.2.2]; exact addrS_back HD.out)
    clear hv
    go_wp2_with fail
    refine (implAT_any u d _ (by omega) (by omega)).mono ?_
    rw [HT.out]
    rintro e w5 ⟨rfl, hb5⟩
    have HB5 := Lib.hid (HB4.out.trans (hb5.mono (by simp; omega))); clear hb5
    go_wp2_with fail
    go_ret
    exact ⟨rfl, HB5.out⟩

set_option maxHeartbeats 2000000 in
theorem pathBare_walk (a : Option Addr) (len cap : Nat) (zs : List Int) (w : World) (h : IsRow w a len cap zs) :
    Calls Try.prog 16 #[.slice a len cap] w fun e w' => e = .returned (.bool true) ∧ Below w.heap.size w w' := by
  by_cases hb : (1048576 : Int) < (len : Int)
  · go_enter Try.func16, Try.ntmps16
    go_wp2_with fail
    go_ret
    exact ⟨rfl, Below.refl _ _⟩
  have H := Lib.hid h; clear h
  go_enter Try.func16, Try.ntmps16
  go_wp2_with fail
  refine (drawAddressParse_any a len cap zs _ H.out).mono ?_
  rintro e w1 ⟨s, hs, rfl, hb1⟩
  have HB1 := Lib.hid hb1; clear hb1
  have hz1 := HB1.out.size
  have h9 : s.size ≤ 1000000000 := by omega
  cases hd : addrS s with
  | none =>
    have HD := Lib.hid hd
    have HI := Lib.hid ((addr_eq s).trans hd); clear hd
    go_wp2_with fail
    refine (implAP_any s _ h9).mono ?_
    rw [HI.out]
    rintro e w2 ⟨rfl, hb2⟩
    have HB2 := Lib.hid (HB1.out.trans (hb2.mono hz1)); clear hb2
    have hz2 := HB2.out.size
    go_wp2_with fail
    refine (specAP_any s _ h9).mono ?_
    rw [HD.out]
    rintro e w3 ⟨rfl, hb3⟩
    have t3 : Two w3 w2.heap.size 29 (.string ⟨#[]⟩) (.string ⟨#[]⟩) := (hb3.block w2.heap.size (by simp)).trans (Two.new w2 _ _ _)
    have hz3 := t3.lt
    have HB3 := Lib.hid ((HB2.out.alloc (by omega) _).trans (hb3.mono (by simp; omega))); clear hb3
    have c0 := (t3.alloc (.cells #[.string ⟨#[]⟩, .string ⟨#[]⟩] 29)).c0
    have c1 := (t3.alloc (.cells #[.string ⟨#[]⟩, .string ⟨#[]⟩] 29)).c1
    have n0 := (Two.new w3 29 (.string ⟨#[]⟩) (.string ⟨#[]⟩)).c0
    have n1 := (Two.new w3 29 (.string ⟨#[]⟩) (.string ⟨#[]⟩)).c1
    clear t3
    go_wp2_with fail
    go_ret
    exact ⟨rfl, HB3.out.alloc (by omega) _⟩
  | some ud =>
    obtain ⟨u, d⟩ := ud
    have HD := Lib.hid hd
    have HI := Lib.hid ((addr_eq s).trans hd); clear hd
    go_wp2_with fail
    refine (implAP_any s _ h9).mono ?_
    rw [HI.out]
    rintro e w2 ⟨rfl, hb2⟩
    have HB2 := Lib.hid (HB1.out.trans (hb2.mono hz1)); clear hb2
    have hz2 := HB2.out.size
    go_wp2_with fail
    refine (specAP_any s _ h9).mono ?_
    rw [HD.out]
    rintro e w3 ⟨rfl, hb3⟩
    have t3 : Two w3 w2.heap.size 29 (.string u) (.string d) := (hb3.block w2.heap.size (by simp)).trans (Two.new w2 _ _ _)
    have hz3 := t3.lt
    have HB3 := Lib.hid ((HB2.out.alloc (by omega) _).trans (hb3.mono (by simp; omega))); clear hb3
    have HTA := Lib.hid (t3.alloc (.cells #[.string u, .string d] 29)); clear t3
    have HTN := Lib.hid (Two.new w3 29 (.string u) (.string d))
    have HB4 := Lib.hid (HB3.out.alloc (by omega) (.cells #[.string u, .string d] 29))
    have c0 := HTA.out.c0
    have c1 := HTA.out.c1
    have n0 := HTN.out.c0
    have n1 := HTN.out.c1
    have hpb := path_bare HD.out
    have HP1 := Lib.hid ((path_eq _).trans hpb.1)
    have HP2 := Lib.hid ((path_eq _).trans hpb.2.1)
    have HP3 := Lib.hid ((path_eq _).trans hpb.2.2)
    clear hpb
    have hx2 : (⟨#[60]⟩ ++ s : ByteArray).size ≤ 1000000000 := by simp [size_mk]; omega
    have hx3 : (s ++ ⟨#[62]⟩ : ByteArray).size ≤ 1000000000 := by simp [size_mk]; omega
    go_wp2_with fail
    refine (implPP_any _ _ h9).mono ?_
    rw [HP1.out]
    rintro e w5 ⟨rfl, hb5⟩
    have HB5 := Lib.hid (HB4.out.trans (hb5.mono (by simp; omega))); clear hb5
    have hz5 := HB5.out.size
    clear c0 c1 n0 n1
    go_wp2_with fail
    refine (implPP_any _ _ hx2).mono ?_
    rw [HP2.out]
    rintro e w6 ⟨rfl, hb6⟩
    have HB6 := Lib.hid ((HB5.out.alloc (by omega) _).trans (hb6.mono (by simp; omega))); clear hb6
    have hz6 := HB6.out.size
    go_wp2_with fail
    refine (implPP_any _ _ hx3).mono ?_
    rw [HP3.out]
    rintro e w7 ⟨rfl, hb7⟩
    have HB7 := Lib.hid ((HB6.out.alloc (by omega) _).trans (hb7.mono (by simp; omega))); clear hb7
    have hz7 := HB7.out.size
    go_wp2_with fail
    go_ret
    exact ⟨rfl, HB7.out.alloc (by omega) _⟩

set_option maxHeartbeats 2000000 in
theorem path_walk (a : Option Addr) (len cap : Nat) (zs : List Int) (w : World) (h : IsRow w a len cap zs) :
    Calls Try.prog 19 #[.slice a len cap] w fun e w' => e = .returned (.bool true) ∧ Below w.heap.size w w' := by
  by_cases hb : (1048576 : Int) < (len : Int)
  · go_enter Try.func19, Try.ntmps19
    go_wp2_with fail
    go_ret
    exact ⟨rfl, Below.refl _ _⟩
  have H := Lib.hid h; clear h
  go_enter Try.func19, Try.ntmps19
  go_wp2_with fail
  refine (drawPathParse_any a len cap zs _ H.out).mono ?_
  rintro e w1 ⟨s, hs, rfl, hb1⟩
  have HB1 := Lib.hid hb1; clear hb1
  have hz1 := HB1.out.size
  have h9 : s.size ≤ 1000000000 := by omega
  cases hd : pathS s with
  | none =>
    have HD := Lib.hid hd
    have HI := Lib.hid ((path_eq s).trans hd); clear hd
    go_wp2_with fail
    refine (implPP_any s _ h9).mono ?_
    rw [HI.out]
    rintro e w2 ⟨rfl, hb2⟩
    have HB2 := Lib.hid (HB1.out.trans (hb2.mono hz1)); clear hb2
    have hz2 := HB2.out.size
    go_wp2_with fail
    refine (specPP_any s _ h9).mono ?_
    rw [HD.out]
    rintro e w3 ⟨rfl, hb3⟩
    have t3 : Two w3 w2.heap.size 29 (.string ⟨#[]⟩) (.string ⟨#[]⟩) := (hb3.block w2.heap.size (by simp)).trans (Two.new w2 _ _ _)
    have hz3 := t3.lt
    have HB3 := Lib.hid ((HB2.out.alloc (by omega) _).trans (hb3.mono (by simp; omega))); clear hb3
    have c0 := (t3.alloc (.cells #[.string ⟨#[]⟩, .string ⟨#[]⟩] 29)).c0
    have c1 := (t3.alloc (.cells #[.string ⟨#[]⟩, .string ⟨#[]⟩] 29)).c1
    have n0 := (Two.new w3 29 (.string ⟨#[]⟩) (.string ⟨#[]⟩)).c0
    have n1 := (Two.new w3 29 (.string ⟨#[]⟩) (.string ⟨#[]⟩)).c1
    clear t3
    go_wp2_with fail
    go_ret
    exact ⟨rfl, HB3.out.alloc (by omega) _⟩
  | some ud =>
    obtain ⟨u, d⟩ := ud
    have HD := Lib.hid hd
    have HI := Lib.hid ((path_eq s).trans hd); clear hd
    go_wp2_with fail
    refine (implPP_any s _ h9).mono ?_
    rw [HI.out]
    rintro e w2 ⟨rfl, hb2⟩
    have HB2 := Lib.hid (HB1.out.trans (hb2.mono hz1)); clear hb2
    have hz2 := HB2.out.size
    go_wp2_with fail
    refine (specPP_any s _ h9).mono ?_
    rw [HD.out]
    rintro e w3 ⟨rfl, hb3⟩
    have t3 : Two w3 w2.heap.size 29 (.string u) (.string d) := (hb3.block w2.heap.size (by simp)).trans (Two.new w2 _ _ _)
    have hz3 := t3.lt
    have HB3 := Lib.hid ((HB2.out.alloc (by omega) _).trans (hb3.mono (by simp; omega))); clear hb3
    have HTA := Lib.hid (t3.alloc (.cells #[.string u, .string d] 29)); clear t3
    have HTN := Lib.hid (Two.new w3 29 (.string u) (.string d))
    have HB4 := Lib.hid (HB3.out.alloc (by omega) (.cells #[.string u, .string d] 29))
    have c0 := HTA.out.c0
    have c1 := HTA.out.c1
    have n0 := HTN.out.c0
    have n1 := HTN.out.c1
    rcases path_text HD.out with ⟨h1, h2, h3⟩ | ⟨h1, h2, h3, h4⟩
    · subst h1 h2 h3
      go_wp2_with fail
      go_ret
      exact ⟨rfl, HB4.out⟩
    · have hL : (s.toList == [60, 62]) = false := by
        rw [beq_eq_false_iff_ne]; intro e; rw [ByteArray.toList_eq] at e; exact h1 (bl_inj (s := s) (t := ⟨#[60, 62]⟩) e)
      have HT := Lib.hid (show (⟨#[60]⟩ ++ adText u d ++ ⟨#[62]⟩ : ByteArray) = s by unfold adText; rw [h2, h3]; exact h4.symm)
      have hsz : u.size ≤ 60 ∧ d.size ≤ 60 := by
        have := congrArg ByteArray.size h4
        simp [size_mk] at this
        omega
      clear h1 h2 h3 h4
      go_wp2_with fail
      refine (implAT_any u d _ (by omega) (by omega)).mono ?_
      rintro e w5 ⟨rfl, hb5⟩
      have HB5 := Lib.hid (HB4.out.trans (hb5.mono (by simp; omega))); clear hb5
      have hTz : (adText u d).size ≤ 60 := by
        have := congrArg ByteArray.size HT.out
        simp [size_mk] at this
        omega
      generalize adText u d = T at *
      have hq : (s.toList == (⟨#[60]⟩ ++ T ++ ⟨#[62]⟩ : ByteArray).toList) = true := by rw [HT.out]; simp
      go_wp2_with fail
      go_ret
      exact ⟨rfl, HB5.out⟩

set_option maxHeartbeats 1000000 in
theorem exactPP_walk (s : ByteArray) (h : s.size ≤ maxLen) (w : World) :
    Calls Try.prog 13 #[.string s] w fun e w' => e = .returned (.bool true) ∧ Below w.heap.size w w' := by
  unfold maxLen at h
  by_cases hb : (1048576 : Int) < (s.size : Int)
  · go_enter Try.func13, Try.ntmps13
    go_wp2_with fail
    go_ret
    exact ⟨rfl, Below.refl _ _⟩
  · go_enter Try.func13, Try.ntmps13
    go_wp2_with fail
    refine (specPP_any s _ (by omega)).mono ?_
    intro e w1 hp1
    cases hd : pathS s with
    | none =>
      rw [hd] at hp1
      obtain ⟨rfl, hb1⟩ := hp1
      have HB1 := Lib.hid hb1; clear hb1
      have HI := Lib.hid ((path_eq s).trans hd); clear hd
      go_wp2_with fail
      refine (implPP_any s _ (by omega)).mono ?_
      rw [HI.out]
      rintro e w2 ⟨rfl, hb2⟩
      have t2 : Two w2 w1.heap.size 29 (.string ⟨#[]⟩) (.string ⟨#[]⟩) := (hb2.block w1.heap.size (by simp)).trans (Two.new w1 _ _ _)
      have hz2 := t2.lt
      have hz1 := HB1.out.size
      have HB2 := Lib.hid ((HB1.out.alloc (by omega) _).trans (hb2.mono (by simp; omega))); clear hb2
      have c0 := t2.c0
      have c1 := t2.c1
      clear t2
      go_wp2_with fail
      refine (eqAd_any _ _ _).mono ?_
      rintro e w3 ⟨rfl, hb3⟩
      have HB3 := Lib.hid ((HB2.out.alloc (by omega) _).trans (hb3.mono (by simp; omega))); clear hb3
      go_wp2_with fail
      go_ret
      exact ⟨rfl, HB3.out⟩
    | some ud =>
      obtain ⟨u, d⟩ := ud
      rw [hd] at hp1
      obtain ⟨rfl, hb1⟩ := hp1
      have HB1 := Lib.hid hb1; clear hb1
      have HI := Lib.hid ((path_eq s).trans hd); clear hd
      go_wp2_with fail
      refine (implPP_any s _ (by omega)).mono ?_
      rw [HI.out]
      rintro e w2 ⟨rfl, hb2⟩
      have t2 : Two w2 w1.heap.size 29 (.string u) (.string d) := (hb2.block w1.heap.size (by simp)).trans (Two.new w1 _ _ _)
      have hz2 := t2.lt
      have hz1 := HB1.out.size
      have HB2 := Lib.hid ((HB1.out.alloc (by omega) _).trans (hb2.mono (by simp; omega))); clear hb2
      have c0 := t2.c0
      have c1 := t2.c1
      clear t2
      go_wp2_with fail
      refine (eqAd_any _ _ _).mono ?_
      rintro e w3 ⟨rfl, hb3⟩
      have HB3 := Lib.hid ((HB2.out.alloc (by omega) _).trans (hb3.mono (by simp; omega))); clear hb3
      go_wp2_with fail
      go_ret
      exact ⟨rfl, HB3.out⟩

end Go.Proofs.Ytbafeponkpaenaa
