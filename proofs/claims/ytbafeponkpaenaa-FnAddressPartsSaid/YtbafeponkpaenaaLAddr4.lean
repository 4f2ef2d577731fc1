/- The walk of the law FnAddressParts. -/
import Derived.Test.YtbafeponkpaenaaLAddr3
namespace Go.Proofs.Ytbafeponkpaenaa
open Go.RowKit
set_option linter.unusedVariables false

theorem befB_self {s : ByteArray} (h : befB s 64 = s) : cutL 64 (bl s) = [bl s] := by
  have hc := cut_list s 64
  unfold befB at h
  rcases cut_first 64 (bl s) with ⟨_, h2⟩ | ⟨p, r, hp, _, h2⟩
  · exact h2
  · exfalso
    cases hcc : cut s 64 0 0 with
    | nil => rw [hcc, h2] at hc; simp at hc
    | cons x l =>
      rw [hcc, h2] at hc
      rw [hcc] at h
      simp only [List.map_cons, List.cons.injEq] at hc
      simp only [List.headD_cons] at h
      subst h
      have := congrArg List.length hp
      rw [hc.1] at this
      simp at this
theorem befB_size (s : ByteArray) : (befB s 64).size ≤ s.size := by
  have hz := cut_sizes s 64 0 0
  unfold befB
  cases hc : cut s 64 0 0 with
  | nil => simp [size_mk]
  | cons x l => rw [hc] at hz; exact hz x (by simp)
theorem toList_ne {x y : ByteArray} (h : x ≠ y) : (x.toList == y.toList) = false := by
  rw [beq_eq_false_iff_ne]; intro e; rw [ByteArray.toList_eq, ByteArray.toList_eq] at e; exact h (bl_inj e)

set_option maxHeartbeats 2000000 in
theorem addressParts_walk (a : Option Addr) (len cap : Nat) (zs : List Int) (w : World) (h : IsRow w a len cap zs) :
    Calls Try.prog 15 #[.slice a len cap] w fun e w' => e = .returned (.bool true) ∧ Below w.heap.size w w' := by
  by_cases hb : (1048576 : Int) < (len : Int)
  · go_enter Try.func15, Try.ntmps15
    go_wp2_with fail
    go_ret
    exact ⟨rfl, Below.refl _ _⟩
  have H := Lib.hid h; clear h
  go_enter Try.func15, Try.ntmps15
  go_wp2_with fail
  refine (drawAddressText_any a len cap zs _ H.out).mono ?_
  rintro e w1 ⟨u, d, hu, hd, rfl, hb1⟩
  have hz1 := hb1.size
  have HB1 := Lib.hid (hb1.alloc hb1.size (.cells #[.string u, .string d] 29)); clear hb1
  have HT1 := Lib.hid (Two.new w1 29 (.string u) (.string d))
  have c0 := HT1.out.c0
  have c1 := HT1.out.c1
  go_wp2_with fail
  refine (implAT_any u d _ (by omega) (by omega)).mono ?_
  rintro e w2 ⟨rfl, hb2⟩
  have HT2 := Lib.hid (show Two w2 w1.heap.size 29 (.string u) (.string d) from (hb2.block w1.heap.size (by simp)).trans HT1.out)
  have HB2 := Lib.hid (HB1.out.trans (hb2.mono (by simp; omega))); clear hb2
  have hz2 := HT2.out.lt
  clear c0 c1
  have c0 := HT2.out.c0
  have c1 := HT2.out.c1
  go_wp2_with fail
  refine (specAT_any u d _ (by omega) (by omega)).mono ?_
  rintro e w3 ⟨rfl, hb3⟩
  have HT3 := Lib.hid (show Two w3 w1.heap.size 29 (.string u) (.string d) from (hb3.block w1.heap.size (by omega)).trans HT2.out)
  have HB3 := Lib.hid (HB2.out.trans (hb3.mono (by omega))); clear hb3
  have hz3 := HT3.out.lt
  clear c0 c1
  have c0 := HT3.out.c0
  have c1 := HT3.out.c1
  have HP := Lib.hid (addrS_parts u d)
  generalize adText u d = T at *
  by_cases e1 : befB u 64 = u
  · have HC1 := Lib.hid (befB_self e1)
    have q1 : ((befB u 64).toList == u.toList) = true := by rw [e1]; simp
    clear e1
    by_cases e2 : befB d 64 = d
    · have HC2 := Lib.hid (befB_self e2)
      have q2 : ((befB d 64).toList == d.toList) = true := by rw [e2]; simp
      clear e2
      have HQ := Lib.hid (HP.out HC1.out HC2.out)
      go_wp2_with fail
      go_quiet ((go_at_call 26; exact quiet_left (before_any _ 64 _ (by omega))))
      have hxz : (u ++ ⟨#[64]⟩ ++ d).size ≤ 60 := by simp [size_mk]; omega
      have k0 := (HT3.out.drewN nq).c0
      have k1 := (HT3.out.drewN nq).c1
      go_wp2_with fail
      refine (implAP_any _ _ (by omega)).mono ?_
      rw [addr_eq]
      intro e w4 hp4
      have HS : Hid ((addrS (u ++ ⟨#[64]⟩ ++ d)).isSome = (nameB u && domB d)) := HQ.out
      obtain ⟨x, y, hp5⟩ : ∃ x y : ByteArray, e = .returned (.tuple #[.agg #[.string x, .string y], .bool (nameB u && domB d)]) ∧ Below (w3.drewN nq).heap.size (w3.drewN nq) w4 := by
        cases hs : addrS (u ++ ⟨#[64]⟩ ++ d) with
        | none => rw [hs] at hp4; have := HS.out; rw [hs] at this; rw [← this]; exact ⟨_, _, hp4.1, hp4.2⟩
        | some xy => obtain ⟨x, y⟩ := xy; rw [hs] at hp4; have := HS.out; rw [hs] at this; rw [← this]; exact ⟨_, _, hp4.1, hp4.2⟩
      clear hp4
      obtain ⟨rfl, hb4⟩ := hp5
      have t4 : Two w4 w1.heap.size 29 (.string u) (.string d) := (hb4.block w1.heap.size (by rw [(drewN_heap w3 nq).1]; omega)).trans (HT3.out.drewN nq)
      have HB4 := Lib.hid ((Below.drewN' HB3.out nq).trans (hb4.mono (by rw [(drewN_heap w3 nq).1]; omega))); clear hb4
      have hz4 := t4.lt
      have HT4 := Lib.hid (t4.alloc (.cells #[.string x, .string y] 29))
      have HB5 := Lib.hid (HB4.out.alloc (by omega) (.cells #[.string x, .string y] 29))
      clear t4 c0 c1 k0 k1
      have c0 := HT4.out.c0
      have c1 := HT4.out.c1
      cases hv : nameB u
      · have HV := Lib.hid hv; clear hv
        go_wp2_with fail
        refine (implName_any u _ (by omega)).mono ?_
        rw [HV.out]
        rintro e w5 ⟨rfl, hb5⟩
        have HB6 := Lib.hid (HB5.out.trans (hb5.mono (by simp; omega))); clear hb5
        go_wp2_with fail
        go_ret
        exact ⟨rfl, HB6.out⟩
      · have HV := Lib.hid hv; clear hv
        go_wp2_with fail
        refine (implName_any u _ (by omega)).mono ?_
        rw [HV.out]
        rintro e w5 ⟨rfl, hb5⟩
        have t5 : Two w5 w1.heap.size 29 (.string u) (.string d) := (hb5.block w1.heap.size (by simp; omega)).trans HT4.out
        have HB6 := Lib.hid (HB5.out.trans (hb5.mono (by simp; omega))); clear hb5
        have hz5 := t5.lt
        clear c0 c1
        have c0 := t5.c0
        have c1 := t5.c1
        clear t5
        go_wp2_with fail
        refine (implDom_any d _ (by omega)).mono ?_
        rintro e w6 ⟨rfl, hb6⟩
        have HB7 := Lib.hid (HB6.out.trans (hb6.mono (by omega))); clear hb6
        go_wp2_with fail
        go_ret
        exact ⟨by simp, HB7.out⟩
    · have q2 := toList_ne e2
      clear e2
      go_wp2_with fail
      go_quiet ((go_at_call 26; exact quiet_left (before_any _ 64 _ (by omega))))
      go_wp2_with fail
      go_ret
      exact ⟨rfl, Below.drewN' HB3.out nq⟩
  · have q1 := toList_ne e1
    clear e1
    go_wp2_with fail
    go_quiet ((go_at_call 26; exact quiet_left (before_any _ 64 _ (by omega))))
    go_wp2_with fail
    go_ret
    exact ⟨rfl, Below.drewN' HB3.out nq⟩

end Go.Proofs.Ytbafeponkpaenaa
