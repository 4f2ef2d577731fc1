/- The walks of the laws FnNumbers, FnNumbersSwap. -/
import Derived.Test.YthabmjadfomnkaaLNum2
import Derived.Deep.RegionLaw
import Derived.Deep.AppendLies
namespace Go.Proofs.Ythabmjadfomnkaa
open Go.RowKit
set_option linter.unusedVariables false


set_option maxHeartbeats 4000000 in
theorem numbersSwap_walk (a : Option Addr) (len cap : Nat) (zs : List Int) (w : World) (h : IsRow w a len cap zs) :
    Calls Try.prog 9 #[.slice a len cap] w fun e w' => e = .returned (.bool true) ∧ Below w.heap.size w w' := by
  obtain ⟨i0, hi0, hz0, hz1, hz2⟩ := info_parts infoSpan
  by_cases hb : (1048576 : Int) < (len : Int)
  · go_enter Try.func9, Try.ntmps9
    go_wp2_with fail
    go_ret
    exact ⟨rfl, Below.refl _ _⟩
  have H := Lib.hid h; clear h
  go_enter Try.func9, Try.ntmps9
  go_wp2_with fail
  refine (drawSetNumbers_any a len cap zs _ H.out).mono ?_
  rintro e w1 ⟨v, xs, last, hxs, hl1, hl2, rfl, hv, hb1⟩
  have HXS := Lib.hid hxs; clear hxs
  have HV1 := Lib.hid hv; clear hv
  have HB1 := Lib.hid hb1; clear hb1
  have hs1 := HB1.out.size
  go_wp2_with fail
  refine (implSN_any v xs last _ HV1.out).mono ?_
  rintro e w2 ⟨vo, rfl, ho2, hb2⟩
  have HV2 := Lib.hid (HV1.out.below hb2)
  have HI2 := Lib.hid (intsAt_of ho2); clear ho2
  have HB2 := Lib.hid (HB1.out.trans (hb2.mono hs1)); clear hb2
  have hs2 := HB2.out.size
  go_wp2_with fail
  refine (specSN_any v xs last _ HV2.out).mono ?_
  rintro e w3 ⟨vw, rfl, ho3, hb3⟩
  have HV3 := Lib.hid (HV2.out.below hb3)
  have HI3 := Lib.hid (HI2.out.below hb3)
  have HJ3 := Lib.hid (intsAt_of ho3); clear ho3
  have HB3 := Lib.hid (HB2.out.trans (hb3.mono hs2)); clear hb3
  have hs3 := HB3.out.size
  go_wp2_with fail
  refine (sameInts_any vo vw _ _ HI3.out HJ3.out).mono ?_
  rintro e w4 ⟨rfl, hb4⟩
  have HV4 := Lib.hid (HV3.out.below hb4)
  have HI4 := Lib.hid (HI3.out.below hb4)
  have HB4 := Lib.hid (HB3.out.trans (hb4.mono hs3)); clear hb4
  have hs4 := HB4.out.size
  obtain ⟨av, capv, rfl, hlc, hcm, hrow⟩ := id HV4.out
  have HROW := Lib.hid hrow; clear hrow
  unfold maxLen at hcm
  have h8 := HXS.out.1
  go_wp2_with fail
  go_loopg [7, 8] xs.length (fun k vx iv wr => ∃ (j : Nat) (ys : List Sp), j ≤ xs.length ∧ k = xs.length - j ∧ iv = .int .i64 j ∧ ys = (xs.take j).map swapSp ∧ wr.ownsRow w4.heap.size 32 2 vx ys.length (spCells ys) ∧ Below w4.heap.size w4 wr)
  case atStart => exact ⟨0, [], Nat.zero_le _, rfl, rfl, rfl, World.ownsRow_lit _ #[] 0 (Nat.le_refl _) (Nat.zero_le _) rfl, (Below.refl _ _).alloc (Nat.le_refl _) _⟩
  case round =>
    obtain ⟨j, ys, hj, hk, rfl, hys, hown, hbw⟩ := hrel
    have HYS := Lib.hid hys
    have hdl : ys.length ≤ 8 := by rw [hys]; simp; omega
    clear hys
    have HK := Lib.hid hk; clear hk
    have hzw := hbw.size
    have HBW := Lib.hid hbw; clear hbw
    have HOW := Lib.hid hown; clear hown
    by_cases hlt : j < xs.length
    · have hi : (j : Int) < (xs.length : Int) := by omega
      have hne : xs ≠ [] := by rintro rfl; simp at hlt
      obtain ⟨g, off, rfl, hg, hcell⟩ := HROW.out.resolve_left hne
      have c0 := (HBW.out.cell (p := ⟨g, off + j * 2, none⟩) hg).trans (hcell j hlt).1
      have c1 := (HBW.out.cell (p := ⟨g, off + j * 2 + 1, none⟩) hg).trans (hcell j hlt).2
      clear hcell hne
      have HDR := Lib.hid (show (xs.take (j + 1)).map swapSp = (xs.take j).map swapSp ++ [swapSp xs[j]] by rw [List.take_succ_eq_append_getElem hlt, List.map_append]; rfl)
      generalize xs[j] = x at c0 c1 HDR
      obtain ⟨x1, x2⟩ := x
      simp only at c0 c1
      go_wp2_with fail
      go_region_law (refine step_append_lies _ rfl (.tmp 37) (.tmp 49) 25 rfl w4.heap.size 32 i0 (.agg #[.int .i64 0, .int .i64 0]) 2 16 Try.underlying25 hi0 hz0 hz1 hz2 rfl (by decide) _ _ _ rfl ((HOW.out.alloc _).drew) ⟨wr.heap.size, 0, none⟩ 1 1 [.int .i64 x2, .int .i64 x1] rfl rfl (fun j u h => cell_two_new wr _ _ _ j u h) (by simp [Value.oneCell']) (by omega) (by unfold maxLen; omega) (by omega) (by rw [sz_ad']; omega) _ rfl ?_; intro g5 cap5 w5 hown5 hgrow5 hwho5 hlt5)
      all_goals
        have HB5 := Lib.hid ((Below.drew1 (HBW.out.alloc hzw _)).grown hgrow5 (by rw [sz_ad']; omega) (fun k e => (HOW.out.lt k e).1)); clear hgrow5
        have HO5 := Lib.hid hown5; clear hown5 hwho5
        go_wp2_with fail
        go_roundg (xs.length - (j + 1))
        case measure => rw [HK.out]; omega
        case rel => exact ⟨j + 1, ys ++ [(x2, x1)], by omega, rfl, by go_num, by rw [HDR.out, HYS.out]; rfl, by rw [spCells_snoc]; simpa using HO5.out, HB5.out⟩
    · obtain rfl : j = xs.length := by omega
      have hi : ¬ (xs.length : Int) < (xs.length : Int) := by omega
      have HVX := Lib.hid (show SpansAt wr u7 (xs.map swapSp) by have := spansAt_of HOW.out; rwa [HYS.out, List.take_length] at this)
      have HI5 := Lib.hid (HI4.out.below HBW.out)
      have HB5 := Lib.hid (HB4.out.trans (HBW.out.mono hs4))
      go_wp2_with fail
      refine (implSN_any u7 (xs.map swapSp) last _ HVX.out).mono ?_
      rw [nums_swap]
      rintro e w8 ⟨vx, rfl, ho8, hb8⟩
      have HI8 := Lib.hid (HI5.out.below hb8)
      have HJ8 := Lib.hid (intsAt_of ho8); clear ho8
      have hs7 := HB5.out.size
      have HB8 := Lib.hid (HB5.out.trans (hb8.mono hs7)); clear hb8
      have hs8 := HB8.out.size
      go_wp2_with fail
      refine (sameInts_any _ _ _ _ HJ8.out HI8.out).mono ?_
      rintro e w9 ⟨rfl, hb9⟩
      have HB9 := Lib.hid (HB8.out.trans (hb9.mono hs8)); clear hb9
      go_wp2_with fail
      go_ret
      exact ⟨rfl, HB9.out⟩

set_option maxHeartbeats 4000000 in
theorem numbers_walk (a : Option Addr) (len cap : Nat) (zs : List Int) (w : World) (h : IsRow w a len cap zs) :
    Calls Try.prog 6 #[.slice a len cap] w fun e w' => e = .returned (.bool true) ∧ Below w.heap.size w w' := by
  obtain ⟨i0, hi0, hz0, hz1, hz2⟩ := info_parts infoSpan
  by_cases hb : (1048576 : Int) < (len : Int)
  · go_enter Try.func6, Try.ntmps6
    go_wp2_with fail
    go_ret
    exact ⟨rfl, Below.refl _ _⟩
  have H := Lib.hid h; clear h
  go_enter Try.func6, Try.ntmps6
  go_wp2_with fail
  refine (drawSetNumbers_any a len cap zs _ H.out).mono ?_
  rintro e w1 ⟨v, xs, last, hxs, hl1, hl2, rfl, hv, hb1⟩
  have HXS := Lib.hid hxs; clear hxs
  have HV1 := Lib.hid hv; clear hv
  have HB1 := Lib.hid hb1; clear hb1
  have hs1 := HB1.out.size
  go_wp2_with fail
  refine (implSN_any v xs last _ HV1.out).mono ?_
  rintro e w2 ⟨vo, rfl, ho2, hb2⟩
  have HV2 := Lib.hid (HV1.out.below hb2)
  have HI2 := Lib.hid (intsAt_of ho2); clear ho2
  have HB2 := Lib.hid (HB1.out.trans (hb2.mono hs1)); clear hb2
  have hs2 := HB2.out.size
  go_wp2_with fail
  refine (specSN_any v xs last _ HV2.out).mono ?_
  rintro e w3 ⟨vw, rfl, ho3, hb3⟩
  have HV3 := Lib.hid (HV2.out.below hb3)
  have HI3 := Lib.hid (HI2.out.below hb3)
  have HJ3 := Lib.hid (intsAt_of ho3); clear ho3
  have HB3 := Lib.hid (HB2.out.trans (hb3.mono hs2)); clear hb3
  have hs3 := HB3.out.size
  go_wp2_with fail
  refine (sameInts_any vo vw _ _ HI3.out HJ3.out).mono ?_
  rintro e w4 ⟨rfl, hb4⟩
  have HV4 := Lib.hid (HV3.out.below hb4)
  have HI4 := Lib.hid (HI3.out.below hb4)
  have HB4 := Lib.hid (HB3.out.trans (hb4.mono hs3)); clear hb4
  have hs4 := HB4.out.size
  obtain ⟨ao, capo, rfl, hlo, hco, hrowo⟩ := id HI4.out
  have HROW := Lib.hid hrowo; clear hrowo
  have HMEM := Lib.hid (fun n => (numsL_mem xs last n).1)
  have HPW := Lib.hid (numsL_pw xs last)
  have hn99 := numsL_len xs last
  generalize numsL xs last = ns at *
  unfold maxLen at hco
  go_wp2_with fail
  go_loopg [7] ns.length (fun k iv wr => ∃ j : Nat, j ≤ ns.length ∧ k = ns.length - j ∧ iv = .int .i64 j ∧ Below w4.heap.size w4 wr)
  case atStart => exact ⟨0, Nat.zero_le _, rfl, rfl, Below.refl _ _⟩
  case round =>
    obtain ⟨j, hj, hk, rfl, hbw⟩ := hrel
    have HK := Lib.hid hk; clear hk
    have hzw := hbw.size
    have HBW := Lib.hid hbw; clear hbw
    by_cases hlt : j < ns.length
    · have hi : (j : Int) < (ns.length : Int) := by omega
      have hne : ns ≠ [] := by rintro rfl; simp at hlt
      obtain ⟨g, rfl, hg, hcell⟩ := HROW.out.resolve_left hne
      clear hne
      have c0 := (HBW.out.cell (p := ⟨g, j, none⟩) hg).trans (hcell j hlt)
      obtain ⟨_, hx1, hx2, hx3, _⟩ := HMEM.out ns[j] (List.getElem_mem _)
      have d1 : decide (ns[j] < 1) = false := by simp; omega
      have d2 : decide (last < ns[j]) = false := by simp; omega
      have d3 : decide ((99 : Int) < ns[j]) = false := by simp; omega
      by_cases hj0 : 0 < j
      · have c1 := (HBW.out.cell (p := ⟨g, j - 1, none⟩) hg).trans (hcell (j - 1) (by omega))
        have hpw : ns[j - 1] < ns[j] := List.pairwise_iff_getElem.1 HPW.out (j - 1) j (by omega) hlt (by omega)
        clear hcell
        have dj : decide ((0 : Int) < (j : Int)) = true := by simp; omega
        have dj' : (0 : Int) < (j : Int) := by omega
        have d4 : decide (ns[j] ≤ ns[j - 1]) = false := by simp; omega
        generalize ns[j] = x at *
        generalize ns[j - 1] = y at *
        have hj1 : (0 : Int) ≤ (j : Int) - 1 := by omega
        have hj2 : (j : Int) - 1 < (ns.length : Int) := by omega
        have hj3 : (1 : Int) ≤ (j : Int) := by omega
        have hj4 : ((j : Int) - 1).toNat = j - 1 := by omega
        go_wp2_with fail
        go_quiet (fail)
        go_wp2_with fail
        go_roundg (ns.length - (j + 1))
        case measure => rw [HK.out]; omega
        case rel => exact ⟨j + 1, by omega, rfl, by go_num, Below.drewN' HBW.out nq⟩
      · obtain rfl : j = 0 := by omega
        clear hcell
        have dj : decide ((0 : Int) < ((0 : Nat) : Int)) = false := rfl
        generalize ns[0] = x at *
        go_wp2_with fail
        go_quiet (fail)
        go_wp2_with fail
        go_roundg (ns.length - (0 + 1))
        case measure => rw [HK.out]; omega
        case rel => exact ⟨1, by omega, rfl, by go_num, Below.drewN' HBW.out nq⟩
    · have hi : ¬ (j : Int) < (ns.length : Int) := by omega
      go_wp2_with fail
      go_ret
      exact ⟨rfl, HB4.out.trans (HBW.out.mono hs4)⟩

end Go.Proofs.Ythabmjadfomnkaa
