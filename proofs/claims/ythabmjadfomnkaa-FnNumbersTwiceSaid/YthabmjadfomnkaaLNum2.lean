/- The walks of laws on the numbers of sets. -/
import Derived.Test.YthabmjadfomnkaaLNum
namespace Go.Proofs.Ythabmjadfomnkaa
open Go.RowKit
set_option linter.unusedVariables false

theorem spansAt_one (w : World) (x y : Int) : SpansAt (w.alloc (.cells #[.int .i64 x, .int .i64 y] 32)) (.slice (some ⟨w.heap.size, 0, none⟩) 1 1) [(x, y)] := by
  refine ⟨_, 1, rfl, Nat.le_refl _, by unfold maxLen; omega, .inr ⟨w.heap.size, 0, rfl, by simp, fun i hi => ?_⟩⟩
  have h := Two.new w 32 (.int .i64 x) (.int .i64 y)
  simp only [List.length_cons, List.length_nil] at hi
  obtain rfl : i = 0 := by omega
  exact ⟨h.c0, h.c1⟩
theorem spansAt_grown {w w' : World} {v : Value} {xs : List Sp} {row : Option Nat} (h : SpansAt w v xs) (hg : w.grownBy w' row) (hr : ∀ k, row = some k → v.ownBlock ≠ some k) : SpansAt w' v xs := by
  obtain ⟨a, cap, rfl, h1, h2, h3⟩ := h
  refine ⟨a, cap, rfl, h1, h2, h3.imp id ?_⟩
  rintro ⟨g, off, rfl, hlt, hc⟩
  have hne : some g ≠ row := fun e => hr g e.symm rfl
  exact ⟨g, off, rfl, Nat.lt_of_lt_of_le hlt hg.size, fun i hi => ⟨World.grownBy.cell hg (hc i hi).1 hne, World.grownBy.cell hg (hc i hi).2 hne⟩⟩

set_option maxHeartbeats 4000000 in
theorem numbersOrder_walk (a : Option Addr) (len cap : Nat) (zs : List Int) (w : World) (h : IsRow w a len cap zs) :
    Calls Try.prog 7 #[.slice a len cap] w fun e w' => e = .returned (.bool true) ∧ Below w.heap.size w w' := by
  obtain ⟨i0, hi0, hz0, hz1, hz2⟩ := info_parts infoSpan
  by_cases hb : (1048576 : Int) < (len : Int)
  · go_enter Try.func7, Try.ntmps7
    go_wp2_with fail
    go_ret
    exact ⟨rfl, Below.refl _ _⟩
  have H := Lib.hid h; clear h
  go_enter Try.func7, Try.ntmps7
  go_wp2_with fail
  refine (drawSetNumbers_any a len cap zs _ H.out).mono ?_
  rintro e w1 ⟨v, xs, last, hxs, hl1, hl2, rfl, hv, hb1⟩
  have HXS := Lib.hid hxs; clear hxs
  have HV1 := Lib.hid hv; clear hv
  have HB1 := Lib.hid hb1; clear hb1
  have hs1 := HB1.out.size
  go_wp2_with fail
  refine (implSN_any v xs last _ HV1.out).mono ?_
  rintro e w2 ⟨vo, rfl, ho2, hb2⟩
  have HV2 := Lib.hid (HV1.out.below hb2)
  have HI2 := Lib.hid (intsAt_of ho2); clear ho2
  have HB2 := Lib.hid (HB1.out.trans (hb2.mono hs1)); clear hb2
  have hs2 := HB2.out.size
  go_wp2_with fail
  refine (specSN_any v xs last _ HV2.out).mono ?_
  rintro e w3 ⟨vw, rfl, ho3, hb3⟩
  have HV3 := Lib.hid (HV2.out.below hb3)
  have HI3 := Lib.hid (HI2.out.below hb3)
  have HJ3 := Lib.hid (intsAt_of ho3); clear ho3
  have HB3 := Lib.hid (HB2.out.trans (hb3.mono hs2)); clear hb3
  have hs3 := HB3.out.size
  go_wp2_with fail
  refine (sameInts_any vo vw _ _ HI3.out HJ3.out).mono ?_
  rintro e w4 ⟨rfl, hb4⟩
  have HV4 := Lib.hid (HV3.out.below hb4)
  have HI4 := Lib.hid (HI3.out.below hb4)
  have HB4 := Lib.hid (HB3.out.trans (hb4.mono hs3)); clear hb4
  have hs4 := HB4.out.size
  obtain ⟨av, capv, rfl, hlc, hcm, hrow⟩ := id HV4.out
  have HROW := Lib.hid hrow; clear hrow
  unfold maxLen at hcm
  have h8 := HXS.out.1
  go_wp2_with fail
  go_loopg [7, 8] xs.length (fun k vx iv wr => ∃ j : Nat, j ≤ xs.length ∧ k = j ∧ iv = .int .i64 ((j : Int) - 1) ∧ wr.ownsRow w4.heap.size 32 2 vx (xs.drop j).reverse.length (spCells (xs.drop j).reverse) ∧ Below w4.heap.size w4 wr)
  case atStart => exact ⟨xs.length, Nat.le_refl _, rfl, rfl, by rw [List.drop_length]; exact World.ownsRow_lit _ #[] 0 (Nat.le_refl _) (Nat.zero_le _) rfl, (Below.refl _ _).alloc (Nat.le_refl _) _⟩
  case round =>
    obtain ⟨j, hj, hk, rfl, hown, hbw⟩ := hrel
    have HK := Lib.hid hk; clear hk
    have hzw := hbw.size
    have HBW := Lib.hid hbw; clear hbw
    have HOW := Lib.hid hown; clear hown
    have hdl : (xs.drop j).reverse.length ≤ 8 := by simp; omega
    by_cases hlt : 1 ≤ j
    · have hi : (0 : Int) ≤ (j : Int) - 1 := by omega
      have hi' : (1 : Int) ≤ (j : Int) := by omega
      obtain ⟨q, rfl⟩ : ∃ q, j = q + 1 := ⟨j - 1, by omega⟩
      have hql : q < xs.length := by omega
      have hn1 : (((q + 1 : Nat) : Int) - 1) = (q : Int) := by omega
      rw [hn1]
      have hn2 : (0 : Int) ≤ (q : Int) := by omega
      have hn3 : (q : Int) < (xs.length : Int) := by omega
      have hne : xs ≠ [] := by rintro rfl; simp at hql
      obtain ⟨g, off, rfl, hg, hcell⟩ := HROW.out.resolve_left hne
      have c0 := (HBW.out.cell (p := ⟨g, off + q * 2, none⟩) hg).trans (hcell q hql).1
      have c1 := (HBW.out.cell (p := ⟨g, off + q * 2 + 1, none⟩) hg).trans (hcell q hql).2
      clear hcell hne hn1 hi hi'
      have HDR := Lib.hid (show (xs.drop q).reverse = (xs.drop (q + 1)).reverse ++ [xs[q]] by rw [List.drop_eq_getElem_cons hql]; simp)
      generalize xs[q] = x at c0 c1 HDR
      obtain ⟨x1, x2⟩ := x
      simp only at c0 c1
      go_wp2_with (at_builtin; refine wpList_append_own _ rfl _ _ 25 rfl w4.heap.size 32 i0 (.agg #[.int .i64 0, .int .i64 0]) 2 16 Try.underlying25 hi0 hz0 hz1 hz2 rfl (by decide) _ _ _ rfl (HOW.out.alloc _) ⟨wr.heap.size, 0, none⟩ 1 1 [.int .i64 x1, .int .i64 x2] rfl rfl (cell_two_new _ _ _ _) (by simp [Value.oneCell']) (by unfold maxLen; omega) (by omega) (by simp; omega) ?_; intro v' w5 hown' hgrow _)
      have HB5 := Lib.hid ((HBW.out.alloc hzw _).grown hgrow (by simp; omega) (fun k e => (HOW.out.lt k e).1)); clear hgrow
      have HO5 := Lib.hid hown'; clear hown'
      go_wp2_with fail
      go_roundg q
      case measure => rw [HK.out]; omega
      case rel => exact ⟨q, by omega, rfl, by go_num, by rw [HDR.out, spCells_snoc]; simpa using HO5.out, HB5.out⟩
    · obtain rfl : j = 0 := by omega
      have HVX := Lib.hid (show SpansAt wr u7 xs.reverse by have := spansAt_of HOW.out; rwa [List.drop_zero] at this)
      have HI5 := Lib.hid (HI4.out.below HBW.out)
      have HB5 := Lib.hid (HB4.out.trans (HBW.out.mono hs4))
      go_wp2_with fail
      refine (implSN_any u7 xs.reverse last _ HVX.out).mono ?_
      rw [nums_order]
      rintro e w8 ⟨vx, rfl, ho8, hb8⟩
      have HI8 := Lib.hid (HI5.out.below hb8)
      have HJ8 := Lib.hid (intsAt_of ho8); clear ho8
      have hs7 := HB5.out.size
      have HB8 := Lib.hid (HB5.out.trans (hb8.mono hs7)); clear hb8
      have hs8 := HB8.out.size
      go_wp2_with fail
      refine (sameInts_any _ _ _ _ HJ8.out HI8.out).mono ?_
      rintro e w9 ⟨rfl, hb9⟩
      have HB9 := Lib.hid (HB8.out.trans (hb9.mono hs8)); clear hb9
      go_wp2_with fail
      go_ret
      exact ⟨rfl, HB9.out⟩

set_option maxHeartbeats 4000000 in
theorem numbersStar_walk (a : Option Addr) (len cap : Nat) (zs : List Int) (w : World) (h : IsRow w a len cap zs) :
    Calls Try.prog 8 #[.slice a len cap] w fun e w' => e = .returned (.bool true) ∧ Below w.heap.size w w' := by
  obtain ⟨i0, hi0, hz0, hz1, hz2⟩ := info_parts infoSpan
  by_cases hb : (1048576 : Int) < (len : Int)
  · go_enter Try.func8, Try.ntmps8
    go_wp2_with fail
    go_ret
    exact ⟨rfl, Below.refl _ _⟩
  have H := Lib.hid h; clear h
  go_enter Try.func8, Try.ntmps8
  go_wp2_with fail
  refine (drawSetNumbers_any a len cap zs _ H.out).mono ?_
  rintro e w1 ⟨v, xs, last, hxs, hl1, hl2, rfl, hv, hb1⟩
  have HXS := Lib.hid hxs; clear hxs
  have HV1 := Lib.hid hv; clear hv
  have HB1 := Lib.hid hb1; clear hb1
  have hs1 := HB1.out.size
  go_wp2_with fail
  refine (implSN_any v xs last _ HV1.out).mono ?_
  rintro e w2 ⟨vo, rfl, ho2, hb2⟩
  have HV2 := Lib.hid (HV1.out.below hb2)
  have HI2 := Lib.hid (intsAt_of ho2); clear ho2
  have HB2 := Lib.hid (HB1.out.trans (hb2.mono hs1)); clear hb2
  have hs2 := HB2.out.size
  go_wp2_with fail
  refine (specSN_any v xs last _ HV2.out).mono ?_
  rintro e w3 ⟨vw, rfl, ho3, hb3⟩
  have HV3 := Lib.hid (HV2.out.below hb3)
  have HI3 := Lib.hid (HI2.out.below hb3)
  have HJ3 := Lib.hid (intsAt_of ho3); clear ho3
  have HB3 := Lib.hid (HB2.out.trans (hb3.mono hs2)); clear hb3
  have hs3 := HB3.out.size
  go_wp2_with fail
  refine (sameInts_any vo vw _ _ HI3.out HJ3.out).mono ?_
  rintro e w4 ⟨rfl, hb4⟩
  have HV4 := Lib.hid (HV3.out.below hb4)
  have HI4 := Lib.hid (HI3.out.below hb4)
  have HB4 := Lib.hid (HB3.out.trans (hb4.mono hs3)); clear hb4
  have hs4 := HB4.out.size
  have HB5 := Lib.hid (HB4.out.alloc hs4 (.cells #[.int .i64 0, .int .i64 0] 32))
  go_wp2_with fail
  refine (implSN_any _ [(0, 0)] last _ (spansAt_one w4 0 0)).mono ?_
  rw [nums_star]
  rintro e w8 ⟨vx, rfl, ho8, hb8⟩
  have HB8 := Lib.hid (HB5.out.trans (hb8.mono (by simp; omega))); clear hb8
  obtain ⟨a8, cap8, rfl, hlc8, hcm8, hrow8⟩ := intsAt_of ho8
  clear ho8
  unfold maxLen at hcm8
  by_cases hl : 1 ≤ last
  · rw [if_pos hl] at hlc8 hrow8 ⊢
    obtain ⟨g8, rfl, hg8, hc8⟩ := hrow8.resolve_left (by simp)
    have c0 : w8.cell? ⟨g8, 0, none⟩ = some (.int .i64 (lastN last)) := hc8 0 (by simp)
    clear hc8
    have hL : (if (99 : Int) < last then 99 else last) = lastN last := by unfold lastN; split <;> omega
    have hl' : ¬ last < 1 := by omega
    generalize lastN last = L at *
    simp only [List.length_cons, List.length_nil, Nat.zero_add] at hlc8 ⊢
    go_wp2_with fail
    go_ret
    exact ⟨rfl, HB8.out⟩
  · rw [if_neg hl] at hlc8 hrow8 ⊢
    have hl' : last < 1 := by omega
    clear hrow8
    simp only [List.length_nil] at hlc8 ⊢
    go_wp2_with fail
    go_ret
    exact ⟨rfl, HB8.out⟩

set_option maxHeartbeats 1000000 in
theorem upTo_any (n : Int) (w : World) (hn : n ≤ 1000) :
    Calls Try.prog 27 #[.int .i64 n] w (GaveInts (upFrom 1 n.toNat) w) := by
  obtain ⟨i0, hi0, hz0, hz1, hz2⟩ := info_parts infoInt
  go_enter Try.func27, Try.ntmps27
  go_wp2_with fail
  go_loopg [3, 4] n.toNat (fun k v iv wr => ∃ j : Nat, j ≤ n.toNat ∧ k = n.toNat - j ∧ iv = .int .i64 ((j : Int) + 1) ∧ wr.ownsRow w.heap.size 3 1 v (upFrom 1 j).length ((upFrom 1 j).map (Value.int .i64)) ∧ Below w.heap.size w wr)
  case atStart => exact ⟨0, Nat.zero_le _, rfl, rfl, World.ownsRow_lit _ #[] 0 (Nat.le_refl _) (Nat.zero_le _) rfl, (Below.refl _ _).alloc (Nat.le_refl _) _⟩
  case round =>
    obtain ⟨j, hj, hk, rfl, hown, hbw⟩ := hrel
    have HK := Lib.hid hk; clear hk
    have hzw := hbw.size
    have HBW := Lib.hid hbw; clear hbw
    have HOW := Lib.hid hown; clear hown
    have hul := upFrom_length 1 j
    have hul2 : (upFrom 1 j).length ≤ 1000 := by omega
    clear hul
    by_cases hlt : j < n.toNat
    · have hle : (j : Int) + 1 ≤ n := by omega
      have HUS := Lib.hid (show upFrom 1 (j + 1) = upFrom 1 j ++ [(j : Int) + 1] by rw [upFrom_succ, Int.add_comm])
      go_wp2_with (at_builtin; refine wpList_append_own _ rfl _ _ 36 rfl w.heap.size 3 i0 (.int .i64 0) 1 8 Try.underlying36 hi0 hz0 hz1 hz2 rfl (by decide) _ _ _ rfl (HOW.out.alloc _) ⟨wr.heap.size, 0, none⟩ 1 1 [.int .i64 ((j : Int) + 1)] rfl rfl (cell_one_new _ _ _) (by simp [Value.oneCell']) (by unfold maxLen; omega) (by omega) (by simp; omega) ?_; intro v' w1 hown' hgrow _)
      have HO' := Lib.hid hown'; clear hown'
      have HG := Lib.hid ((HBW.out.alloc hzw _).grown hgrow (by simp; omega) (fun k e => (HOW.out.lt k e).1)); clear hgrow
      go_wp2_with fail
      go_roundg (n.toNat - (j + 1))
      case measure => rw [HK.out]; omega
      case rel => exact ⟨j + 1, by omega, rfl, by go_num, by rw [HUS.out]; simpa using HO'.out, HG.out⟩
    · have hle : ¬ (j : Int) + 1 ≤ n := by omega
      obtain rfl : j = n.toNat := by omega
      go_wp2_with fail
      go_ret
      exact ⟨_, rfl, HOW.out, HBW.out⟩

set_option maxHeartbeats 4000000 in
theorem numbersAll_walk (a : Option Addr) (len cap : Nat) (zs : List Int) (w : World) (h : IsRow w a len cap zs) :
    Calls Try.prog 11 #[.slice a len cap] w fun e w' => e = .returned (.bool true) ∧ Below w.heap.size w w' := by
  obtain ⟨i0, hi0, hz0, hz1, hz2⟩ := info_parts infoSpan
  by_cases hb : (1048576 : Int) < (len : Int)
  · go_enter Try.func11, Try.ntmps11
    go_wp2_with fail
    go_ret
    exact ⟨rfl, Below.refl _ _⟩
  have H := Lib.hid h; clear h
  go_enter Try.func11, Try.ntmps11
  go_wp2_with fail
  refine (drawSetNumbers_any a len cap zs _ H.out).mono ?_
  rintro e w1 ⟨v, xs, last, hxs, hl1, hl2, rfl, hv, hb1⟩
  have HXS := Lib.hid hxs; clear hxs
  have HV1 := Lib.hid hv; clear hv
  have HB1 := Lib.hid hb1; clear hb1
  have hs1 := HB1.out.size
  go_wp2_with fail
  refine (implSN_any v xs last _ HV1.out).mono ?_
  rintro e w2 ⟨vo, rfl, ho2, hb2⟩
  have HV2 := Lib.hid (HV1.out.below hb2)
  have HI2 := Lib.hid (intsAt_of ho2); clear ho2
  have HB2 := Lib.hid (HB1.out.trans (hb2.mono hs1)); clear hb2
  have hs2 := HB2.out.size
  go_wp2_with fail
  refine (specSN_any v xs last _ HV2.out).mono ?_
  rintro e w3 ⟨vw, rfl, ho3, hb3⟩
  have HV3 := Lib.hid (HV2.out.below hb3)
  have HI3 := Lib.hid (HI2.out.below hb3)
  have HJ3 := Lib.hid (intsAt_of ho3); clear ho3
  have HB3 := Lib.hid (HB2.out.trans (hb3.mono hs2)); clear hb3
  have hs3 := HB3.out.size
  go_wp2_with fail
  refine (sameInts_any vo vw _ _ HI3.out HJ3.out).mono ?_
  rintro e w4 ⟨rfl, hb4⟩
  have HV4 := Lib.hid (HV3.out.below hb4)
  have HI4 := Lib.hid (HI3.out.below hb4)
  have HB4 := Lib.hid (HB3.out.trans (hb4.mono hs3)); clear hb4
  have hs4 := HB4.out.size
  have HB5 := Lib.hid (HB4.out.alloc hs4 (.cells #[.int .i64 1, .int .i64 0] 32))
  have hL : (if (99 : Int) < last then 99 else last) = lastN last := by unfold lastN; split <;> omega
  have hL9 : lastN last ≤ 99 := by unfold lastN; omega
  have HNA := Lib.hid (nums_all last)
  generalize lastN last = L at *
  go_wp2_with fail
  refine (implSN_any _ [(1, 0)] last _ (spansAt_one w4 1 0)).mono ?_
  rw [HNA.out]
  rintro e w8 ⟨vx, rfl, ho8, hb8⟩
  have HJ8 := Lib.hid (intsAt_of ho8); clear ho8
  have HB8 := Lib.hid (HB5.out.trans (hb8.mono (by simp; omega))); clear hb8
  have hs8 := HB8.out.size
  go_wp2_with fail
  refine (upTo_any L _ (by omega)).mono ?_
  rintro e w9 ⟨vy, rfl, ho9, hb9⟩
  have HJ9 := Lib.hid (HJ8.out.below hb9)
  have HK9 := Lib.hid (intsAt_of ho9); clear ho9
  have HB9 := Lib.hid (HB8.out.trans (hb9.mono hs8)); clear hb9
  have hs9 := HB9.out.size
  go_wp2_with fail
  refine (sameInts_any _ _ _ _ HJ9.out HK9.out).mono ?_
  rintro e w10 ⟨rfl, hb10⟩
  have HB10 := Lib.hid (HB9.out.trans (hb10.mono hs9)); clear hb10
  go_wp2_with fail
  go_ret
  exact ⟨rfl, HB10.out⟩

end Go.Proofs.Ythabmjadfomnkaa
