/- The walks of the laws FnSetLong, FnSetPart. -/
import Derived.Test.YthabmjadfomnkaaSetW2
namespace Go.Proofs.Ythabmjadfomnkaa
open Go.RowKit
set_option linter.unusedVariables false

theorem news_of {w : World} {g off : Nat} {xs : List Sp} (h : ∀ i (h : i < xs.length), w.cell? ⟨g, off + i * 2, none⟩ = some (.int .i64 xs[i].1) ∧ w.cell? ⟨g, off + i * 2 + 1, none⟩ = some (.int .i64 xs[i].2)) :
    ∀ j u, (spCells xs)[j]? = some u → w.cell? ((⟨g, off, none⟩ : Addr).add j) = some u := by
  intro j u hu
  have hj : j < xs.length * 2 := by rw [← spCells_length]; exact (List.getElem?_eq_some_iff.1 hu).1
  have hi : j / 2 < xs.length := by omega
  have hg := spCells_get xs (j / 2) hi
  have hc := h (j / 2) hi
  have ha : (⟨g, off, none⟩ : Addr).add j = ⟨g, off + j, none⟩ := by unfold Addr.add; split <;> simp_all
  rw [ha]
  by_cases hm : j % 2 = 0
  · have e : j / 2 * 2 = j := by omega
    rw [e] at hg hc
    rw [hc.1, ← hu, hg.1]
  · have e : j / 2 * 2 + 1 = j := by omega
    rw [Nat.add_assoc, e] at hc
    rw [e] at hg
    rw [hc.2, ← hu, hg.2]
theorem spCells_one (xs : List Sp) : ∀ u ∈ spCells xs, u.oneCell' = true := by
  intro u hu
  unfold spCells at hu
  obtain ⟨x, _, hx⟩ := List.mem_flatMap.1 hu
  simp only [List.mem_cons, List.not_mem_nil, or_false] at hx
  rcases hx with rfl | rfl <;> rfl
/-- A slice of a drawn set. -/
def GaveSpans (w : World) (e : Ending) (w' : World) : Prop := ∃ v xs, smallSp xs ∧ e = .returned v ∧ SpansAt w' v xs ∧ Below w.heap.size w w'
theorem drawSetValid_any (a : Option Addr) (len cap : Nat) (zs : List Int) (w : World) (h : IsRow w a len cap zs) :
    Calls Try.prog 22 #[.slice a len cap] w (GaveSpans w) := by
  have H := Lib.hid h; clear h
  go_enter Try.func22, Try.ntmps22
  go_wp2_with fail
  refine (open_any a len cap zs _ H.out).mono ?_
  rintro e w1 ⟨rfl, hb, hr⟩
  have HB := Lib.hid hb; clear hb
  have HR := Lib.hid hr; clear hr
  go_wp2_with fail
  refine (drawSet_any _ 0 _ (by omega) HR.out).mono ?_
  rintro e w2 ⟨v, xs, hxs, rfl, hv, hk, hr2, _⟩
  go_wp2_with fail
  go_ret
  exact ⟨v, xs, hxs, rfl, hv, HB.out.trans (hk.below (Nat.le_refl _) HB.out.size)⟩

theorem setV_ok {xs : List Sp} (h : setV xs = true) : xs.all okSp = true ∧ 1 ≤ xs.length ∧ xs.length ≤ 6 := by
  simpa [setV] using h
theorem setV_of {xs : List Sp} (h : xs.all okSp = true) (h1 : 1 ≤ xs.length) : setV xs = decide ((xs.length : Int) ≤ 6) := by
  rw [setV_iff, h, decide_eq_true h1]
  simp; omega
theorem setV_nil : setV [] = false := rfl
theorem setV_take {xs : List Sp} (h : setV xs = true) (i : Nat) (h1 : 1 ≤ i) (hi : i < xs.length) : setV (xs.take i) = true := by
  obtain ⟨ha, _, h6⟩ := setV_ok h
  rw [setV_iff]
  have : (xs.take i).all okSp = true := List.all_eq_true.2 fun x hx => List.all_eq_true.1 ha x (List.mem_of_mem_take hx)
  rw [this, List.length_take]; simp; omega
theorem setV_bad (xs : List Sp) : setV (xs ++ [(1, -1)]) = false := by
  rw [setV_iff, List.all_append]
  rw [show [((1 : Int), (-1 : Int))].all okSp = false from rfl]; simp
theorem SpansAt.emptyNew (w : World) : SpansAt (w.alloc (.cells #[] 32)) (.slice (some ⟨w.heap.size, 0, none⟩) 0 0) [] := ⟨_, 0, rfl, Nat.le_refl _, Nat.zero_le _, .inl rfl⟩
theorem grown_of_below {w w' : World} (h : Below w.heap.size w w') : w.grownBy w' none := ⟨h.os, h.tape, h.output, h.size, fun k hk _ => h.block k hk⟩
theorem ownBlock_ne (v : Value) : v.ownBlock = none ∨ v.ownBlock ≠ none := by cases v.ownBlock <;> simp

set_option maxHeartbeats 2000000 in
theorem setLong_walk (a : Option Addr) (len cap : Nat) (zs : List Int) (w : World) (h : IsRow w a len cap zs) :
    Calls Try.prog 4 #[.slice a len cap] w fun e w' => e = .returned (.bool true) ∧ Below w.heap.size w w' := by
  obtain ⟨i0, hi0, hz0, hz1, hz2⟩ := info_parts infoSpan
  by_cases hb : (1048576 : Int) < (len : Int)
  · go_enter Try.func4, Try.ntmps4
    go_wp2_with fail
    go_ret
    exact ⟨rfl, Below.refl _ _⟩
  have H := Lib.hid h; clear h
  go_enter Try.func4, Try.ntmps4
  go_wp2_with fail
  refine (drawSetValid_any a len cap zs _ H.out).mono ?_
  rintro e w1 ⟨v, xs, hsm, rfl, hv, hb1⟩
  have HB1 := Lib.hid hb1; clear hb1
  have hz1' := HB1.out.size
  have HV1 := Lib.hid hv; clear hv
  have HSM := Lib.hid hsm; clear hsm
  go_wp2_with fail
  refine (implSV_any v xs _ HV1.out).mono ?_
  rintro e w2 ⟨rfl, hb2⟩
  have HV2 := Lib.hid (HV1.out.below hb2)
  have HB2 := Lib.hid (HB1.out.trans (hb2.mono hz1')); clear hb2
  have hz2' := HB2.out.size
  go_wp2_with fail
  refine (specSV_any v xs _ HV2.out).mono ?_
  rintro e w3 ⟨rfl, rfl⟩
  cases hsv : setV xs
  · go_wp2_with fail
    go_ret
    exact ⟨rfl, HB2.out⟩
  have HS := Lib.hid hsv; clear hsv
  obtain ⟨hall, hl1, hl6⟩ := setV_ok HS.out
  have HALL := Lib.hid hall; clear hall
  obtain ⟨a', cap', rfl, hlc, hcm, hrow⟩ := HV2.out
  obtain ⟨g, off, rfl, hg, hcell⟩ := hrow.resolve_left (by rintro rfl; simp at hl1)
  have HNEWS := Lib.hid (news_of hcell)
  clear hrow
  have HCELL := Lib.hid hcell; clear hcell
  unfold maxLen at hcm
  have HB3 := Lib.hid (HB2.out.alloc hz2' (.cells #[] 32))
  have HO3 := Lib.hid (World.ownsRow_lit (base := w.heap.size) (e := 32) (size := 2) w2 #[] 0 hz2' (Nat.zero_le _) rfl)
  have HN3 := Lib.hid (news_of (w := w2.alloc (.cells #[] 32)) (fun i hi => ⟨(World.cell?_alloc_lt w2 _ ⟨g, _, none⟩ hg).trans (HCELL.out i hi).1, (World.cell?_alloc_lt w2 _ ⟨g, _, none⟩ hg).trans (HCELL.out i hi).2⟩))
  go_wp2_with (at_builtin; refine wpList_append_own _ rfl _ _ 25 rfl w.heap.size 32 i0 (.agg #[.int .i64 0, .int .i64 0]) 2 16 Try.underlying25 hi0 hz0 hz1 hz2 rfl (by decide) _ _ _ rfl HO3.out ⟨g, off, none⟩ xs.length cap' (spCells xs) rfl (spCells_length xs) HN3.out (spCells_one xs) (by unfold maxLen; omega) (by omega) (by simp; omega) ?_; intro v' w4 hown' hgrow _)
  have HB4 := Lib.hid (HB3.out.grown hgrow (by simp; omega) (fun k e => (HO3.out.lt k e).1)); clear hgrow
  have HO4 := Lib.hid (show w4.ownsRow w.heap.size 32 2 v' xs.length (spCells xs) by simpa using hown'); clear hown'
  go_wp2_with fail
  go_loopg [6] (9 - xs.length) (fun k v wr => ∃ ys : List Sp, k = 9 - ys.length ∧ xs.length ≤ ys.length ∧ ys.length ≤ 9 ∧ ys.all okSp = true ∧ wr.ownsRow w.heap.size 32 2 v ys.length (spCells ys) ∧ Below w.heap.size w wr)
  case atStart => exact ⟨xs, rfl, Nat.le_refl _, by omega, HALL.out, HO4.out, HB4.out⟩
  case round =>
    obtain ⟨ys, hk, hxy, hy9, hya, hown, hbw⟩ := hrel
    have HK := Lib.hid hk; clear hk
    have HYA := Lib.hid hya; clear hya
    have hzw := hbw.size
    have HBW := Lib.hid hbw; clear hbw
    have HOW := Lib.hid hown
    rcases hown.2 with ⟨rfl, hn⟩ | ⟨g2, cap2, cur, rfl, _, _, _, hm2, _, _⟩
    · omega
    clear hown
    by_cases hlt : ys.length < 9
    · have hi : (ys.length : Int) < 9 := by omega
      go_wp2_with (at_builtin; refine wpList_append_own _ rfl _ _ 25 rfl w.heap.size 32 i0 (.agg #[.int .i64 0, .int .i64 0]) 2 16 Try.underlying25 hi0 hz0 hz1 hz2 rfl (by decide) _ _ _ rfl (HOW.out.alloc _) ⟨wr.heap.size, 0, none⟩ 1 1 [.int .i64 1, .int .i64 1] rfl rfl (cell_two_new _ _ _ _) (by simp [Value.oneCell']) (by unfold maxLen; omega) (by omega) (by simp; omega) ?_; intro v5 w5 hown5 hgrow5 _)
      have HB5 := Lib.hid ((HBW.out.alloc hzw _).grown hgrow5 (by simp; omega) (fun k e => (HOW.out.lt k e).1)); clear hgrow5
      have HO5 := Lib.hid (show w5.ownsRow w.heap.size 32 2 v5 (ys ++ [((1 : Int), (1 : Int))]).length (spCells (ys ++ [(1, 1)])) by rw [spCells_snoc]; simpa using hown5); clear hown5
      have hva : SpansAt w5 v5 (ys ++ [((1 : Int), (1 : Int))]) := spansAt_of HO5.out
      have HYS : Hid ((ys ++ [((1 : Int), (1 : Int))]).all okSp = true) := by show _ = true; rw [List.all_append, HYA.out]; rfl
      have hsv := setV_of HYS.out (by simp)
      have hyl : (ys ++ [((1 : Int), (1 : Int))]).length = ys.length + 1 := by simp
      rw [hyl] at hsv
      have HSV := Lib.hid hsv; clear hsv
      obtain ⟨a6, cap6, rfl, hlc6, hcm6, _⟩ := id hva
      rw [hyl] at hlc6
      have HVA := Lib.hid hva; clear hva
      have HYL := Lib.hid hyl; clear hyl
      have hz5 := HB5.out.size
      go_wp2_with fail
      refine (implSV_any _ _ _ HVA.out).mono ?_
      rw [HSV.out]
      rintro e w6 ⟨rfl, hb6⟩
      have HO6 := Lib.hid (HO5.out.kept (grown_of_below hb6) (ownBlock_ne _)) 
      have HB6 := Lib.hid (HB5.out.trans (hb6.mono hz5)); clear hb6
      rw [HYL.out]
      go_wp2_with fail
      go_roundg (9 - (ys.length + 1))
      case measure => rw [HK.out]; omega
      case rel => exact ⟨ys ++ [(1, 1)], by rw [HYL.out], by rw [HYL.out]; omega, by rw [HYL.out]; omega, HYS.out, by rw [HYL.out] at HO6 ⊢; exact HO6.out, HB6.out⟩
    · have hi : ¬ (ys.length : Int) < 9 := by omega
      have HB7 := Lib.hid (HBW.out.alloc hzw (.cells #[] 32))
      go_wp2_with fail
      refine (implSV_any _ _ _ (SpansAt.emptyNew wr)).mono ?_
      rw [setV_nil]
      rintro e w7 ⟨rfl, hb7⟩
      have HB8 := Lib.hid (HB7.out.trans (hb7.mono (by simp; omega))); clear hb7
      go_wp2_with fail
      go_ret
      exact ⟨rfl, HB8.out⟩

set_option maxHeartbeats 2000000 in
theorem setPart_walk (a : Option Addr) (len cap : Nat) (zs : List Int) (w : World) (h : IsRow w a len cap zs) :
    Calls Try.prog 5 #[.slice a len cap] w fun e w' => e = .returned (.bool true) ∧ Below w.heap.size w w' := by
  obtain ⟨i0, hi0, hz0, hz1, hz2⟩ := info_parts infoSpan
  by_cases hb : (1048576 : Int) < (len : Int)
  · go_enter Try.func5, Try.ntmps5
    go_wp2_with fail
    go_ret
    exact ⟨rfl, Below.refl _ _⟩
  have H := Lib.hid h; clear h
  go_enter Try.func5, Try.ntmps5
  go_wp2_with fail
  refine (drawSetValid_any a len cap zs _ H.out).mono ?_
  rintro e w1 ⟨v, xs, hsm, rfl, hv, hb1⟩
  have HB1 := Lib.hid hb1; clear hb1
  have hz1' := HB1.out.size
  have HV1 := Lib.hid hv; clear hv
  have HSM := Lib.hid hsm; clear hsm
  go_wp2_with fail
  refine (implSV_any v xs _ HV1.out).mono ?_
  rintro e w2 ⟨rfl, hb2⟩
  have HV2 := Lib.hid (HV1.out.below hb2)
  have HB2 := Lib.hid (HB1.out.trans (hb2.mono hz1')); clear hb2
  have hz2' := HB2.out.size
  go_wp2_with fail
  refine (specSV_any v xs _ HV2.out).mono ?_
  rintro e w3 ⟨rfl, rfl⟩
  cases hsv : setV xs
  · go_wp2_with fail
    go_ret
    exact ⟨rfl, HB2.out⟩
  have HS := Lib.hid hsv; clear hsv
  obtain ⟨hall, hl1, hl6⟩ := setV_ok HS.out
  have HALL := Lib.hid hall; clear hall
  obtain ⟨a', cap', rfl, hlc, hcm, hrow⟩ := HV2.out
  obtain ⟨g, off, rfl, hg, hcell⟩ := hrow.resolve_left (by rintro rfl; simp at hl1)
  have HNEWS := Lib.hid (news_of hcell)
  clear hrow
  have HCELL := Lib.hid hcell; clear hcell
  unfold maxLen at hcm
  go_wp2_with fail
  go_loopg [6] (xs.length - 1) (fun k iv wr => ∃ j : Nat, 1 ≤ j ∧ j ≤ xs.length ∧ k = xs.length - j ∧ iv = .int .i64 j ∧ Below w2.heap.size w2 wr)
  case atStart => exact ⟨1, by omega, by omega, rfl, rfl, Below.refl _ _⟩
  case round =>
    obtain ⟨j, hj1, hj2, hk, rfl, hbw⟩ := hrel
    have HK := Lib.hid hk; clear hk
    have hzw := hbw.size
    have HBW := Lib.hid hbw; clear hbw
    have HCW := Lib.hid (show ∀ i (h : i < xs.length), wr.cell? ⟨g, off + i * 2, none⟩ = some (.int .i64 xs[i].1) ∧ wr.cell? ⟨g, off + i * 2 + 1, none⟩ = some (.int .i64 xs[i].2) from
      fun i hi => ⟨(HBW.out.cell (p := ⟨g, _, none⟩) hg).trans (HCELL.out i hi).1, (HBW.out.cell (p := ⟨g, _, none⟩) hg).trans (HCELL.out i hi).2⟩)
    by_cases hlt : j < xs.length
    · have hi : (j : Int) < (xs.length : Int) := by omega
      have hjc : (j : Int) ≤ (cap' : Int) := by omega
      have hva : SpansAt wr (.slice (some ⟨g, off, none⟩) j cap') (xs.take j) := by
        have hl : (xs.take j).length = j := by rw [List.length_take]; omega
        refine ⟨_, cap', by rw [hl], by rw [hl]; omega, by unfold maxLen; omega, .inr ⟨g, off, rfl, by omega, fun i hi => ?_⟩⟩
        rw [List.getElem_take]
        exact HCW.out i (by omega)
      have HVA := Lib.hid hva; clear hva
      have HSV := Lib.hid (setV_take HS.out j hj1 hlt)
      go_wp2_with fail
      refine (implSV_any _ _ _ HVA.out).mono ?_
      rw [HSV.out]
      rintro e w6 ⟨rfl, hb6⟩
      have HB6 := Lib.hid (HBW.out.trans (hb6.mono hzw)); clear hb6
      go_wp2_with fail
      go_roundg (xs.length - (j + 1))
      case measure => rw [HK.out]; omega
      case rel => exact ⟨j + 1, by omega, by omega, rfl, by go_num, HB6.out⟩
    · have hi : ¬ (j : Int) < (xs.length : Int) := by omega
      have hgr : g < wr.heap.size := by omega
      have hwr : w.heap.size ≤ wr.heap.size := by omega
      have HB3 := Lib.hid ((HB2.out.trans (HBW.out.mono hz2')).alloc hwr (.cells #[] 32))
      have HO3 := Lib.hid (World.ownsRow_lit (base := w.heap.size) (e := 32) (size := 2) wr #[] 0 hwr (Nat.zero_le _) rfl)
      have HN3 := Lib.hid (news_of (w := wr.alloc (.cells #[] 32)) (fun i hi => ⟨(World.cell?_alloc_lt wr _ ⟨g, _, none⟩ hgr).trans (HCW.out i hi).1, (World.cell?_alloc_lt wr _ ⟨g, _, none⟩ hgr).trans (HCW.out i hi).2⟩))
      go_wp2_with (first | (at_builtin; refine wpList_append_own _ rfl (.tmp 37) (.tmp 38) 25 rfl w.heap.size 32 i0 (.agg #[.int .i64 0, .int .i64 0]) 2 16 Try.underlying25 hi0 hz0 hz1 hz2 rfl (by decide) _ _ _ rfl HO3.out ⟨g, off, none⟩ xs.length cap' (spCells xs) rfl (spCells_length xs) HN3.out (spCells_one xs) (by unfold maxLen; omega) (by omega) (by simp; omega) ?_; intro v4 w4 hown4 hgrow _; have HB4 := Lib.hid (HB3.out.grown hgrow (by simp; omega) (fun k e => (HO3.out.lt k e).1)); clear hgrow; have HO4 := Lib.hid (show w4.ownsRow w.heap.size 32 2 v4 xs.length (spCells xs) by simpa using hown4); clear hown4; have hz4 := HB4.out.size) | (at_builtin; refine wpList_append_own _ rfl (.tmp 39) (.tmp 41) 25 rfl w.heap.size 32 i0 (.agg #[.int .i64 0, .int .i64 0]) 2 16 Try.underlying25 hi0 hz0 hz1 hz2 rfl (by decide) _ _ _ rfl (HO4.out.alloc _) ⟨w4.heap.size, 0, none⟩ 1 1 [.int .i64 1, .int .i64 (-1)] rfl rfl (cell_two_new _ _ _ _) (by simp [Value.oneCell']) (by unfold maxLen; omega) (by omega) (by simp; omega) ?_; intro v5 w5 hown5 hgrow5 _; have HG5 := Lib.hid hgrow5; clear hgrow5; have HOO5 := Lib.hid hown5; clear hown5))
      have HB5 := Lib.hid ((HB4.out.alloc hz4 _).grown HG5.out (by simp; omega) (fun k e => (HO4.out.lt k e).1)); clear HG5
      have HVA := Lib.hid (spansAt_of (show w5.ownsRow w.heap.size 32 2 v5 (xs ++ [((1 : Int), (-1 : Int))]).length (spCells (xs ++ [(1, -1)])) by rw [spCells_snoc]; simpa using HOO5.out)); clear HOO5
      have hz5 := HB5.out.size
      have HBAD := Lib.hid (setV_bad xs)
      go_wp2_with fail
      refine (implSV_any _ _ _ HVA.out).mono ?_
      rw [HBAD.out]
      rintro e w6 ⟨rfl, hb6⟩
      have HB6 := Lib.hid (HB5.out.trans (hb6.mono hz5)); clear hb6
      go_wp2_with fail
      go_ret
      exact ⟨rfl, HB6.out⟩

end Go.Proofs.Ythabmjadfomnkaa
