/- The walk of the law FnNumbersTwice. -/
import Derived.Test.YthabmjadfomnkaaLNum3
import Derived.Test.YthabmjadfomnkaaSetPW
import Derived.IntWalk
namespace Go.Proofs.Ythabmjadfomnkaa
open Go.RowKit
set_option linter.unusedVariables false

theorem add_block (a : Addr) (j : Nat) : (a.add j).block = a.block := by unfold Addr.add; split <;> rfl
theorem news_below {w W : World} {g off : Nat} {xs : List Sp} (hg : g < w.heap.size) (h : ∀ j u, (spCells xs)[j]? = some u → w.cell? ((⟨g, off, none⟩ : Addr).add j) = some u) (hb : Below w.heap.size w W) :
    ∀ j u, (spCells xs)[j]? = some u → W.cell? ((⟨g, off, none⟩ : Addr).add j) = some u :=
  fun j u hu => (hb.cell (by rw [add_block]; exact hg)).trans (h j u hu)
theorem cell_two_at (w : World) (b : Nat) (t : TypeId) (x y : Value) (h : Two w b t x y) : ∀ j u, [x, y][j]? = some u → w.cell? ((⟨b, 0, none⟩ : Addr).add j) = some u := by
  intro j u hj
  match j, hj with
  | 0, hj => simp at hj; subst hj; exact h.c0
  | 1, hj => simp at hj; subst hj; exact h.c1

set_option maxHeartbeats 8000000 in
theorem numbersTwice_walk (a : Option Addr) (len cap : Nat) (zs : List Int) (a' : Option Addr) (len' cap' : Nat) (zs' : List Int) (w : World) (h : IsRow w a len cap zs) (h' : IsRow w a' len' cap' zs') :
    Calls Try.prog 10 #[.slice a len cap, .slice a' len' cap'] w fun e w' => e = .returned (.bool true) ∧ Below w.heap.size w w' := by
  obtain ⟨i0, hi0, hz0, hz1, hz2⟩ := info_parts infoSpan
  by_cases hb : (1048576 : Int) < (len : Int)
  · have hd : decide ((1048576 : Int) < (len : Int)) = true := decide_eq_true hb
    go_enter Try.func10, Try.ntmps10
    go_wp2_with fail
    go_ret
    exact ⟨rfl, Below.refl _ _⟩
  have hd : decide ((1048576 : Int) < (len : Int)) = false := decide_eq_false hb
  by_cases hb' : (1048576 : Int) < (len' : Int)
  · have hd' : decide ((1048576 : Int) < (len' : Int)) = true := decide_eq_true hb'
    go_enter Try.func10, Try.ntmps10
    go_wp2_with fail
    go_ret
    exact ⟨rfl, Below.refl _ _⟩
  have hd' : decide ((1048576 : Int) < (len' : Int)) = false := decide_eq_false hb'
  have H := Lib.hid h; clear h h'
  go_enter Try.func10, Try.ntmps10
  go_wp2_with fail
  clear hd hd'
  refine (drawSetNumbers_any a len cap zs _ H.out).mono ?_
  rintro e w1 ⟨v, xs, last, hxs, hl1, hl2, rfl, hv, hb1⟩
  have HXS := Lib.hid hxs; clear hxs
  have HV1 := Lib.hid hv; clear hv
  have HB1 := Lib.hid hb1; clear hb1
  have hs1 := HB1.out.size
  go_wp2_with fail
  refine (implSN_any v xs last _ HV1.out).mono ?_
  rintro e w2 ⟨vo, rfl, ho2, hb2⟩
  have HV2 := Lib.hid (HV1.out.below hb2)
  have HI2 := Lib.hid (intsAt_of ho2); clear ho2
  have HB2 := Lib.hid (HB1.out.trans (hb2.mono hs1)); clear hb2
  have hs2 := HB2.out.size
  go_wp2_with fail
  refine (specSN_any v xs last _ HV2.out).mono ?_
  rintro e w3 ⟨vw, rfl, ho3, hb3⟩
  have HV3 := Lib.hid (HV2.out.below hb3)
  have HI3 := Lib.hid (HI2.out.below hb3)
  have HJ3 := Lib.hid (intsAt_of ho3); clear ho3
  have HB3 := Lib.hid (HB2.out.trans (hb3.mono hs2)); clear hb3
  have hs3 := HB3.out.size
  go_wp2_with fail
  refine (sameInts_any vo vw _ _ HI3.out HJ3.out).mono ?_
  rintro e w4 ⟨rfl, hb4⟩
  have HV4 := Lib.hid (HV3.out.below hb4)
  have HI4 := Lib.hid (HI3.out.below hb4)
  have HJ4 := Lib.hid (HJ3.out.below hb4)
  have HB4 := Lib.hid (HB3.out.trans (hb4.mono hs3)); clear hb4
  have hs4 := HB4.out.size
  obtain ⟨av, capv, hva, hlc, hcm, hrow⟩ := id HV4.out
  subst hva
  have HROW := Lib.hid hrow; clear hrow
  unfold maxLen at hcm
  have h8 := HXS.out.1
  go_wp2_with fail
  refine (specSV_any _ xs _ HV4.out).mono ?_
  cases hsv : setV xs
  · rintro e w5 ⟨rfl, rfl⟩
    clear hsv
    go_wp2_with fail
    refine (sameInts_any vo vw _ _ HI4.out HJ4.out).mono ?_
    rintro e w6 ⟨rfl, hb6⟩
    have HB6 := Lib.hid (HB4.out.trans (hb6.mono hs4)); clear hb6
    go_wp2_with fail
    go_ret
    exact ⟨rfl, HB6.out⟩
  · rintro e w5 ⟨rfl, rfl⟩
    have HSV := Lib.hid hsv; clear hsv
    obtain ⟨_, hx1, hx6⟩ := setV_ok HSV.out
    by_cases h6 : 6 ≤ xs.length
    · have hi6 : (6 : Int) ≤ (xs.length : Int) := by omega
      have di6 : decide ((6 : Int) ≤ (xs.length : Int)) = true := decide_eq_true hi6
      go_wp2_with fail
      refine (sameInts_any vo vw _ _ HI4.out HJ4.out).mono ?_
      rintro e w6 ⟨rfl, hb6⟩
      have HB6 := Lib.hid (HB4.out.trans (hb6.mono hs4)); clear hb6
      go_wp2_with fail
      go_ret
      exact ⟨rfl, HB6.out⟩
    · have hi6 : ¬ (6 : Int) ≤ (xs.length : Int) := by omega
      have di6 : decide ((6 : Int) ≤ (xs.length : Int)) = false := decide_eq_false hi6
      obtain ⟨g, off, rfl, hg, hcell⟩ := HROW.out.resolve_left (by rintro rfl; simp at hx1)
      have HN4 := Lib.hid (news_of hcell)
      obtain ⟨K, hK⟩ : ∃ K : Nat, K = len' % xs.length := ⟨_, rfl⟩
      have hKlt : K < xs.length := by rw [hK]; exact Nat.mod_lt _ (by omega)
      have hr1 : (len' : Int) % (xs.length : Int) = (K : Int) := by rw [hK]; rfl
      have hr2 : (len' : Int).tmod (xs.length : Int) = (K : Int) := by rw [Int.tmod_eq_emod_of_nonneg (by omega)]; exact hr1
      clear hK
      have hq0 : ((xs.length : Int) == 0) = false := beq_eq_false_iff_ne.2 (by omega)
      have hki : (K : Int) < (xs.length : Int) := by omega
      have hnil : ¬ xs = [] := by rintro rfl; simp at hx1
      have c0 := (hcell K hKlt).1
      have c1 := (hcell K hKlt).2
      clear hcell
      have HTW := Lib.hid (nums_twice xs xs[K] (List.getElem_mem _) HSV.out (by omega) last)
      generalize xs[K] = x at c0 c1 HTW
      obtain ⟨x1, x2⟩ := x
      simp only at c0 c1
      have HBA := Lib.hid (Below.drew1 ((Below.refl w4.heap.size w4).alloc (Nat.le_refl _) (.cells #[] 32)))
      have HBB := Lib.hid (Below.drew1 (((Below.refl w4.heap.size w4).alloc (Nat.le_refl _) (.cells #[] 32)).alloc (by simp) (.cells #[.int .i64 x1, .int .i64 x2] 32)))
      have HBC := Lib.hid (Below.drew1 (((Below.refl w4.heap.size w4).alloc (Nat.le_refl _) (.cells #[.int .i64 x1, .int .i64 x2] 32)).alloc (by simp) (.cells #[] 32)))
      go_wp2_with fail
      have HTB := Lib.hid (show Two ((w4.alloc (.cells #[] 32)).alloc (.cells #[.int .i64 x1, .int .i64 x2] 32)).drew (w4.heap.size + 1) 32 (.int .i64 x1) (.int .i64 x2) by
        have := Two.new (w4.alloc (.cells #[] 32)) 32 (.int .i64 x1) (.int .i64 x2)
        rw [World.size_alloc] at this; exact this)
      have HTC := Lib.hid (show Two ((w4.alloc (.cells #[.int .i64 x1, .int .i64 x2] 32)).alloc (.cells #[] 32)).drew w4.heap.size 32 (.int .i64 x1) (.int .i64 x2) from (Two.new w4 32 (.int .i64 x1) (.int .i64 x2)).alloc _)
      go_region_law (first
        | (refine step_append_lies _ rfl (.tmp 46) (.tmp 47) 25 rfl w4.heap.size 32 i0 (.agg #[.int .i64 0, .int .i64 0]) 2 16 Try.underlying25 hi0 hz0 hz1 hz2 rfl (by decide) _ 0 [] rfl (own_new w4 _ w4.heap.size 2 32 rfl (Nat.le_refl _)).drew ⟨g, off, none⟩ xs.length capv (spCells xs) rfl (spCells_length xs) (news_below hg HN4.out HBA.out) (spCells_one xs) (by omega) (by unfold maxLen; omega) (by omega) HBA.out.size _ rfl ?_; intro g5 cap5 w7 hown5 hgrow5 hwho5 hlt5; have HO7 := Lib.hid (show w7.ownsRow w4.heap.size 32 2 (.slice (some ⟨g5, 0, none⟩) xs.length cap5) xs.length (spCells xs) by simpa using hown5); have HL7 := Lib.hid (HBA.out.grown hgrow5 HBA.out.size (fun k e => Nat.le_of_eq (Option.some.inj e))); have e0 := (HL7.out.cell (p := ⟨g, off + K * 2, none⟩) hg).trans c0; have e1 := (HL7.out.cell (p := ⟨g, off + K * 2 + 1, none⟩) hg).trans c1)
        | (refine step_append_lies _ rfl (.tmp 46) (.tmp 47) 25 rfl w4.heap.size 32 i0 (.agg #[.int .i64 0, .int .i64 0]) 2 16 Try.underlying25 hi0 hz0 hz1 hz2 rfl (by decide) _ 0 [] rfl ((own_new w4 _ w4.heap.size 2 32 rfl (Nat.le_refl _)).alloc _).drew ⟨g, off, none⟩ xs.length capv (spCells xs) rfl (spCells_length xs) (news_below hg HN4.out HBB.out) (spCells_one xs) (by omega) (by unfold maxLen; omega) (by omega) HBB.out.size _ rfl ?_; intro g5 cap5 w7 hown5 hgrow5 hwho5 hlt5; have HO7 := Lib.hid (show w7.ownsRow w4.heap.size 32 2 (.slice (some ⟨g5, 0, none⟩) xs.length cap5) xs.length (spCells xs) by simpa using hown5); have HL7 := Lib.hid (HBB.out.grown hgrow5 HBB.out.size (fun k e => Nat.le_of_eq (Option.some.inj e))); have HX7 := Lib.hid ((HTB.out).keptG hgrow5 (fun e => Nat.ne_of_gt (Nat.lt_succ_self _) (Option.some.inj e))))
        | (refine step_append_lies _ rfl (.tmp 46) (.tmp 47) 25 rfl w4.heap.size 32 i0 (.agg #[.int .i64 0, .int .i64 0]) 2 16 Try.underlying25 hi0 hz0 hz1 hz2 rfl (by decide) _ 0 [] rfl (own_new (w4.alloc (.cells #[.int .i64 x1, .int .i64 x2] 32)) _ w4.heap.size 2 32 (World.size_alloc w4 _) (by omega)).drew ⟨g, off, none⟩ xs.length capv (spCells xs) rfl (spCells_length xs) (news_below hg HN4.out HBC.out) (spCells_one xs) (by omega) (by unfold maxLen; omega) (by omega) HBC.out.size _ rfl ?_; intro g5 cap5 w7 hown5 hgrow5 hwho5 hlt5; have HO7 := Lib.hid (show w7.ownsRow w4.heap.size 32 2 (.slice (some ⟨g5, 0, none⟩) xs.length cap5) xs.length (spCells xs) by simpa using hown5); have HL7 := Lib.hid (HBC.out.grown hgrow5 HBC.out.size (fun k e => Nat.le_trans (Nat.le_succ _) (Nat.le_of_eq (Option.some.inj e)))); have HX7 := Lib.hid ((HTC.out).keptG hgrow5 (fun e => Nat.ne_of_lt (Nat.lt_succ_self _) (Option.some.inj e))))
        | (refine step_append_lies _ rfl (.tmp 48) (.tmp 57) 25 rfl w4.heap.size 32 i0 (.agg #[.int .i64 0, .int .i64 0]) 2 16 Try.underlying25 hi0 hz0 hz1 hz2 rfl (by decide) _ _ _ rfl (HO7.out.alloc _) ⟨w7.heap.size, 0, none⟩ 1 1 [.int .i64 x1, .int .i64 x2] rfl rfl (cell_two_new _ _ _ _) (by simp [Value.oneCell']) (by omega) (by unfold maxLen; omega) (by omega) (HL7.out.alloc HL7.out.size _).size _ rfl ?_; intro g8 cap8 w8 hown8 hgrow8 hwho8 hlt8; have HL8 := Lib.hid ((HL7.out.alloc HL7.out.size _).grown hgrow8 (HL7.out.alloc HL7.out.size _).size (fun k e => (HO7.out.lt k e).1)))
        | (refine step_append_lies _ rfl (.tmp 48) (.tmp 57) 25 rfl w4.heap.size 32 i0 (.agg #[.int .i64 0, .int .i64 0]) 2 16 Try.underlying25 hi0 hz0 hz1 hz2 rfl (by decide) _ _ _ rfl HO7.out ⟨w4.heap.size + 1, 0, none⟩ 1 1 [.int .i64 x1, .int .i64 x2] rfl rfl (cell_two_at _ _ _ _ _ HX7.out) (by simp [Value.oneCell']) (by omega) (by unfold maxLen; omega) (by omega) HL7.out.size _ rfl ?_; intro g8 cap8 w8 hown8 hgrow8 hwho8 hlt8; have HL8 := Lib.hid (HL7.out.grown hgrow8 HL7.out.size (fun k e => (HO7.out.lt k e).1)))
        | (refine step_append_lies _ rfl (.tmp 48) (.tmp 57) 25 rfl w4.heap.size 32 i0 (.agg #[.int .i64 0, .int .i64 0]) 2 16 Try.underlying25 hi0 hz0 hz1 hz2 rfl (by decide) _ _ _ rfl HO7.out ⟨w4.heap.size, 0, none⟩ 1 1 [.int .i64 x1, .int .i64 x2] rfl rfl (cell_two_at _ _ _ _ _ HX7.out) (by simp [Value.oneCell']) (by omega) (by unfold maxLen; omega) (by omega) HL7.out.size _ rfl ?_; intro g8 cap8 w8 hown8 hgrow8 hwho8 hlt8; have HL8 := Lib.hid (HL7.out.grown hgrow8 HL7.out.size (fun k e => (HO7.out.lt k e).1))))
      all_goals
        have HV8 := Lib.hid (spansAt_of (xs := xs ++ [(x1, x2)]) (by rw [spCells_snoc, List.length_append]; exact hown8))
        have HI8 := Lib.hid (HI4.out.below HL8.out)
        have HB8 := Lib.hid (HB4.out.trans (HL8.out.mono hs4))
        have hs8 := HB8.out.size
        clear hown8 hgrow8 hwho8 hlt8 hown5 hgrow5 hwho5 hlt5 c0 c1 hr1 hr2 hki hnil hq0 di6 hi6
        go_wp2_with fail
        refine (implSN_any _ (xs ++ [(x1, x2)]) last _ HV8.out).mono ?_
        rw [HTW.out]
        rintro e w9 ⟨v9, rfl, ho9, hb9⟩
        have HJ9 := Lib.hid (intsAt_of ho9); clear ho9
        have HI9 := Lib.hid (HI8.out.below hb9)
        have HB9 := Lib.hid (HB8.out.trans (hb9.mono hs8)); clear hb9
        have hs9 := HB9.out.size
        go_wp2_with fail
        refine (sameInts_any v9 vo _ _ HJ9.out HI9.out).mono ?_
        rintro e w10 ⟨rfl, hb10⟩
        have HB10 := Lib.hid (HB9.out.trans (hb10.mono hs9)); clear hb10
        go_wp2_with fail
        go_ret
        exact ⟨rfl, HB10.out⟩

end Go.Proofs.Ythabmjadfomnkaa
