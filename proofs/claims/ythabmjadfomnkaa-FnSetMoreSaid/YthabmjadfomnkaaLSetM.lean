/- The walk of the law FnSetMore. -/
import Derived.Test.YthabmjadfomnkaaLSetP
import Derived.Test.YthabmjadfomnkaaDrawP
import Derived.Test.YthabmjadfomnkaaLSet
namespace Go.Proofs.Ythabmjadfomnkaa
open Go.RowKit
set_option linter.unusedVariables false

/-- An operation whose guard holds. -/
theorem wpList_wanted {P : Program} {ops : Array Oper} {rest : List Oper} {o : Oper} {a : Act} {w : World} {Q : Exit → Act → World → Prop} (hg : Region.wanted o (yielded ops a.tmps) = true)
    (h : ∀ K : Act → World → Prop, (∀ a w, wpList P ops Q rest a w → K a w) → o.wp P a w K Q) : wpList P ops Q (o :: rest) a w :=
  wpList_step fun K hK => by rw [if_pos hg]; exact h K hK
theorem setT_pos (l : List UInt8) : (setT l).isSome = true → 1 ≤ ((setT l).getD []).length := by
  intro h
  cases hs : setT l with
  | none => rw [hs] at h; cases h
  | some xs =>
    have := set_ok hs
    simp only [setV, Bool.and_eq_true, decide_eq_true_iff] at this
    exact this.2.1
theorem set_cont (s : ByteArray) (xs : List Sp) (hx : (setT (bl s)).getD [] = xs) (hB : (setT (bl s)).isSome = true) :
    (setT (bl (s ++ ⟨#[44, 42]⟩))) = if 6 ≤ xs.length then none else some (xs ++ [(0, 0)]) := by
  cases h : setT (bl s) with
  | none => rw [h] at hB; cases hB
  | some ys =>
    rw [h] at hx
    obtain rfl : ys = xs := hx
    rw [bl_append]
    exact set_more h

set_option maxHeartbeats 8000000 in
theorem setMore_walk (a : Option Addr) (len cap : Nat) (zs : List Int) (w : World) (h : IsRow w a len cap zs) :
    Calls Try.prog 15 #[.slice a len cap] w fun e w' => e = .returned (.bool true) ∧ Below w.heap.size w w' := by
  obtain ⟨i0, hi0, hz0, hz1, hz2⟩ := info_parts infoSpan
  by_cases hb : (1048576 : Int) < (len : Int)
  · go_enter Try.func15, Try.ntmps15
    go_wp2_with fail
    go_ret
    exact ⟨rfl, Below.refl _ _⟩
  have H := Lib.hid h; clear h
  go_enter Try.func15, Try.ntmps15
  go_wp2_with fail
  refine (drawSetParse_any a len cap zs _ H.out).mono ?_
  rintro e w1 ⟨s, hs, rfl, hb1⟩
  have HB1 := Lib.hid hb1; clear hb1
  have hs1 := HB1.out.size
  have hl6 := setT_len (bl s)
  have HCO := Lib.hid (set_cont s _ rfl)
  have HPO := Lib.hid (setT_pos (bl s))
  generalize hx : (setT (bl s)).getD [] = xs at hl6 HCO HPO
  generalize hB : (setT (bl s)).isSome = B at HCO HPO
  have HX := Lib.hid hx; clear hx
  have HB := Lib.hid hB; clear hB
  go_wp2_with fail
  refine (implSP_g s _ (by omega) xs B HX.out HB.out).mono ?_
  rintro e w2 ⟨v2, rfl, ho2, hb2⟩
  have HV2 := Lib.hid (spansAt_of ho2); clear ho2
  have HB2 := Lib.hid (HB1.out.trans (hb2.mono hs1)); clear hb2
  have hs2 := HB2.out.size
  go_wp2_with fail
  refine (specSP_g s _ (by omega) xs B HX.out HB.out).mono ?_
  rintro e w3 ⟨v3, rfl, ho3, hb3⟩
  have HV3 := Lib.hid (spansAt_of ho3); clear ho3
  have HW3 := Lib.hid (HV2.out.below hb3)
  have HB3 := Lib.hid (HB2.out.trans (hb3.mono hs2)); clear hb3
  have hs3 := HB3.out.size
  go_wp2_with fail
  refine (sameSpans_any v2 v3 xs _ HW3.out HV3.out).mono ?_
  rintro e w4 ⟨rfl, hb4⟩
  have HV4 := Lib.hid (HV3.out.below hb4)
  have HW4 := Lib.hid (HW3.out.below hb4)
  have HB4 := Lib.hid (HB3.out.trans (hb4.mono hs3)); clear hb4
  have hs4 := HB4.out.size
  cases B
  · go_wp2_with fail
    refine (sameSpans_any v2 v3 xs _ HW4.out HV4.out).mono ?_
    rintro e w5 ⟨rfl, hb5⟩
    have HB5 := Lib.hid (HB4.out.trans (hb5.mono hs4)); clear hb5
    go_wp2_with fail
    go_ret
    exact ⟨rfl, HB5.out⟩
  · obtain ⟨X, hXX⟩ : ∃ X : ByteArray, (s ++ ⟨#[44, 42]⟩ : ByteArray) = X := ⟨_, rfl⟩
    have hco := HCO.out rfl
    have hz : (s ++ ⟨#[44, 42]⟩ : ByteArray).size = s.size + 2 := by rw [ByteArray.size_append]; rfl
    rw [hXX] at hco hz
    have hz' : X.size ≤ 1000000000 := by omega
    clear hz
    obtain ⟨va, vcap, hva, hvl, hvc, hvrow⟩ := id HW4.out
    subst hva
    unfold maxLen at hvc
    have HROW := Lib.hid hvrow; clear hvrow
    by_cases h6 : 6 ≤ xs.length
    · rw [if_pos h6] at hco
      have HC := Lib.hid hco; clear hco
      have hi6 : (6 : Int) ≤ (xs.length : Int) := by omega
      go_wp2_with fail
      refine (implSP_g X _ hz' [] false (by rw [HC.out]; rfl) (by rw [HC.out]; rfl)).mono ?_
      rintro e w5 ⟨v5, rfl, _, hb5⟩
      have HB5 := Lib.hid (HB4.out.trans (hb5.mono hs4)); clear hb5
      go_wp2_with fail
      go_ret
      exact ⟨rfl, HB5.out⟩
    · rw [if_neg h6] at hco
      have HC := Lib.hid hco; clear hco
      have hi6 : ¬ (6 : Int) ≤ (xs.length : Int) := by omega
      go_wp2_with fail
      refine (implSP_g X _ hz' (xs ++ [(0, 0)]) true (by rw [HC.out]; rfl) (by rw [HC.out]; rfl)).mono ?_
      rintro e w5 ⟨v5, rfl, ho5, hb5⟩
      clear hXX
      have hx1 := HPO.out trivial
      obtain ⟨g, off, rfl, hg, hcell⟩ := HROW.out.resolve_left (by rintro rfl; simp at hx1)
      have hg5 : g < w5.heap.size := Nat.lt_of_lt_of_le hg hb5.size
      have HC5 := Lib.hid (fun i (hi : i < xs.length) => (⟨(hb5.cell (p := ⟨g, off + i * 2, none⟩) hg).trans (hcell i hi).1, (hb5.cell (p := ⟨g, off + i * 2 + 1, none⟩) hg).trans (hcell i hi).2⟩ : w5.cell? ⟨g, off + i * 2, none⟩ = some (.int .i64 xs[i].1) ∧ w5.cell? ⟨g, off + i * 2 + 1, none⟩ = some (.int .i64 xs[i].2)))
      have HV5 := Lib.hid (spansAt_of ho5); clear ho5
      have HB5 := Lib.hid (HB4.out.trans (hb5.mono hs4)); clear hb5 hcell
      have hs5 := HB5.out.size
      have HB6 := Lib.hid (Below.alloc (Below.refl w5.heap.size w5) (Nat.le_refl _) (.cells #[] 32))
      have HO6 := Lib.hid (World.ownsRow_lit (base := w5.heap.size) (e := 32) (size := 2) w5 #[] 0 (Nat.le_refl _) (Nat.zero_le _) rfl)
      have HN6 := Lib.hid (news_of (w := w5.alloc (.cells #[] 32)) (fun i hi => ⟨(World.cell?_alloc_lt w5 _ ⟨g, _, none⟩ hg5).trans (HC5.out i hi).1, (World.cell?_alloc_lt w5 _ ⟨g, _, none⟩ hg5).trans (HC5.out i hi).2⟩))
      go_wp2_with (first
        | (at_builtin; refine wpList_wanted (by rfl) (fun K' hK' => ?_); refine wp_append_own _ _ _ 25 rfl w5.heap.size 32 i0 (.agg #[.int .i64 0, .int .i64 0]) 2 16 Try.underlying25 hi0 hz0 hz1 hz2 rfl (by decide) _ _ _ rfl HO6.out ⟨g, off, none⟩ xs.length vcap (spCells xs) rfl (spCells_length xs) HN6.out (spCells_one xs) (by unfold maxLen; omega) (by omega) (by simp) ?_; intro v7 w7 hown7 hgrow7 _; refine hK' _ _ ?_; have HB7 := Lib.hid (HB6.out.grown hgrow7 (by simp) (fun k e => (HO6.out.lt k e).1)); clear hgrow7; have hs7 := HB7.out.size; have HO7 := Lib.hid (show w7.ownsRow w5.heap.size 32 2 v7 xs.length (spCells xs) by simpa using hown7); clear hown7)
        | (at_builtin; refine wpList_wanted (by rfl) (fun K' hK' => ?_); refine wp_append_own _ _ _ 25 rfl w5.heap.size 32 i0 (.agg #[.int .i64 0, .int .i64 0]) 2 16 Try.underlying25 hi0 hz0 hz1 hz2 rfl (by decide) _ _ _ rfl (HO7.out.alloc _) ⟨w7.heap.size, 0, none⟩ 1 1 [.int .i64 0, .int .i64 0] rfl rfl (cell_two_new _ _ _ _) (by simp [Value.oneCell']) (by unfold maxLen; omega) (by omega) (by simp; omega) ?_; intro v8 w8 hown8 hgrow8 _; refine hK' _ _ ?_; have HB8 := Lib.hid ((HB7.out.alloc hs7 _).grown hgrow8 (by simp; omega) (fun k e => (HO7.out.lt k e).1)); clear hgrow8; have HO8 := Lib.hid hown8; clear hown8))
      have HV8 := Lib.hid (HV5.out.below HB8.out)
      have HW8 := Lib.hid (show SpansAt w8 v8 (xs ++ [((0 : Int), (0 : Int))]) from spansAt_of (by rw [spCells_snoc, List.length_append]; exact HO8.out))
      have HB9 := Lib.hid (HB5.out.trans (HB8.out.mono hs5))
      have hs9 := HB9.out.size
      refine (sameSpans_any v5 v8 (xs ++ [(0, 0)]) _ HV8.out HW8.out).mono ?_
      rintro e w9 ⟨rfl, hb9⟩
      have HB10 := Lib.hid (HB9.out.trans (hb9.mono hs9)); clear hb9
      go_wp2_with fail
      go_ret
      exact ⟨rfl, HB10.out⟩

end Go.Proofs.Ythabmjadfomnkaa
