/- Contracts: the program's SetText. -/
import Derived.Test.YthabmjadfomnkaaDoorSetTW
import Derived.Test.YthabmjadfomnkaaDoorSpecQ
import Derived.Test.YthabmjadfomnkaaDoorCopyW
import Derived.Test.YthabmjadfomnkaaDoorShelf
namespace Go.Proofs.YthabmjadfomnkaaDoor
open Go.RowKit
set_option linter.unusedVariables false

theorem two_far {w : World} {b : Nat} {t : TypeId} {x y : Value} (h : Two w b t x y) {p : Addr} (hp : b ≠ p.block) (u : Value) : Two (w.setCell p u) b t x y := (Below.heap_setCell w p u b hp).trans h
theorem dig_T (k : Nat) (hk : k ≤ 99) : Lib.decDigits k = decT k := by
  unfold decT
  rw [Lib.decDigits]
  by_cases h : k < 10
  · rw [dif_pos h, if_pos h]
  · rw [dif_neg h, if_neg h, Lib.decDigits, dif_pos (by omega)]; rfl
set_option maxHeartbeats 2000000 in
theorem numText_any (n : Int) (w : World) (h0 : 0 ≤ n) (h1 : n ≤ 99) :
    Calls Tryd.prog 19 #[.int .i64 n] w fun e w' => e = .returned (.string ⟨(numT n).toArray⟩) ∧ w = w' := by
  by_cases hn : n = 0
  · subst hn
    go_enter Tryd.func19, Tryd.ntmps19
    go_wp2_with fail
    go_ret
    exact ⟨rfl, rfl⟩
  · have hd := numT_dec n (by omega)
    rw [hd, ← dig_T _ (by omega)]
    clear hd
    obtain ⟨k, rfl⟩ := Int.eq_ofNat_of_zero_le h0
    have hk0 : ((k : Int) == 0) = false := beq_eq_false_iff_ne.2 hn
    rw [Int.toNat_natCast]
    clear hn
    have HI := Lib.hid (fun w => Tryd.strconv_Itoa_small k (by omega) w)
    generalize (⟨(Lib.decDigits k).toArray⟩ : ByteArray) = X at HI ⊢
    go_enter Tryd.func19, Tryd.ntmps19
    go_wp2_with fail
    refine (HI.out _).mono ?_
    rintro e w1 ⟨rfl, rfl⟩
    go_wp2_with fail
    go_ret
    exact ⟨rfl, rfl⟩

/-- The texts of the spans, joined with commas. -/
theorem join_text (ys : List ByteArray) (xs : List Sp) (hl : ys.length = xs.length) (h : ∀ i (hi : i < xs.length) (hj : i < ys.length), bl ys[i] = spanX xs[i]) : Lib.join (ys.map (·.data.toList)) [44] = textL xs := by
  have hm : ys.map (·.data.toList) = xs.map spanX := by
    refine List.ext_getElem (by simp [hl]) fun i h1 h2 => ?_
    rw [List.getElem_map, List.getElem_map]
    exact h i (by simpa using h2) (by simpa using h1)
  rw [hm]
  clear hm h hl
  cases xs with
  | nil => rfl
  | cons x r =>
    rw [List.map_cons, Lib.join_cons]
    induction r generalizing x with
    | nil => simp [textL, Lib.joinTail]
    | cons y r ih =>
      have := ih y
      rw [textL, ← this]
      simp [Lib.joinTail]
theorem cells_strs {cs : List Value} {n : Nat} (hl : cs.length = n) (P : Nat → ByteArray → Prop) (h : ∀ i, i < n → ∃ X, cs[i]? = some (.string X) ∧ P i X) : ∃ ys : List ByteArray, cs = ys.map .string ∧ ys.length = n ∧ ∀ i (hj : i < ys.length), P i ys[i] := by
  subst hl
  induction cs generalizing P with
  | nil => exact ⟨[], rfl, rfl, fun i hj => by simp at hj⟩
  | cons c r ih =>
    obtain ⟨X, hX, hP⟩ := h 0 (by simp)
    obtain ⟨ys, rfl, h2, h3⟩ := ih (fun i Y => P (i + 1) Y) (fun i hi => by
      obtain ⟨Y, hY, hPY⟩ := h (i + 1) (by simpa using hi)
      exact ⟨Y, by simpa using hY, hPY⟩)
    refine ⟨X :: ys, by simpa using hX, by simp, fun i hj => ?_⟩
    cases i with
    | zero => exact hP
    | succ i => exact h3 i (by simpa using hj)

set_option maxHeartbeats 8000000 in
theorem implST_any (v : Value) (xs : List Sp) (w : World) (hv : SpansAt w v xs) :
    Calls Tryd.prog 7 #[v] w fun e w' => e = .returned (.string (setTx xs)) ∧ Below w.heap.size w w' := by
  obtain ⟨i0, hi0, hz0, hz1, hz2⟩ := info_parts infoStr
  have HV := Lib.hid hv
  obtain ⟨a, cap, rfl, hlc, hcm, hrow⟩ := hv
  unfold maxLen at hcm
  have HROW := Lib.hid hrow; clear hrow
  unfold setTx
  cases hsv : setV xs
  · have HS := Lib.hid hsv; clear hsv
    rw [if_neg (by simp)]
    go_enter Tryd.func7, Tryd.ntmps7
    go_wp2_with fail
    refine (implSV_any _ xs _ HV.out).mono ?_
    rw [HS.out]
    rintro e w1 ⟨rfl, hb1⟩
    have HB1 := Lib.hid hb1; clear hb1
    go_wp2_with fail
    go_ret
    exact ⟨rfl, HB1.out⟩
  · rw [if_pos rfl]
    have h16 : 1 ≤ xs.length ∧ xs.length ≤ 6 := by
      simp only [setV, Bool.and_eq_true, decide_eq_true_iff] at hsv
      exact hsv.2
    obtain ⟨h1, h6⟩ := h16
    have HOK := Lib.hid (show ∀ x ∈ xs, okSp x = true by
      simp only [setV, Bool.and_eq_true, decide_eq_true_iff] at hsv
      exact List.all_eq_true.1 hsv.1)
    have HS := Lib.hid hsv; clear hsv
    have hne : xs ≠ [] := by rintro rfl; simp at h1
    obtain ⟨g, off, rfl, hg, hcell⟩ := HROW.out.resolve_left hne
    clear hne
    have HCELL := Lib.hid hcell; clear hcell
    generalize hT : (⟨(textL xs).toArray⟩ : ByteArray) = T
    have HT := Lib.hid hT; clear hT
    go_enter Tryd.func7, Tryd.ntmps7
    go_wp2_with fail
    refine (implSV_any _ xs _ HV.out).mono ?_
    rw [HS.out]
    rintro e w1 ⟨rfl, hb1⟩
    have hs1 := hb1.size
    have HB1 := Lib.hid hb1; clear hb1
    go_wp2_with (at_make; refine wpList_make_full _ rfl _ _ 39 rfl w1.heap.size 9 i0 (.string ⟨#[]⟩) 1 Tryd.underlying39 hi0 hz0 hz1 .i64 .i64 (xs.length : Int) (xs.length : Int) xs.length rfl rfl rfl rfl (by rw [hz2]; omega) (by unfold maxLen; omega) (Nat.le_refl _) ?_; intro w2 hown hgrow)
    have HO2 := Lib.hid hown; clear hown
    have HB2 := Lib.hid (HB1.out.trans ((show Below w1.heap.size w1 w2 from ⟨hgrow.os, hgrow.tape, hgrow.output, hgrow.size, fun k hk => hgrow.block k hk (by simp)⟩).mono hs1)); clear hgrow
    go_wp2_with fail
    go_loopg [14] xs.length (fun k iv wr => ∃ (j : Nat) (cs : List Value), j ≤ xs.length ∧ k = xs.length - j ∧ iv = .int .i64 j ∧ wr.ownsRow w1.heap.size 9 1 (.slice (some ⟨w1.heap.size, 0, none⟩) xs.length xs.length) xs.length cs ∧ (∀ i, i < j → ∃ X, cs[i]? = some (.string X) ∧ ∀ hi : i < xs.length, bl X = spanX xs[i]) ∧ Below w.heap.size w wr)
    case atStart => exact ⟨0, _, Nat.zero_le _, rfl, rfl, HO2.out, fun i h => by omega, HB2.out⟩
    case round =>
      obtain ⟨j, cs, hj, hk, rfl, hown, hcs, hbw⟩ := hrel
      have HK := Lib.hid hk; clear hk
      have HCS := Lib.hid hcs; clear hcs
      have hzw := hbw.size
      have HBW := Lib.hid hbw; clear hbw
      have hcl := hown.1
      have HCL := Lib.hid hcl; clear hcl
      have HOW := Lib.hid hown; clear hown
      by_cases hlt : j < xs.length
      · have hi : (j : Int) < (xs.length : Int) := by omega
        have c0 := (HBW.out.cell (p := ⟨g, off + j * 2, none⟩) hg).trans (HCELL.out j hlt).1
        have c1 := (HBW.out.cell (p := ⟨g, off + j * 2 + 1, none⟩) hg).trans (HCELL.out j hlt).2
        have HOKJ := Lib.hid ((okSp_iff xs[j]).1 (HOK.out xs[j] (List.getElem_mem _)))
        have HNX := Lib.hid (show ∀ X : ByteArray, bl X = spanX xs[j] → ∀ i, i = j → ∀ hi : i < xs.length, bl X = spanX xs[i] from fun X h i e hi => by subst e; exact h)
        generalize xs[j] = x at c0 c1 HOKJ HNX
        obtain ⟨x1, x2⟩ := x
        obtain ⟨hx1, hx2, hx3, hx4⟩ := HOKJ.out
        simp only at hx1 hx2 hx3 hx4 c0 c1
        have hT1 := numT_len x1
        have hT2 := numT_len x2
        have hA : (⟨(numT x1).toArray⟩ : ByteArray).size ≤ 2 := by simpa [ByteArray.size] using hT1
        have hB : (⟨(numT x2).toArray⟩ : ByteArray).size ≤ 2 := by simpa [ByteArray.size] using hT2
        have HN1 := Lib.hid (fun w => numText_any x1 w hx1 hx2)
        have HN2 := Lib.hid (fun w => numText_any x2 w hx3 hx4)
        have HW1 := Lib.hid (show bl (⟨(numT x1).toArray⟩ : ByteArray) = numT x1 from rfl)
        have HW2 := Lib.hid (show bl (⟨(numT x2).toArray⟩ : ByteArray) = numT x2 from rfl)
        clear hT1 hT2
        generalize (⟨(numT x1).toArray⟩ : ByteArray) = X1 at hA HN1 HW1
        generalize (⟨(numT x2).toArray⟩ : ByteArray) = X2 at hB HN2 HW2
        go_wp2_with fail
        refine (HN1.out _).mono ?_
        rintro e w3 ⟨rfl, hw3⟩
        have HO3 := Lib.hid (show w3.ownsRow w1.heap.size 9 1 (.slice (some ⟨w1.heap.size, 0, none⟩) xs.length xs.length) xs.length cs by rw [← hw3]; exact HOW.out.alloc _)
        have HB3 := Lib.hid (show Below w.heap.size w w3 by rw [← hw3]; exact HBW.out.alloc hzw _)
        have HT3 := Lib.hid (show Two w3 wr.heap.size 41 (.int .i64 x1) (.int .i64 x2) by rw [← hw3]; exact Two.new wr _ _ _)
        clear hw3 c0 c1
        have d0 := World.ownsRow.cellAt HO3.out j (by omega)
        rw [List.getElem?_eq_getElem (by rw [HCL.out]; omega)] at d0
        have f0 := World.ownsRow.frozenAt HO3.out j
        generalize cs[j]'_ = y0 at d0
        have hgz : w1.heap.size < wr.heap.size := by
          rcases HOW.out.2 with ⟨_, h0⟩ | ⟨g', cap', cur, hv', hb', hgg, _⟩
          · omega
          · simp only [Value.slice.injEq, Option.some.injEq, Addr.mk.injEq, and_true, true_and] at hv'
            obtain ⟨rfl, _⟩ := hv'
            exact (Array.getElem?_eq_some_iff.1 hgg).1
        have HS4 := Lib.hid (World.ownsRow.stored HO3.out j (.string X1))
        have HB4 := Lib.hid (HB3.out.setCell (p := ⟨w1.heap.size, j, none⟩) hs1 (.string X1))
        have HT4 := Lib.hid (two_far HT3.out (p := ⟨w1.heap.size, j, none⟩) (by show wr.heap.size ≠ w1.heap.size; omega) (.string X1))
        have c0 := HT4.out.c0
        have c1 := HT4.out.c1
        by_cases hx12 : x2 = x1
        · have HSP := Lib.hid (show spanX (x1, x2) = numT x1 by unfold spanX; rw [if_pos hx12]; simp)
          subst hx12
          go_wp2_with fail
          go_roundg (xs.length - (j + 1))
          case measure => rw [HK.out]; omega
          case rel =>
            refine ⟨j + 1, _, by omega, rfl, by go_num, HS4.out.1, fun i hij => ?_, HB4.out⟩
            by_cases e : i = j
            · subst e
              exact ⟨X1, by rw [List.getElem?_set_self (by rw [HCL.out]; omega)], HNX.out X1 (by rw [HW1.out, HSP.out]) i rfl⟩
            · rw [List.getElem?_set_ne (by omega)]
              exact HCS.out i (by omega)
        · have hxb : (x2 != x1) = true := by simpa using hx12
          have HSP := Lib.hid (show spanX (x1, x2) = numT x1 ++ 58 :: numT x2 by unfold spanX; rw [if_neg hx12])
          clear hx12
          have d1 := World.ownsRow.cellAt HS4.out.1 j (by omega)
          rw [List.getElem?_set_self (by rw [HCL.out]; omega)] at d1
          have f1 := World.ownsRow.frozenAt HS4.out.1 j
          go_wp2_with fail
          clear d0 f0 hi0 hz0 hz1 hz2 hcm hlc
          have HN2' := HN2
          generalize hW4 : w3.setCell ⟨w1.heap.size, j, none⟩ (.string X1) = w4 at *
          have hX : (⟨#[58]⟩ ++ X2 : ByteArray).size ≤ 3 := by rw [ByteArray.size_append, show (⟨#[58]⟩ : ByteArray).size = 1 from rfl]; omega
          have HS5 := Lib.hid (World.ownsRow.stored (own_drew1 HS4.out.1) j (.string (X1 ++ (⟨#[58]⟩ ++ X2))))
          have HB5 := Lib.hid ((Below.drewO HB4.out).setCell (p := ⟨w1.heap.size, j, none⟩) hs1 (.string (X1 ++ (⟨#[58]⟩ ++ X2))))
          clear hW4 HB3 HT3 HO3 HB2 HO2 HROW HV HCELL HOKJ hg
          go_region_with (go_at_call 19; refine (HN2.out _).mono ?_; rintro e w5 ⟨rfl, rfl⟩)
          all_goals (
            go_wp2_with fail
            go_roundg (xs.length - (j + 1))
            case measure => rw [HK.out]; omega
            case rel =>
              refine ⟨j + 1, _, by omega, rfl, by go_num, HS5.out.1, fun i hij => ?_, HB5.out⟩
              by_cases e : i = j
              · subst e
                exact ⟨_, by rw [List.getElem?_set_self (by rw [List.length_set, HCL.out]; omega)], HNX.out _ (by rw [bl_append, bl_append, HW1.out, HW2.out, HSP.out]; rfl) i rfl⟩
              · rw [List.getElem?_set_ne (by omega), List.getElem?_set_ne (by omega)]
                exact HCS.out i (by omega))
      · obtain rfl : j = xs.length := by omega
        obtain ⟨ys, hys, hyl, hyx⟩ := cells_strs (n := xs.length) (by rw [HCL.out]; omega) (fun i X => ∀ hi : i < xs.length, bl X = spanX xs[i]) HCS.out
        have hjt : Lib.join (ys.map (·.data.toList)) (⟨#[44]⟩ : ByteArray).data.toList = textL xs := join_text ys xs hyl (fun i hi hj => hyx i hj hi)
        have htl := textL_len xs
        have hgz : w1.heap.size < wr.heap.size := by
          rcases HOW.out.2 with ⟨_, h0⟩ | ⟨g', cap', cur, hv', hb', hgg, _⟩
          · omega
          · simp only [Value.slice.injEq, Option.some.injEq, Addr.mk.injEq, and_true, true_and] at hv'
            obtain ⟨rfl, _⟩ := hv'
            exact (Array.getElem?_eq_some_iff.1 hgg).1
        have HJ := Tryd.strings_Join w1.heap.size 0 xs.length ys ⟨#[44]⟩ wr (fun i x hx => by
          have hi := (List.getElem?_eq_some_iff.1 hx).1
          rw [Nat.zero_add, World.ownsRow.cellAt HOW.out i (by omega), hys, List.getElem?_map, hx]; rfl) hgz (by omega) (by omega) (by rw [hjt]; omega)
        rw [hjt, HT.out, hyl] at HJ
        have HJJ := Lib.hid HJ; clear HJ hjt hyx hyl hys htl
        go_wp2_with fail
        refine HJJ.out.mono ?_
        rintro e w5 ⟨rfl, hb5⟩
        have HB5 := Lib.hid (HBW.out.trans (hb5.mono hzw)); clear hb5
        go_wp2_with fail
        go_ret
        exact ⟨rfl, HB5.out⟩
end Go.Proofs.YthabmjadfomnkaaDoor
