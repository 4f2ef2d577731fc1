/- Contracts: the reference's SetText. -/
import Derived.Test.YthabmjadfomnkaaDoorSetPW
import Derived.Deep.RegionWith
import Derived.IntWalk
import Derived.Laws.IdiomStrings
namespace Go.Proofs.YthabmjadfomnkaaDoor
open Go.RowKit
set_option linter.unusedVariables false

theorem one_conv (W : World) (a : Addr) (cap : Nat) (c : Nat) (hc : c < 256) (h : W.cell? a = some (.int .u8 (c : Int))) :
    (convert 22 9 (.slice (some a) 1 cap)).run Tryd.prog W = .ok (.string ⟨#[UInt8.ofNat c]⟩) W := by
  have h0 : (UInt8.ofNat c).toNat = c := by rw [UInt8.toNat_ofNat']; exact Nat.mod_eq_of_lt (by omega)
  exact run_convert_bytes_back W 22 9 5 a cap [UInt8.ofNat c] Tryd.underlying22 Tryd.underlying5 Tryd.underlying9 (fun j hj => by
    obtain rfl : j = 0 := by simp at hj; exact hj
    simp only [List.getElem_cons_zero, h0]
    simpa [Addr.add] using h)
/-- The decimals of a number below 100. -/
def decT (k : Nat) : List UInt8 := if k < 10 then [UInt8.ofNat (48 + k)] else [UInt8.ofNat (48 + k / 10), UInt8.ofNat (48 + k % 10)]

set_option maxHeartbeats 2000000 in
theorem dec_one (k : Nat) (w : World) (hk : k < 10) :
    Calls Tryd.prog 39 #[.int .i64 (k : Int)] w fun e w' => e = .returned (.string ⟨#[UInt8.ofNat (48 + k)]⟩) ∧ Below w.heap.size w w' := by
  have h1 : ¬ (k : Int) < 0 := by omega
  have h2 : ¬ (k : Int) < -9223372036854775807 := by omega
  have h3 : (k : Int) < 10 := by omega
  have hcv := one_conv (w.alloc (.cells #[.int .u8 (48 + (k : Int))] 5)) ⟨w.heap.size, 0, none⟩ 1 (48 + k) (by omega) (by simp)
  go_enter Tryd.func39, Tryd.ntmps39
  go_wp2_with fail
  go_ret
  exact ⟨rfl, (Below.refl _ _).alloc (Nat.le_refl _) _⟩
set_option maxHeartbeats 8000000 in
theorem dec_two (k : Nat) (w : World) (hk : 10 ≤ k) (hk2 : k ≤ 99) :
    Calls Tryd.prog 39 #[.int .i64 (k : Int)] w fun e w' => e = .returned (.string ⟨#[UInt8.ofNat (48 + k / 10), UInt8.ofNat (48 + k % 10)]⟩) ∧ Below w.heap.size w w' := by
  have h1 : ¬ (k : Int) < 0 := by omega
  have h2 : ¬ (k : Int) < -9223372036854775807 := by omega
  have h3 : ¬ (k : Int) < 10 := by omega
  obtain ⟨q, hq⟩ : ∃ q, q = k / 10 := ⟨_, rfl⟩
  obtain ⟨r, hr⟩ : ∃ r, r = k % 10 := ⟨_, rfl⟩
  rw [← hq, ← hr]
  have hq9 : q < 10 := by omega
  have hr9 : r < 10 := by omega
  have q1 : (k : Int) / 10 = (q : Int) := by omega
  have q2 : (k : Int).tdiv 10 = (q : Int) := by rw [Int.tdiv_eq_ediv_of_nonneg (by omega)]; exact q1
  have r1 : (k : Int) % 10 = (r : Int) := by omega
  have r2 : (k : Int).tmod 10 = (r : Int) := by rw [Int.tmod_eq_emod_of_nonneg (by omega)]; exact r1
  have w1 : IntKind.i64.wrap (48 + (r : Int)) = 48 + (r : Int) := IntWalk.i64_in _ (by omega)
  have w2 : IntKind.u8.wrap (48 + (r : Int)) = 48 + (r : Int) := IntWalk.u8_in _ (by omega)
  have w3 : IntKind.i64.wrap (q : Int) = (q : Int) := IntWalk.i64_in _ (by omega)
  clear hq hr
  go_enter Tryd.func39, Tryd.ntmps39
  go_wp2_with fail
  have hcv1 := one_conv (w.alloc (.cells #[.int .u8 (48 + (r : Int))] 5)).drew ⟨w.heap.size, 0, none⟩ 1 (48 + r) (by omega) (by show (w.alloc _).cell? _ = _; simp)
  have hcv2 : ∀ W : World, (convert 22 9 (.slice (some ⟨W.heap.size, 0, none⟩) 1 1)).run Tryd.prog (W.alloc (.cells #[.int .u8 (48 + (r : Int))] 5)) = .ok (.string ⟨#[UInt8.ofNat (48 + r)]⟩) (W.alloc (.cells #[.int .u8 (48 + (r : Int))] 5)) :=
    fun W => one_conv _ ⟨W.heap.size, 0, none⟩ 1 (48 + r) (by omega) (by simp)
  go_region_with (first
    | (go_at_call 39; refine (dec_one q w.drew hq9).mono ?_; rintro e w4 ⟨rfl, hb4⟩; have hB4 : Below w.heap.size w w4 := (Below.drewN' (Below.refl _ _) 1).trans hb4)
    | (go_at_call 39; refine (dec_one q (w.alloc (.cells #[.int .u8 (48 + (r : Int))] 5)).drew hq9).mono ?_; rintro e w4 ⟨rfl, hb4⟩; have hB4 : Below w.heap.size w w4 := (Below.drewN' ((Below.refl _ _).alloc (Nat.le_refl _) _) 1).trans (hb4.mono (by show _ ≤ (w.alloc _).heap.size; simp)); have hcv4 := one_conv w4 ⟨w.heap.size, 0, none⟩ 1 (48 + r) (by omega) ((hb4.cell (p := ⟨w.heap.size, 0, none⟩) (by show _ < (w.alloc _).heap.size; simp)).trans (by show (w.alloc _).cell? _ = _; simp))))
  all_goals
    have HB4 := Lib.hid hB4
    have hz4 := hB4.size
    clear hB4 hb4 hcv1 hcv2 w1 w2 w3 q1 q2 r1 r2
    go_wp2_with fail
    go_ret
    refine ⟨?_, ?_⟩
    · first | rfl | (simp; done) | (simp; rfl)
    · first | exact HB4.out | exact HB4.out.alloc hz4 _

theorem l6Dec_any (k : Nat) (w : World) (hk : k ≤ 99) :
    Calls Tryd.prog 39 #[.int .i64 (k : Int)] w fun e w' => e = .returned (.string ⟨(decT k).toArray⟩) ∧ Below w.heap.size w w' := by
  unfold decT
  by_cases h : k < 10
  · rw [if_pos h]; exact dec_one k w h
  · rw [if_neg h]; exact dec_two k w (by omega) hk
theorem numT_dec (n : Int) (h0 : 0 < n) : numT n = decT n.toNat := by
  unfold numT decT
  rw [if_neg (by omega)]
  by_cases h : n < 10
  · rw [if_pos h, if_pos (by omega)]
  · rw [if_neg h, if_neg (by omega)]
theorem l3Word_any (n : Int) (w : World) (h0 : 0 ≤ n) (h1 : n ≤ 99) :
    Calls Tryd.prog 22 #[.int .i64 n] w fun e w' => e = .returned (.string ⟨(numT n).toArray⟩) ∧ Below w.heap.size w w' := by
  by_cases hn : n = 0
  · subst hn
    go_enter Tryd.func22, Tryd.ntmps22
    go_wp2_with fail
    go_ret
    exact ⟨rfl, Below.refl _ _⟩
  · have hd := numT_dec n (by omega)
    rw [hd]
    clear hd
    obtain ⟨k, rfl⟩ := Int.eq_ofNat_of_zero_le h0
    have hk0 : ((k : Int) == 0) = false := beq_eq_false_iff_ne.2 hn
    rw [Int.toNat_natCast]
    clear hn
    go_enter Tryd.func22, Tryd.ntmps22
    go_wp2_with fail
    refine (l6Dec_any k _ (by omega)).mono ?_
    rintro e w1 ⟨rfl, hb1⟩
    have HB1 := Lib.hid hb1; clear hb1
    go_wp2_with fail
    go_ret
    exact ⟨rfl, HB1.out⟩

/-- The text of a set, or nothing. -/
def setTx (xs : List Sp) : ByteArray := if setV xs then ⟨(textL xs).toArray⟩ else ⟨#[]⟩
theorem textL_step (xs : List Sp) (j : Nat) (h : j < xs.length) : textL (xs.take (j + 1)) = (if j = 0 then [] else textL (xs.take j) ++ [44]) ++ spanX xs[j] := by
  rw [List.take_succ_eq_append_getElem h]
  by_cases h0 : j = 0
  · subst h0; simp [textL]
  · rw [if_neg h0, textL_snoc _ _ (by intro e; have hl := congrArg List.length e; rw [List.length_take, List.length_nil] at hl; omega)]; simp
theorem bl_word (n : Int) : bl ⟨(numT n).toArray⟩ = numT n := rfl
theorem sz_of {X : ByteArray} {l : List UInt8} (h : bl X = l) : X.size = l.length := by rw [← h, bl_length]

set_option maxHeartbeats 8000000 in
theorem specST_any (v : Value) (xs : List Sp) (w : World) (hv : SpansAt w v xs) :
    Calls Tryd.prog 8 #[v] w fun e w' => e = .returned (.string (setTx xs)) ∧ Below w.heap.size w w' := by
  have HV := Lib.hid hv
  obtain ⟨a, cap, rfl, hlc, hcm, hrow⟩ := hv
  unfold maxLen at hcm
  have HROW := Lib.hid hrow; clear hrow
  unfold setTx
  cases hsv : setV xs
  · have HS := Lib.hid hsv; clear hsv
    rw [if_neg (by simp)]
    go_enter Tryd.func8, Tryd.ntmps8
    go_wp2_with fail
    go_loopg [3, 4] 0 (fun k sv iv wr => k = 0 ∧ sv = .string ⟨#[]⟩ ∧ iv = .int .i64 0 ∧ w = wr)
    case atStart => exact ⟨rfl, rfl, rfl, rfl⟩
    case round =>
      obtain ⟨hk, rfl, rfl, rfl⟩ := hrel
      clear hk
      by_cases h0 : (0 : Int) < (xs.length : Int)
      · have d0 : decide ((0 : Int) < (xs.length : Int)) = true := decide_eq_true h0
        go_wp2_with fail
        refine (specSV_any _ xs _ HV.out).mono ?_
        rw [HS.out]
        rintro e w1 ⟨rfl, rfl⟩
        go_wp2_with fail
        go_ret
        exact ⟨rfl, Below.refl _ _⟩
      · have d0 : decide ((0 : Int) < (xs.length : Int)) = false := decide_eq_false h0
        go_wp2_with fail
        go_ret
        exact ⟨rfl, Below.refl _ _⟩
  · rw [if_pos rfl]
    have h6 : xs.length ≤ 6 := by
      simp only [setV, Bool.and_eq_true, decide_eq_true_iff] at hsv
      exact hsv.2.2
    have HOK := Lib.hid (show ∀ x ∈ xs, okSp x = true by
      simp only [setV, Bool.and_eq_true, decide_eq_true_iff] at hsv
      exact List.all_eq_true.1 hsv.1)
    have HS := Lib.hid hsv; clear hsv
    go_enter Tryd.func8, Tryd.ntmps8
    go_wp2_with fail
    go_loopg [3, 4] xs.length (fun k sv iv wr => ∃ (j : Nat) (X : ByteArray), j ≤ xs.length ∧ k = xs.length - j ∧ iv = .int .i64 j ∧ sv = .string X ∧ bl X = textL (xs.take j) ∧ Below w.heap.size w wr)
    case atStart => exact ⟨0, ⟨#[]⟩, Nat.zero_le _, rfl, rfl, rfl, rfl, Below.refl _ _⟩
    case round =>
      obtain ⟨j, X, hj, hk, rfl, rfl, hX, hbw⟩ := hrel
      have HK := Lib.hid hk; clear hk
      have hXz : X.size ≤ 36 := by
        have := textL_len (xs.take j)
        rw [List.length_take] at this
        rw [sz_of hX]; omega
      have HX := Lib.hid hX; clear hX
      have hzw := hbw.size
      have HVW := Lib.hid (HV.out.below hbw)
      have HBW := Lib.hid hbw; clear hbw
      by_cases hlt : j < xs.length
      · have hi : (j : Int) < (xs.length : Int) := by omega
        have di : decide ((j : Int) < (xs.length : Int)) = true := decide_eq_true hi
        have hne : xs ≠ [] := by rintro rfl; simp at hlt
        obtain ⟨g, off, rfl, hg, hcell⟩ := HROW.out.resolve_left hne
        clear hne
        have HC0 := Lib.hid (hcell j hlt).1
        have HC1 := Lib.hid (hcell j hlt).2
        clear hcell
        have HST := Lib.hid (textL_step xs j hlt)
        have HOKJ := Lib.hid ((okSp_iff xs[j]).1 (HOK.out xs[j] (List.getElem_mem _)))
        generalize xs[j] = x at HC0 HC1 HST HOKJ
        obtain ⟨x1, x2⟩ := x
        obtain ⟨hx1, hx2, hx3, hx4⟩ := HOKJ.out
        simp only at hx1 hx2 hx3 hx4
        have hT1 := numT_len x1
        have hT2 := numT_len x2
        have hA : (⟨(numT x1).toArray⟩ : ByteArray).size ≤ 2 := by simpa [ByteArray.size] using hT1
        have hB : (⟨(numT x2).toArray⟩ : ByteArray).size ≤ 2 := by simpa [ByteArray.size] using hT2
        clear hT1 hT2
        -- the text so far, with a comma where one is wanted
        obtain ⟨Y, hYz, hY, hYX⟩ : ∃ Y : ByteArray, Y.size ≤ 37 ∧ bl Y = (if j = 0 then [] else textL (xs.take j) ++ [44]) ∧ ((j = 0 ∧ Y = X) ∨ (0 < j ∧ Y = X ++ ⟨#[44]⟩)) := by
          by_cases h0 : j = 0
          · exact ⟨X, by omega, by rw [HX.out, h0]; rfl, .inl ⟨h0, rfl⟩⟩
          · refine ⟨X ++ ⟨#[44]⟩, by rw [ByteArray.size_append, show (⟨#[44]⟩ : ByteArray).size = 1 from rfl]; omega, ?_, .inr ⟨by omega, rfl⟩⟩
            rw [if_neg h0, bl_append, HX.out]; rfl
        have HY := Lib.hid hY; clear hY
        go_wp2_with fail
        refine (specSV_any _ xs _ HVW.out).mono ?_
        rw [HS.out]
        rintro e w1 ⟨rfl, rfl⟩
        have c0 := (HBW.out.cell (p := ⟨g, off + j * 2, none⟩) hg).trans HC0.out
        rcases hYX with ⟨h0, rfl⟩ | ⟨h0, rfl⟩
        · have hj0 : ¬ (0 : Int) < (j : Int) := by omega
          have H0 := Lib.hid h0; clear h0
          go_wp2_with fail
          refine (l3Word_any x1 _ hx1 hx2).mono ?_
          rintro e w2 ⟨rfl, hb2⟩
          have HB2 := Lib.hid (HBW.out.trans (hb2.mono hzw)); clear hb2 c0
          have hz2 := HB2.out.size
          have c0 := (HB2.out.cell (p := ⟨g, off + j * 2, none⟩) hg).trans HC0.out
          have c1 := (HB2.out.cell (p := ⟨g, off + j * 2 + 1, none⟩) hg).trans HC1.out
          generalize hW1 : (⟨(numT x1).toArray⟩ : ByteArray) = W1 at *
          have HW1 := Lib.hid (show bl W1 = numT x1 by rw [← hW1]; rfl); clear hW1
          by_cases hx12 : x2 = x1
          · have HSP := Lib.hid (show spanX (x1, x2) = numT x1 by unfold spanX; rw [if_pos hx12]; simp)
            subst hx12
            go_wp2_with fail
            go_quiet (fail)
            go_wp2_with fail
            go_roundg (xs.length - (j + 1))
            case measure => rw [HK.out]; omega
            case rel => exact ⟨j + 1, _, by omega, rfl, by go_num, rfl, by rw [bl_append, HY.out, HW1.out, HST.out, HSP.out], Below.drewN' HB2.out nq⟩
          · have hxb : (x2 != x1) = true := by simpa using hx12
            have HSP := Lib.hid (show spanX (x1, x2) = numT x1 ++ 58 :: numT x2 by unfold spanX; rw [if_neg hx12])
            clear hx12
            go_wp2_with fail
            go_quiet (fail)
            have HB3 := Lib.hid (Below.drewN' HB2.out nq)
            generalize w2.drewN nq = w3 at *
            have hz3 := HB3.out.size
            clear c0 c1
            have c1 := (HB3.out.cell (p := ⟨g, off + j * 2 + 1, none⟩) hg).trans HC1.out
            go_wp2_with fail
            refine (l3Word_any x2 _ hx3 hx4).mono ?_
            rintro e w4 ⟨rfl, hb4⟩
            have HB4 := Lib.hid (HB3.out.trans (hb4.mono hz3)); clear hb4
            generalize hW2 : (⟨(numT x2).toArray⟩ : ByteArray) = W2 at *
            have HW2 := Lib.hid (show bl W2 = numT x2 by rw [← hW2]; rfl); clear hW2
            clear c1
            go_wp2_with fail
            go_roundg (xs.length - (j + 1))
            case measure => rw [HK.out]; omega
            case rel => exact ⟨j + 1, _, by omega, rfl, by go_num, rfl, by rw [bl_append, bl_append, bl_append, HY.out, HW1.out, HW2.out, HST.out, HSP.out]; simp [bl_mk], HB4.out⟩
        · have hj0 : (0 : Int) < (j : Int) := by omega
          go_wp2_with fail
          refine (l3Word_any x1 _ hx1 hx2).mono ?_
          rintro e w2 ⟨rfl, hb2⟩
          have HB2 := Lib.hid (HBW.out.trans (hb2.mono hzw)); clear hb2 c0
          have hz2 := HB2.out.size
          have c0 := (HB2.out.cell (p := ⟨g, off + j * 2, none⟩) hg).trans HC0.out
          have c1 := (HB2.out.cell (p := ⟨g, off + j * 2 + 1, none⟩) hg).trans HC1.out
          generalize hW1 : (⟨(numT x1).toArray⟩ : ByteArray) = W1 at *
          have HW1 := Lib.hid (show bl W1 = numT x1 by rw [← hW1]; rfl); clear hW1
          by_cases hx12 : x2 = x1
          · have HSP := Lib.hid (show spanX (x1, x2) = numT x1 by unfold spanX; rw [if_pos hx12]; simp)
            subst hx12
            go_wp2_with fail
            go_quiet (fail)
            go_wp2_with fail
            go_roundg (xs.length - (j + 1))
            case measure => rw [HK.out]; omega
            case rel => exact ⟨j + 1, _, by omega, rfl, by go_num, rfl, by rw [bl_append, HY.out, HW1.out, HST.out, HSP.out], Below.drewN' HB2.out nq⟩
          · have hxb : (x2 != x1) = true := by simpa using hx12
            have HSP := Lib.hid (show spanX (x1, x2) = numT x1 ++ 58 :: numT x2 by unfold spanX; rw [if_neg hx12])
            clear hx12
            go_wp2_with fail
            go_quiet (fail)
            have HB3 := Lib.hid (Below.drewN' HB2.out nq)
            generalize w2.drewN nq = w3 at *
            have hz3 := HB3.out.size
            clear c0 c1
            have c1 := (HB3.out.cell (p := ⟨g, off + j * 2 + 1, none⟩) hg).trans HC1.out
            go_wp2_with fail
            refine (l3Word_any x2 _ hx3 hx4).mono ?_
            rintro e w4 ⟨rfl, hb4⟩
            have HB4 := Lib.hid (HB3.out.trans (hb4.mono hz3)); clear hb4
            generalize hW2 : (⟨(numT x2).toArray⟩ : ByteArray) = W2 at *
            have HW2 := Lib.hid (show bl W2 = numT x2 by rw [← hW2]; rfl); clear hW2
            clear c1
            go_wp2_with fail
            go_roundg (xs.length - (j + 1))
            case measure => rw [HK.out]; omega
            case rel => exact ⟨j + 1, _, by omega, rfl, by go_num, rfl, by rw [bl_append, bl_append, bl_append, HY.out, HW1.out, HW2.out, HST.out, HSP.out]; simp [bl_mk], HB4.out⟩
      · have hi : ¬ (j : Int) < (xs.length : Int) := by omega
        have di : decide ((j : Int) < (xs.length : Int)) = false := decide_eq_false hi
        have HFIN := Lib.hid (show X = ⟨(textL xs).toArray⟩ from bl_inj (by
          rw [HX.out, List.take_of_length_le (by omega)]; rfl))
        go_wp2_with fail
        go_ret
        exact ⟨by rw [← HFIN.out]; rfl, HBW.out⟩

end Go.Proofs.YthabmjadfomnkaaDoor
