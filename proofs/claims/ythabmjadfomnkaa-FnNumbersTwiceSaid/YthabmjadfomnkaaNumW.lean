/- Contracts: the reference's SetNumbers. -/
import Derived.Test.YthabmjadfomnkaaLSet
namespace Go.Proofs.Ythabmjadfomnkaa
open Go.RowKit
set_option linter.unusedVariables false

theorem infoInt : (Try.prog.info? 3).map (fun i => (i.zero, i.size, i.bytes)) = some (some (.int .i64 0), 1, 8) := by kernel_rfl
/-- Numbers in a row of the call's own. -/
def GaveInts (ns : List Int) (w : World) (e : Ending) (w' : World) : Prop := ∃ v, e = .returned v ∧ w'.ownsRow w.heap.size 3 1 v ns.length (ns.map (Value.int .i64)) ∧ Below w.heap.size w w'
theorem hasN_split (xs : List Sp) (j : Nat) (h : j < xs.length) (last n : Int) : hasN (xs.drop j) last n = (hasSp xs[j] last n || hasN (xs.drop (j + 1)) last n) := by
  unfold hasN
  rw [List.drop_eq_getElem_cons h, List.any_cons]
theorem hasSp_of {x1 x2 last A B lo hi : Int} (n : Int) (h1 : bnd x1 last = A) (h2 : bnd x2 last = B) (h3 : min A B = lo) (h4 : max A B = hi) : hasSp (x1, x2) last n = (decide (lo ≤ n) && decide (n ≤ hi)) := by
  subst h1 h2 h3 h4; rfl
theorem hasN_end (xs : List Sp) (last n : Int) : hasN (xs.drop xs.length) last n = false := by simp [hasN]

set_option maxHeartbeats 2000000 in
theorem l3Has_any (v : Value) (xs : List Sp) (last n : Int) (w : World) (hv : SpansAt w v xs) :
    Calls Try.prog 46 #[v, .int .i64 last, .int .i64 n] w fun e w' => e = .returned (.bool (hasN xs last n)) ∧ w = w' := by
  obtain ⟨a, cap, rfl, hlc, hcm, hrow⟩ := hv
  unfold maxLen at hcm
  have HROW := Lib.hid hrow; clear hrow
  generalize hB : hasN xs last n = B
  have HB := Lib.hid hB; clear hB
  go_enter Try.func46, Try.ntmps46
  go_wp2_with fail
  go_loopg [7] xs.length (fun k iv wr => ∃ j : Nat, j ≤ xs.length ∧ k = xs.length - j ∧ iv = .int .i64 j ∧ hasN (xs.drop j) last n = B ∧ w = wr)
  case atStart => exact ⟨0, Nat.zero_le _, rfl, rfl, HB.out, rfl⟩
  case round =>
    obtain ⟨j, hj, hk, rfl, hall, rfl⟩ := hrel
    have HK := Lib.hid hk; clear hk
    have HALL := Lib.hid hall; clear hall
    by_cases hlt : j < xs.length
    · have hi : (j : Int) < (xs.length : Int) := by omega
      have hne : xs ≠ [] := by rintro rfl; simp at hlt
      obtain ⟨g, off, rfl, hg, hcell⟩ := HROW.out.resolve_left hne
      clear hne
      have c0 := (hcell j hlt).1
      have c1 := (hcell j hlt).2
      clear hcell
      have HSP := Lib.hid (hasN_split xs j hlt last n)
      generalize xs[j] = x at c0 c1 HSP
      obtain ⟨x1, x2⟩ := x
      simp only at c0 c1
      cases e1 : (x1 == 0)
      · have B1 := Lib.hid (show bnd x1 last = x1 by unfold bnd; rw [if_neg (by simpa using e1)])
        cases e2 : (x2 == 0)
        · have B2 := Lib.hid (show bnd x2 last = x2 by unfold bnd; rw [if_neg (by simpa using e2)])
          rcases Int.lt_trichotomy x1 x2 with hlo | hlo | hlo
          · have hlo2 : ¬ x2 < x1 := by omega
            have HQ := Lib.hid (hasSp_of n B1.out B2.out (show min x1 x2 = x1 by omega) (show max x1 x2 = x2 by omega))
            go_wp2_with fail
            refine (l6In_any n x1 x2 _).mono ?_
            rintro e w1 ⟨rfl, rfl⟩
            cases hb : (decide (x1 ≤ n) && decide (n ≤ x2))
            · have HD := Lib.hid (show hasN (xs.drop (j + 1)) last n = B by rw [← HALL.out, HSP.out, HQ.out, hb]; rfl)
              clear hb
              go_wp2_with fail
              go_roundg (xs.length - (j + 1))
              case measure => rw [HK.out]; omega
              case rel => exact ⟨j + 1, by omega, rfl, by go_num, HD.out, rfl⟩
            · obtain rfl : B = true := by rw [← HALL.out, HSP.out, HQ.out, hb]; rfl
              clear hb
              go_wp2_with fail
              go_ret
              exact ⟨rfl, rfl⟩
          · subst hlo
            have HQ := Lib.hid (hasSp_of n B1.out B2.out (show min x1 x1 = x1 by omega) (show max x1 x1 = x1 by omega))
            go_wp2_with fail
            refine (l6In_any n x1 x1 _).mono ?_
            rintro e w1 ⟨rfl, rfl⟩
            cases hb : (decide (x1 ≤ n) && decide (n ≤ x1))
            · have HD := Lib.hid (show hasN (xs.drop (j + 1)) last n = B by rw [← HALL.out, HSP.out, HQ.out, hb]; rfl)
              clear hb
              go_wp2_with fail
              go_roundg (xs.length - (j + 1))
              case measure => rw [HK.out]; omega
              case rel => exact ⟨j + 1, by omega, rfl, by go_num, HD.out, rfl⟩
            · obtain rfl : B = true := by rw [← HALL.out, HSP.out, HQ.out, hb]; rfl
              clear hb
              go_wp2_with fail
              go_ret
              exact ⟨rfl, rfl⟩
          · have hlo2 : ¬ x1 < x2 := by omega
            have HQ := Lib.hid (hasSp_of n B1.out B2.out (show min x1 x2 = x2 by omega) (show max x1 x2 = x1 by omega))
            go_wp2_with fail
            refine (l6In_any n x2 x1 _).mono ?_
            rintro e w1 ⟨rfl, rfl⟩
            cases hb : (decide (x2 ≤ n) && decide (n ≤ x1))
            · have HD := Lib.hid (show hasN (xs.drop (j + 1)) last n = B by rw [← HALL.out, HSP.out, HQ.out, hb]; rfl)
              clear hb
              go_wp2_with fail
              go_roundg (xs.length - (j + 1))
              case measure => rw [HK.out]; omega
              case rel => exact ⟨j + 1, by omega, rfl, by go_num, HD.out, rfl⟩
            · obtain rfl : B = true := by rw [← HALL.out, HSP.out, HQ.out, hb]; rfl
              clear hb
              go_wp2_with fail
              go_ret
              exact ⟨rfl, rfl⟩
        · have B2 := Lib.hid (show bnd x2 last = last by unfold bnd; rw [if_pos (by simpa using e2)])
          rcases Int.lt_trichotomy x1 last with hlo | hlo | hlo
          · have hlo2 : ¬ last < x1 := by omega
            have HQ := Lib.hid (hasSp_of n B1.out B2.out (show min x1 last = x1 by omega) (show max x1 last = last by omega))
            go_wp2_with fail
            refine (l6In_any n x1 last _).mono ?_
            rintro e w1 ⟨rfl, rfl⟩
            cases hb : (decide (x1 ≤ n) && decide (n ≤ last))
            · have HD := Lib.hid (show hasN (xs.drop (j + 1)) last n = B by rw [← HALL.out, HSP.out, HQ.out, hb]; rfl)
              clear hb
              go_wp2_with fail
              go_roundg (xs.length - (j + 1))
              case measure => rw [HK.out]; omega
              case rel => exact ⟨j + 1, by omega, rfl, by go_num, HD.out, rfl⟩
            · obtain rfl : B = true := by rw [← HALL.out, HSP.out, HQ.out, hb]; rfl
              clear hb
              go_wp2_with fail
              go_ret
              exact ⟨rfl, rfl⟩
          · subst hlo
            have HQ := Lib.hid (hasSp_of n B1.out B2.out (show min x1 x1 = x1 by omega) (show max x1 x1 = x1 by omega))
            go_wp2_with fail
            refine (l6In_any n x1 x1 _).mono ?_
            rintro e w1 ⟨rfl, rfl⟩
            cases hb : (decide (x1 ≤ n) && decide (n ≤ x1))
            · have HD := Lib.hid (show hasN (xs.drop (j + 1)) x1 n = B by rw [← HALL.out, HSP.out, HQ.out, hb]; rfl)
              clear hb
              go_wp2_with fail
              go_roundg (xs.length - (j + 1))
              case measure => rw [HK.out]; omega
              case rel => exact ⟨j + 1, by omega, rfl, by go_num, HD.out, rfl⟩
            · obtain rfl : B = true := by rw [← HALL.out, HSP.out, HQ.out, hb]; rfl
              clear hb
              go_wp2_with fail
              go_ret
              exact ⟨rfl, rfl⟩
          · have hlo2 : ¬ x1 < last := by omega
            have HQ := Lib.hid (hasSp_of n B1.out B2.out (show min x1 last = last by omega) (show max x1 last = x1 by omega))
            go_wp2_with fail
            refine (l6In_any n last x1 _).mono ?_
            rintro e w1 ⟨rfl, rfl⟩
            cases hb : (decide (last ≤ n) && decide (n ≤ x1))
            · have HD := Lib.hid (show hasN (xs.drop (j + 1)) last n = B by rw [← HALL.out, HSP.out, HQ.out, hb]; rfl)
              clear hb
              go_wp2_with fail
              go_roundg (xs.length - (j + 1))
              case measure => rw [HK.out]; omega
              case rel => exact ⟨j + 1, by omega, rfl, by go_num, HD.out, rfl⟩
            · obtain rfl : B = true := by rw [← HALL.out, HSP.out, HQ.out, hb]; rfl
              clear hb
              go_wp2_with fail
              go_ret
              exact ⟨rfl, rfl⟩
      · have B1 := Lib.hid (show bnd x1 last = last by unfold bnd; rw [if_pos (by simpa using e1)])
        cases e2 : (x2 == 0)
        · have B2 := Lib.hid (show bnd x2 last = x2 by unfold bnd; rw [if_neg (by simpa using e2)])
          rcases Int.lt_trichotomy last x2 with hlo | hlo | hlo
          · have hlo2 : ¬ x2 < last := by omega
            have HQ := Lib.hid (hasSp_of n B1.out B2.out (show min last x2 = last by omega) (show max last x2 = x2 by omega))
            go_wp2_with fail
            refine (l6In_any n last x2 _).mono ?_
            rintro e w1 ⟨rfl, rfl⟩
            cases hb : (decide (last ≤ n) && decide (n ≤ x2))
            · have HD := Lib.hid (show hasN (xs.drop (j + 1)) last n = B by rw [← HALL.out, HSP.out, HQ.out, hb]; rfl)
              clear hb
              go_wp2_with fail
              go_roundg (xs.length - (j + 1))
              case measure => rw [HK.out]; omega
              case rel => exact ⟨j + 1, by omega, rfl, by go_num, HD.out, rfl⟩
            · obtain rfl : B = true := by rw [← HALL.out, HSP.out, HQ.out, hb]; rfl
              clear hb
              go_wp2_with fail
              go_ret
              exact ⟨rfl, rfl⟩
          · subst hlo
            have HQ := Lib.hid (hasSp_of n B1.out B2.out (show min last last = last by omega) (show max last last = last by omega))
            go_wp2_with fail
            refine (l6In_any n last last _).mono ?_
            rintro e w1 ⟨rfl, rfl⟩
            cases hb : (decide (last ≤ n) && decide (n ≤ last))
            · have HD := Lib.hid (show hasN (xs.drop (j + 1)) last n = B by rw [← HALL.out, HSP.out, HQ.out, hb]; rfl)
              clear hb
              go_wp2_with fail
              go_roundg (xs.length - (j + 1))
              case measure => rw [HK.out]; omega
              case rel => exact ⟨j + 1, by omega, rfl, by go_num, HD.out, rfl⟩
            · obtain rfl : B = true := by rw [← HALL.out, HSP.out, HQ.out, hb]; rfl
              clear hb
              go_wp2_with fail
              go_ret
              exact ⟨rfl, rfl⟩
          · have hlo2 : ¬ last < x2 := by omega
            have HQ := Lib.hid (hasSp_of n B1.out B2.out (show min last x2 = x2 by omega) (show max last x2 = last by omega))
            go_wp2_with fail
            refine (l6In_any n x2 last _).mono ?_
            rintro e w1 ⟨rfl, rfl⟩
            cases hb : (decide (x2 ≤ n) && decide (n ≤ last))
            · have HD := Lib.hid (show hasN (xs.drop (j + 1)) last n = B by rw [← HALL.out, HSP.out, HQ.out, hb]; rfl)
              clear hb
              go_wp2_with fail
              go_roundg (xs.length - (j + 1))
              case measure => rw [HK.out]; omega
              case rel => exact ⟨j + 1, by omega, rfl, by go_num, HD.out, rfl⟩
            · obtain rfl : B = true := by rw [← HALL.out, HSP.out, HQ.out, hb]; rfl
              clear hb
              go_wp2_with fail
              go_ret
              exact ⟨rfl, rfl⟩
        · have B2 := Lib.hid (show bnd x2 last = last by unfold bnd; rw [if_pos (by simpa using e2)])
          have HQ := Lib.hid (hasSp_of n B1.out B2.out (show min last last = last by omega) (show max last last = last by omega))
          go_wp2_with fail
          refine (l6In_any n last last _).mono ?_
          rintro e w1 ⟨rfl, rfl⟩
          cases hb : (decide (last ≤ n) && decide (n ≤ last))
          · have HD := Lib.hid (show hasN (xs.drop (j + 1)) last n = B by rw [← HALL.out, HSP.out, HQ.out, hb]; rfl)
            clear hb
            go_wp2_with fail
            go_roundg (xs.length - (j + 1))
            case measure => rw [HK.out]; omega
            case rel => exact ⟨j + 1, by omega, rfl, by go_num, HD.out, rfl⟩
          · obtain rfl : B = true := by rw [← HALL.out, HSP.out, HQ.out, hb]; rfl
            clear hb
            go_wp2_with fail
            go_ret
            exact ⟨rfl, rfl⟩
    · obtain rfl : j = xs.length := by omega
      have hi : ¬ (xs.length : Int) < (xs.length : Int) := by omega
      obtain rfl : B = false := by rw [← HALL.out, hasN_end]
      go_wp2_with fail
      go_ret
      exact ⟨rfl, rfl⟩

theorem upf_filter (p : Int → Bool) (j : Nat) : (upFrom 1 (j + 1)).filter p = (upFrom 1 j).filter p ++ (if p ((j : Int) + 1) then [(j : Int) + 1] else []) := by
  rw [upFrom_succ, List.filter_append]
  congr 1
  rw [show (1 : Int) + (j : Int) = (j : Int) + 1 by omega]
  simp only [List.filter_cons, List.filter_nil]
theorem upf_len (p : Int → Bool) (j : Nat) : ((upFrom 1 j).filter p).length ≤ j := Nat.le_trans (List.length_filter_le _ _) (by rw [upFrom_length]; exact Nat.le_refl _)
theorem numsL_yes {xs : List Sp} {last : Int} (hv : setV xs = true) (h1 : 1 ≤ last) : numsL xs last = (upFrom 1 (lastN last).toNat).filter (hasN xs (lastN last)) := by
  unfold numsL; rw [hv, decide_eq_true h1]; rfl
theorem numsL_no {xs : List Sp} {last : Int} (h : setV xs = false ∨ last < 1) : numsL xs last = [] := by
  unfold numsL
  rcases h with h | h
  · rw [h]; rfl
  · rw [decide_eq_false (by omega)]; simp


set_option maxHeartbeats 2000000 in
theorem specSN_lo (v : Value) (xs : List Sp) (last : Int) (w : World) (hv : SpansAt w v xs) (hsv : setV xs = true) (h1 : 1 ≤ last) (h9 : last < 99) :
    Calls Try.prog 25 #[v, .int .i64 last] w (GaveInts (numsL xs last) w) := by
  obtain ⟨i0, hi0, hz0, hz1, hz2⟩ := info_parts infoInt
  have hL : lastN last = last := by unfold lastN; omega
  have HNU := Lib.hid (show numsL xs last = (upFrom 1 (last).toNat).filter (hasN xs last) by rw [numsL_yes hsv h1, hL])
  clear hL
  generalize numsL xs last = R at *
  have HV := Lib.hid hv; clear hv
  have HS := Lib.hid hsv; clear hsv
  go_enter Try.func25, Try.ntmps25
  go_wp2_with fail
  go_loopg [5, 6] (last).toNat (fun k v iv wr => ∃ j : Nat, (j : Int) ≤ last ∧ k = (last).toNat - j ∧ iv = .int .i64 ((j : Int) + 1) ∧ wr.ownsRow w.heap.size 3 1 v ((upFrom 1 j).filter (hasN xs last)).length (((upFrom 1 j).filter (hasN xs last)).map (Value.int .i64)) ∧ Below w.heap.size w wr)
  case atStart => exact ⟨0, by omega, rfl, rfl, World.ownsRow_lit _ #[] 0 (Nat.le_refl _) (Nat.zero_le _) rfl, (Below.refl _ _).alloc (Nat.le_refl _) _⟩
  case round =>
    obtain ⟨j, hj, hk, rfl, hown, hbw⟩ := hrel
    have HK := Lib.hid hk; clear hk
    have HOW := Lib.hid hown; clear hown
    have hzw := hbw.size
    have HVW := Lib.hid (HV.out.below hbw)
    have HBW := Lib.hid hbw; clear hbw
    have hul := upf_len (hasN xs last) j
    have HUF := Lib.hid (upf_filter (hasN xs last) j)
    by_cases hlt : (j : Int) < last
    · have hle : (j : Int) + 1 ≤ last := by omega
      go_wp2_with fail
      refine (specSV_any v xs _ HVW.out).mono ?_
      rw [HS.out]
      rintro e w1 ⟨rfl, rfl⟩
      go_wp2_with fail
      refine (l3Has_any v xs last ((j : Int) + 1) _ HVW.out).mono ?_
      rintro e w1 ⟨rfl, rfl⟩
      cases hb : hasN xs last ((j : Int) + 1)
      · have HB := Lib.hid hb; clear hb
        go_wp2_with fail
        go_roundg ((last).toNat - (j + 1))
        case measure => rw [HK.out]; omega
        case rel => exact ⟨j + 1, by omega, rfl, by go_num, by rw [HUF.out, HB.out]; simpa using HOW.out, HBW.out⟩
      · have HB := Lib.hid hb; clear hb
        go_wp2_with (at_builtin; refine wpList_append_own _ rfl _ _ 36 rfl w.heap.size 3 i0 (.int .i64 0) 1 8 Try.underlying36 hi0 hz0 hz1 hz2 rfl (by decide) _ _ _ rfl (HOW.out.alloc _) ⟨wr.heap.size, 0, none⟩ 1 1 [.int .i64 ((j : Int) + 1)] rfl rfl (cell_one_new _ _ _) (by simp [Value.oneCell']) (by unfold maxLen; omega) (by omega) (by simp; omega) ?_; intro v' w1 hown' hgrow _)
        have HO' := Lib.hid hown'; clear hown'
        have HG := Lib.hid ((HBW.out.alloc hzw _).grown hgrow (by simp; omega) (fun k e => (HOW.out.lt k e).1)); clear hgrow
        go_wp2_with fail
        go_roundg ((last).toNat - (j + 1))
        case measure => rw [HK.out]; omega
        case rel => exact ⟨j + 1, by omega, rfl, by go_num, by rw [HUF.out, HB.out]; simpa using HO'.out, HG.out⟩
    · have hle : decide ((j : Int) + 1 ≤ last) = false := by simp; omega
      obtain rfl : R = (upFrom 1 j).filter (hasN xs last) := by rw [HNU.out, show (last).toNat = j by omega]
      go_wp2_with fail
      go_ret
      exact ⟨_, rfl, HOW.out, HBW.out⟩

set_option maxHeartbeats 2000000 in
theorem specSN_hi (v : Value) (xs : List Sp) (last : Int) (w : World) (hv : SpansAt w v xs) (hsv : setV xs = true) (h1 : 1 ≤ last) (h9 : 99 < last) :
    Calls Try.prog 25 #[v, .int .i64 last] w (GaveInts (numsL xs last) w) := by
  obtain ⟨i0, hi0, hz0, hz1, hz2⟩ := info_parts infoInt
  have hL : lastN last = (99 : Int) := by unfold lastN; omega
  have HNU := Lib.hid (show numsL xs last = (upFrom 1 ((99 : Int)).toNat).filter (hasN xs (99 : Int)) by rw [numsL_yes hsv h1, hL])
  clear hL
  generalize numsL xs last = R at *
  have HV := Lib.hid hv; clear hv
  have HS := Lib.hid hsv; clear hsv
  go_enter Try.func25, Try.ntmps25
  go_wp2_with fail
  go_loopg [5, 6] ((99 : Int)).toNat (fun k v iv wr => ∃ j : Nat, (j : Int) ≤ (99 : Int) ∧ k = ((99 : Int)).toNat - j ∧ iv = .int .i64 ((j : Int) + 1) ∧ wr.ownsRow w.heap.size 3 1 v ((upFrom 1 j).filter (hasN xs (99 : Int))).length (((upFrom 1 j).filter (hasN xs (99 : Int))).map (Value.int .i64)) ∧ Below w.heap.size w wr)
  case atStart => exact ⟨0, by omega, rfl, rfl, World.ownsRow_lit _ #[] 0 (Nat.le_refl _) (Nat.zero_le _) rfl, (Below.refl _ _).alloc (Nat.le_refl _) _⟩
  case round =>
    obtain ⟨j, hj, hk, rfl, hown, hbw⟩ := hrel
    have HK := Lib.hid hk; clear hk
    have HOW := Lib.hid hown; clear hown
    have hzw := hbw.size
    have HVW := Lib.hid (HV.out.below hbw)
    have HBW := Lib.hid hbw; clear hbw
    have hul := upf_len (hasN xs (99 : Int)) j
    have HUF := Lib.hid (upf_filter (hasN xs (99 : Int)) j)
    by_cases hlt : (j : Int) < (99 : Int)
    · have hle : (j : Int) + 1 ≤ (99 : Int) := by omega
      go_wp2_with fail
      refine (specSV_any v xs _ HVW.out).mono ?_
      rw [HS.out]
      rintro e w1 ⟨rfl, rfl⟩
      go_wp2_with fail
      refine (l3Has_any v xs (99 : Int) ((j : Int) + 1) _ HVW.out).mono ?_
      rintro e w1 ⟨rfl, rfl⟩
      cases hb : hasN xs (99 : Int) ((j : Int) + 1)
      · have HB := Lib.hid hb; clear hb
        go_wp2_with fail
        go_roundg (((99 : Int)).toNat - (j + 1))
        case measure => rw [HK.out]; omega
        case rel => exact ⟨j + 1, by omega, rfl, by go_num, by rw [HUF.out, HB.out]; simpa using HOW.out, HBW.out⟩
      · have HB := Lib.hid hb; clear hb
        go_wp2_with (at_builtin; refine wpList_append_own _ rfl _ _ 36 rfl w.heap.size 3 i0 (.int .i64 0) 1 8 Try.underlying36 hi0 hz0 hz1 hz2 rfl (by decide) _ _ _ rfl (HOW.out.alloc _) ⟨wr.heap.size, 0, none⟩ 1 1 [.int .i64 ((j : Int) + 1)] rfl rfl (cell_one_new _ _ _) (by simp [Value.oneCell']) (by unfold maxLen; omega) (by omega) (by simp; omega) ?_; intro v' w1 hown' hgrow _)
        have HO' := Lib.hid hown'; clear hown'
        have HG := Lib.hid ((HBW.out.alloc hzw _).grown hgrow (by simp; omega) (fun k e => (HOW.out.lt k e).1)); clear hgrow
        go_wp2_with fail
        go_roundg (((99 : Int)).toNat - (j + 1))
        case measure => rw [HK.out]; omega
        case rel => exact ⟨j + 1, by omega, rfl, by go_num, by rw [HUF.out, HB.out]; simpa using HO'.out, HG.out⟩
    · have hle : decide ((j : Int) + 1 ≤ (99 : Int)) = false := by simp; omega
      obtain rfl : R = (upFrom 1 j).filter (hasN xs (99 : Int)) := by rw [HNU.out, show ((99 : Int)).toNat = j by omega]
      go_wp2_with fail
      go_ret
      exact ⟨_, rfl, HOW.out, HBW.out⟩

set_option maxHeartbeats 2000000 in
theorem specSN_eq (v : Value) (xs : List Sp) (w : World) (hv : SpansAt w v xs) (hsv : setV xs = true)  :
    Calls Try.prog 25 #[v, .int .i64 99] w (GaveInts (numsL xs 99) w) := by
  obtain ⟨i0, hi0, hz0, hz1, hz2⟩ := info_parts infoInt
  have h1 : (1 : Int) ≤ 99 := by omega
  have hL : lastN 99 = (99 : Int) := by unfold lastN; omega
  have HNU := Lib.hid (show numsL xs 99 = (upFrom 1 ((99 : Int)).toNat).filter (hasN xs (99 : Int)) by rw [numsL_yes hsv h1, hL])
  clear hL
  generalize numsL xs 99 = R at *
  have HV := Lib.hid hv; clear hv
  have HS := Lib.hid hsv; clear hsv
  go_enter Try.func25, Try.ntmps25
  go_wp2_with fail
  go_loopg [5, 6] ((99 : Int)).toNat (fun k v iv wr => ∃ j : Nat, (j : Int) ≤ (99 : Int) ∧ k = ((99 : Int)).toNat - j ∧ iv = .int .i64 ((j : Int) + 1) ∧ wr.ownsRow w.heap.size 3 1 v ((upFrom 1 j).filter (hasN xs (99 : Int))).length (((upFrom 1 j).filter (hasN xs (99 : Int))).map (Value.int .i64)) ∧ Below w.heap.size w wr)
  case atStart => exact ⟨0, by omega, rfl, rfl, World.ownsRow_lit _ #[] 0 (Nat.le_refl _) (Nat.zero_le _) rfl, (Below.refl _ _).alloc (Nat.le_refl _) _⟩
  case round =>
    obtain ⟨j, hj, hk, rfl, hown, hbw⟩ := hrel
    have HK := Lib.hid hk; clear hk
    have HOW := Lib.hid hown; clear hown
    have hzw := hbw.size
    have HVW := Lib.hid (HV.out.below hbw)
    have HBW := Lib.hid hbw; clear hbw
    have hul := upf_len (hasN xs (99 : Int)) j
    have HUF := Lib.hid (upf_filter (hasN xs (99 : Int)) j)
    by_cases hlt : (j : Int) < (99 : Int)
    · have hle : (j : Int) + 1 ≤ (99 : Int) := by omega
      go_wp2_with fail
      refine (specSV_any v xs _ HVW.out).mono ?_
      rw [HS.out]
      rintro e w1 ⟨rfl, rfl⟩
      go_wp2_with fail
      refine (l3Has_any v xs (99 : Int) ((j : Int) + 1) _ HVW.out).mono ?_
      rintro e w1 ⟨rfl, rfl⟩
      cases hb : hasN xs (99 : Int) ((j : Int) + 1)
      · have HB := Lib.hid hb; clear hb
        go_wp2_with fail
        go_roundg (((99 : Int)).toNat - (j + 1))
        case measure => rw [HK.out]; omega
        case rel => exact ⟨j + 1, by omega, rfl, by go_num, by rw [HUF.out, HB.out]; simpa using HOW.out, HBW.out⟩
      · have HB := Lib.hid hb; clear hb
        go_wp2_with (at_builtin; refine wpList_append_own _ rfl _ _ 36 rfl w.heap.size 3 i0 (.int .i64 0) 1 8 Try.underlying36 hi0 hz0 hz1 hz2 rfl (by decide) _ _ _ rfl (HOW.out.alloc _) ⟨wr.heap.size, 0, none⟩ 1 1 [.int .i64 ((j : Int) + 1)] rfl rfl (cell_one_new _ _ _) (by simp [Value.oneCell']) (by unfold maxLen; omega) (by omega) (by simp; omega) ?_; intro v' w1 hown' hgrow _)
        have HO' := Lib.hid hown'; clear hown'
        have HG := Lib.hid ((HBW.out.alloc hzw _).grown hgrow (by simp; omega) (fun k e => (HOW.out.lt k e).1)); clear hgrow
        go_wp2_with fail
        go_roundg (((99 : Int)).toNat - (j + 1))
        case measure => rw [HK.out]; omega
        case rel => exact ⟨j + 1, by omega, rfl, by go_num, by rw [HUF.out, HB.out]; simpa using HO'.out, HG.out⟩
    · have hle : decide ((j : Int) + 1 ≤ (99 : Int)) = false := by simp; omega
      obtain rfl : R = (upFrom 1 j).filter (hasN xs (99 : Int)) := by rw [HNU.out, show ((99 : Int)).toNat = j by omega]
      go_wp2_with fail
      go_ret
      exact ⟨_, rfl, HOW.out, HBW.out⟩

set_option maxHeartbeats 1000000 in
theorem specSN_no (v : Value) (xs : List Sp) (last : Int) (w : World) (hv : SpansAt w v xs) (h : setV xs = false ∨ last < 1) :
    Calls Try.prog 25 #[v, .int .i64 last] w (GaveInts [] w) := by
  have HV := Lib.hid (hv.alloc (.cells #[] 3)); clear hv
  have HO := Lib.hid (World.ownsRow_lit (base := w.heap.size) (e := 3) (size := 1) w #[] 0 (Nat.le_refl _) (Nat.zero_le _) rfl)
  have HB := Lib.hid ((Below.refl w.heap.size w).alloc (Nat.le_refl _) (.cells #[] 3))
  by_cases h1 : last < 1
  · have h2 : decide ((1 : Int) ≤ last) = false := by simp; omega
    have h3 : last < 99 := by omega
    clear h
    go_enter Try.func25, Try.ntmps25
    go_wp2_with fail
    go_loopg [5, 6] 0 (fun k v iv wr => k = 0 ∧ v = .slice (some ⟨w.heap.size, 0, none⟩) 0 0 ∧ iv = .int .i64 1 ∧ wr = w.alloc (.cells #[] 3))
    case atStart => exact ⟨rfl, rfl, rfl, rfl⟩
    case round =>
      obtain ⟨_, rfl, rfl, rfl⟩ := hrel
      go_wp2_with fail
      go_ret
      exact ⟨_, rfl, HO.out, HB.out⟩
  · have hs : setV xs = false := h.resolve_right h1
    have HS := Lib.hid hs; clear hs h
    rcases Int.lt_trichotomy last 99 with h3 | h3 | h3
    · have h2 : decide ((1 : Int) ≤ last) = true := by simp; omega
      go_enter Try.func25, Try.ntmps25
      go_wp2_with fail
      go_loopg [5, 6] 0 (fun k v iv wr => k = 0 ∧ v = .slice (some ⟨w.heap.size, 0, none⟩) 0 0 ∧ iv = .int .i64 1 ∧ wr = w.alloc (.cells #[] 3))
      case atStart => exact ⟨rfl, rfl, rfl, rfl⟩
      case round =>
        obtain ⟨_, rfl, rfl, rfl⟩ := hrel
        go_wp2_with fail
        refine (specSV_any v xs _ HV.out).mono ?_
        rw [HS.out]
        rintro e w1 ⟨rfl, rfl⟩
        go_wp2_with fail
        go_ret
        exact ⟨_, rfl, HO.out, HB.out⟩
    · subst h3
      go_enter Try.func25, Try.ntmps25
      go_wp2_with fail
      go_loopg [5, 6] 0 (fun k v iv wr => k = 0 ∧ v = .slice (some ⟨w.heap.size, 0, none⟩) 0 0 ∧ iv = .int .i64 1 ∧ wr = w.alloc (.cells #[] 3))
      case atStart => exact ⟨rfl, rfl, rfl, rfl⟩
      case round =>
        obtain ⟨_, rfl, rfl, rfl⟩ := hrel
        go_wp2_with fail
        refine (specSV_any v xs _ HV.out).mono ?_
        rw [HS.out]
        rintro e w1 ⟨rfl, rfl⟩
        go_wp2_with fail
        go_ret
        exact ⟨_, rfl, HO.out, HB.out⟩
    · go_enter Try.func25, Try.ntmps25
      go_wp2_with fail
      go_loopg [5, 6] 0 (fun k v iv wr => k = 0 ∧ v = .slice (some ⟨w.heap.size, 0, none⟩) 0 0 ∧ iv = .int .i64 1 ∧ wr = w.alloc (.cells #[] 3))
      case atStart => exact ⟨rfl, rfl, rfl, rfl⟩
      case round =>
        obtain ⟨_, rfl, rfl, rfl⟩ := hrel
        go_wp2_with fail
        refine (specSV_any v xs _ HV.out).mono ?_
        rw [HS.out]
        rintro e w1 ⟨rfl, rfl⟩
        go_wp2_with fail
        go_ret
        exact ⟨_, rfl, HO.out, HB.out⟩
theorem specSN_any (v : Value) (xs : List Sp) (last : Int) (w : World) (hv : SpansAt w v xs) :
    Calls Try.prog 25 #[v, .int .i64 last] w (GaveInts (numsL xs last) w) := by
  by_cases h : setV xs = false ∨ last < 1
  · rw [numsL_no h]; exact specSN_no v xs last w hv h
  · have h1 : setV xs = true := by cases hs : setV xs with | false => exact absurd (.inl hs) h | true => rfl
    have h2 : 1 ≤ last := by omega
    rcases Int.lt_trichotomy last 99 with h3 | h3 | h3
    · exact specSN_lo v xs last w hv h1 h2 h3
    · subst h3; exact specSN_eq v xs w hv h1
    · exact specSN_hi v xs last w hv h1 h2 h3

end Go.Proofs.Ythabmjadfomnkaa
