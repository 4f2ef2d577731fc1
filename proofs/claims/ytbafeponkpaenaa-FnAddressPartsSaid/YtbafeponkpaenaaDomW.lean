/- Contracts of DomainValid, the program's and the reference's, and of the cursor's domain. -/
import Derived.Test.YtbafeponkpaenaaCutW
import Derived.Test.YtbafeponkpaenaaNames
namespace Go.Proofs.Ytbafeponkpaenaa
open Go.RowKit
set_option linter.unusedVariables false

/-- What the cursor's domain hands back. -/
def DomPost (s : ByteArray) (p b : Nat) (r : Option Nat) (w : World) (e : Ending) (w' : World) : Prop :=
  match r with
  | none => e = .returned (.tuple #[.string ⟨#[]⟩, .bool false]) ∧ KeepB b w w'
  | some q => e = .returned (.tuple #[.string (s.extract p q), .bool (decide ((q : Int) - (p : Int) ≤ 20))]) ∧ KeepB b w w' ∧ p ≤ q ∧ q ≤ s.size ∧ Two w' b 41 (.string s) (.int .i64 q)

set_option maxHeartbeats 2000000 in
theorem domain_any (b : Nat) (s : ByteArray) (p : Nat) (w : World) (hs : s.size ≤ 1000000000) (hp : p ≤ s.size)
    (ht : Two w b 41 (.string s) (.int .i64 p)) :
    Calls Try.prog 45 #[.pointer (some ⟨b, 0, none⟩)] w (DomPost s p b (domP s 2 p) w) := by
  have hn := nend_le s p hp
  have h1 := ht.c1
  have HT := Lib.hid ht; clear ht
  generalize hR : domP s 2 p = R
  have HR := Lib.hid hR; clear hR
  cases hz : szOk p (nend s p)
  · have HZ := Lib.hid hz; clear hz
    obtain rfl : R = none := by rw [← HR.out]; simp [domP, HZ.out]
    go_enter Try.func45, Try.ntmps45
    go_wp2_with fail
    refine (name_any b s p _ hs hp HT.out).mono ?_
    rw [HZ.out]
    rintro e w1 ⟨rfl, hk1, ht1⟩
    have HK1 := Lib.hid hk1; clear hk1 ht1
    go_wp2_with fail
    go_ret2
    exact ⟨rfl, HK1.out⟩
  · have HZ := Lib.hid hz; clear hz
    have HD := Lib.hid (show domTo s 2 (nend s p) = R by rw [← HR.out]; simp [domP, HZ.out])
    go_enter Try.func45, Try.ntmps45
    go_wp2_with fail
    refine (name_any b s p _ hs hp HT.out).mono ?_
    rw [HZ.out]
    rintro e w1 ⟨rfl, hk1, ht1⟩
    have HK1 := Lib.hid hk1; clear hk1
    have HT1 := Lib.hid ht1; clear ht1 h1
    go_wp2_with fail
    go_loopg [7] 2 (fun k cv wr => ∃ j q : Nat, 1 ≤ j ∧ j ≤ 3 ∧ k = 3 - j ∧ cv = .int .i64 j ∧ p ≤ q ∧ q ≤ s.size ∧ domTo s (3 - j) q = R ∧ KeepB b w wr ∧ Two wr b 41 (.string s) (.int .i64 q))
    case atStart => exact ⟨1, nend s p, by omega, by omega, rfl, rfl, hn.1, hn.2, HD.out, HK1.out, HT1.out⟩
    case round =>
      obtain ⟨j, q, hj1, hj3, hk, rfl, hpq, hqs, hd, hkeep, ht⟩ := hrel
      have HK := Lib.hid hk; clear hk
      have HDQ := Lib.hid hd; clear hd
      have HKE := Lib.hid hkeep; clear hkeep
      have c0 := ht.c0
      have c1 := ht.c1
      have HTQ := Lib.hid ht; clear ht
      have hle : (p : Int) ≤ (q : Int) := by omega
      have hle2 : (q : Int) ≤ (s.size : Int) := by omega
      by_cases hj : j < 3
      · have hji : (j : Int) < 3 := by omega
        cases hat : atB s q 46
        · have HAT := Lib.hid hat; clear hat
          have hRq : R = some q := by
            rw [← HDQ.out, show 3 - j = (2 - j) + 1 by omega]; simp [domTo, HAT.out]
          subst hRq
          clear c0 c1
          go_wp2_with fail
          refine (take_no b s q 46 _ hs hqs HAT.out HTQ.out).mono ?_
          rintro e w2 ⟨rfl, hk2, ht2⟩
          have c0 := ht2.c0
          have c1 := ht2.c1
          have HK2 := Lib.hid (HKE.out.trans hk2); clear hk2
          have HT2 := Lib.hid ht2; clear ht2
          go_wp2_with fail
          go_quiet (fail)
          go_wp2
          go_ret2
          exact ⟨rfl, HK2.out.drewN _, hpq, hqs, HT2.out.drewN _⟩
        · have HAT := Lib.hid hat; clear hat
          have hq1 : q + 1 ≤ s.size := by have := atB_lt HAT.out; omega
          have hn1 := nend_le s (q + 1) hq1
          clear c0 c1
          cases hz2 : szOk (q + 1) (nend s (q + 1))
          · have HZ2 := Lib.hid hz2; clear hz2
            have hRq : R = none := by
              rw [← HDQ.out, show 3 - j = (2 - j) + 1 by omega]; simp [domTo, HAT.out, HZ2.out]
            subst hRq
            go_wp2_with fail
            refine (take_is b s q 46 _ hs HAT.out HTQ.out).mono ?_
            rintro e w2 ⟨rfl, hk2, ht2⟩
            have HK2 := Lib.hid (HKE.out.trans hk2); clear hk2
            have HT2 := Lib.hid ht2; clear ht2
            go_wp2_with fail
            refine (name_any b s (q + 1) _ hs hq1 HT2.out).mono ?_
            rw [HZ2.out]
            rintro e w3 ⟨rfl, hk3, ht3⟩
            have HK3 := Lib.hid (HK2.out.trans hk3); clear hk3 ht3
            go_wp2_with fail
            go_ret2
            exact ⟨rfl, HK3.out⟩
          · have HZ2 := Lib.hid hz2; clear hz2
            have HD2 : Hid (domTo s (3 - (j + 1)) (nend s (q + 1)) = R) := by
              show domTo s (3 - (j + 1)) (nend s (q + 1)) = R
              rw [← HDQ.out, show 3 - j = (3 - (j + 1)) + 1 by omega]; simp [domTo, HAT.out, HZ2.out]
            go_wp2_with fail
            refine (take_is b s q 46 _ hs HAT.out HTQ.out).mono ?_
            rintro e w2 ⟨rfl, hk2, ht2⟩
            have HK2 := Lib.hid (HKE.out.trans hk2); clear hk2
            have HT2 := Lib.hid ht2; clear ht2
            go_wp2_with fail
            refine (name_any b s (q + 1) _ hs hq1 HT2.out).mono ?_
            rw [HZ2.out]
            rintro e w3 ⟨rfl, hk3, ht3⟩
            have HK3 := Lib.hid (HK2.out.trans hk3); clear hk3
            have HT3 := Lib.hid ht3; clear ht3
            go_wp2_with fail
            go_roundg (3 - (j + 1))
            case measure => rw [HK.out]; omega
            case rel => exact ⟨j + 1, nend s (q + 1), by omega, by omega, rfl, by go_num, by omega, hn1.2, HD2.out, HK3.out, HT3.out⟩
      · obtain rfl : j = 3 := by omega
        have hRq : R = some q := HDQ.out.symm
        subst hRq
        go_wp2_with fail
        go_quiet (fail)
        go_wp2
        go_ret2
        exact ⟨rfl, HKE.out.drewN _, hpq, hqs, HTQ.out.drewN _⟩

set_option maxHeartbeats 1000000 in
/-- The program's DomainValid. -/
theorem implDom_any (s : ByteArray) (w : World) (hs : s.size ≤ 1000000000) :
    Calls Try.prog 24 #[.string s] w fun e w' => e = .returned (.bool (domB s)) ∧ Below w.heap.size w w' := by
  generalize hB : domB s = B
  have HB := Lib.hid hB; clear hB
  go_enter Try.func24, Try.ntmps24
  go_wp2_with fail
  refine (domain_any w.heap.size s 0 _ hs (Nat.zero_le _) (Two.new w 41 _ _)).mono ?_
  intro e w1 hpost
  cases hd : domP s 2 0 with
  | none =>
    rw [hd] at hpost
    obtain ⟨rfl, hk⟩ := hpost
    obtain rfl : B = false := by rw [← HB.out]; simp [domB, hd]
    clear hd
    go_wp2_with fail
    go_ret
    exact ⟨rfl, ((Below.refl _ _).alloc (Nat.le_refl _) _).trans (hk.below (Nat.le_refl _) (by simp))⟩
  | some q =>
    rw [hd] at hpost
    obtain ⟨rfl, hk, _, hqs, ht⟩ := hpost
    have HBQ : Hid (B = (decide (q ≤ 20) && decide (q = s.size))) := by show B = _; rw [← HB.out]; simp [domB, hd]
    clear hd
    have HBW := Lib.hid (((Below.refl w.heap.size w).alloc (Nat.le_refl _) _).trans (hk.below (Nat.le_refl _) (by simp))); clear hk
    have c0 := ht.c0
    have c1 := ht.c1
    clear ht
    by_cases hq : q ≤ 20
    · have hq2 : (q : Int) ≤ 20 := by omega
      go_wp2_with fail
      refine (done_any w.heap.size s q _ hs hqs c0 c1).mono ?_
      rintro e w2 ⟨rfl, n, rfl⟩
      go_wp2_with fail
      go_ret
      exact ⟨by rw [HBQ.out, decide_eq_true hq, Bool.true_and]; rfl, Below.drewN' HBW.out n⟩
    · have hq2 : decide ((q : Int) ≤ 20) = false := by simp; omega
      go_wp2_with fail
      go_ret
      exact ⟨by rw [HBQ.out, decide_eq_false hq, Bool.false_and]; rfl, HBW.out⟩

set_option maxHeartbeats 1000000 in
/-- The reference's DomainValid. -/
theorem specDom_any (s : ByteArray) (w : World) (hs : s.size ≤ 1000000000) :
    Calls Try.prog 23 #[.string s] w fun e w' => e = .returned (.bool (domB s)) ∧ Below w.heap.size w w' := by
  rw [← domS_eq]
  have hsz := cut_sizes s 46 0 0
  have hln := cut_len s 46 0 0
  have HS : Hid (domS s = ((cut s 46 0 0).all nameB && decide ((cut s 46 0 0).length ≤ 3) && decide (s.size ≤ 20))) := rfl
  generalize domS s = B at HS ⊢
  have CUT := cut_any s 46
  have HCUT := Lib.hid CUT; clear CUT
  go_enter Try.func23, Try.ntmps23
  go_wp2_with fail
  refine (HCUT.out _ hs).mono ?_
  rintro e w1 ⟨v, rfl, ⟨g, cap, rfl, hlc, hcm, hg, hcell⟩, hb1⟩
  generalize cut s 46 0 0 = xs at *
  have HB1 := Lib.hid hb1; clear hb1
  have HCELL := Lib.hid hcell; clear hcell
  have HSZ := Lib.hid hsz; clear hsz
  unfold maxLen at hcm
  go_wp2_with fail
  go_loopg [4] xs.length (fun k iv wr => ∃ j : Nat, j ≤ xs.length ∧ k = xs.length - j ∧ iv = .int .i64 j ∧ (xs.take j).all nameB = true ∧ w1 = wr)
  case atStart => exact ⟨0, Nat.zero_le _, rfl, rfl, rfl, rfl⟩
  case round =>
    obtain ⟨j, hj, hk, rfl, hall, rfl⟩ := hrel
    have HK := Lib.hid hk; clear hk
    have HALL := Lib.hid hall; clear hall
    by_cases hlt : j < xs.length
    · have hi : (j : Int) < (xs.length : Int) := by omega
      have hc := HCELL.out j hlt
      have hxs : xs[j].size ≤ 1000000000 := Nat.le_trans (HSZ.out _ (List.getElem_mem _)) hs
      have HT : Hid (xs.take (j + 1) = xs.take j ++ [xs[j]]) := List.take_succ_eq_append_getElem hlt
      generalize hx : xs[j] = x at hc hxs HT
      have HX := Lib.hid hx; clear hx
      cases hv : nameB x
      · have HV := Lib.hid hv; clear hv
        obtain rfl : B = false := by
          rw [HS.out]
          rw [show xs.all nameB = false from List.all_eq_false.2 ⟨x, by rw [← HX.out]; exact List.getElem_mem _, by simp [HV.out]⟩]; rfl
        go_wp2_with fail
        refine (specName_any x _ hxs).mono ?_
        rw [HV.out]
        rintro e w2 ⟨rfl, rfl⟩
        go_wp2_with fail
        go_ret
        exact ⟨rfl, HB1.out⟩
      · have HV := Lib.hid hv; clear hv
        go_wp2_with fail
        refine (specName_any x _ hxs).mono ?_
        rw [HV.out]
        rintro e w2 ⟨rfl, rfl⟩
        go_wp2_with fail
        go_roundg (xs.length - (j + 1))
        case measure => rw [HK.out]; omega
        case rel => exact ⟨j + 1, by omega, rfl, by go_num, by rw [HT.out, List.all_append, HALL.out]; simp [HV.out], rfl⟩
    · obtain rfl : j = xs.length := by omega
      have hBv : B = (decide (xs.length ≤ 3) && decide (s.size ≤ 20)) := by
        have := HALL.out
        rw [List.take_length] at this
        rw [HS.out, this, Bool.true_and]
      have HBV := Lib.hid hBv; clear hBv
      by_cases h3 : xs.length ≤ 3
      · have h3' : (xs.length : Int) ≤ 3 := by omega
        go_wp2_with fail
        go_ret
        exact ⟨by rw [HBV.out, decide_eq_true h3, Bool.true_and]; congr 2; simp; omega, HB1.out⟩
      · have h3' : decide ((xs.length : Int) ≤ 3) = false := by simp; omega
        go_wp2_with fail
        go_ret
        exact ⟨by rw [HBV.out, decide_eq_false h3, Bool.false_and]; rfl, HB1.out⟩

end Go.Proofs.Ytbafeponkpaenaa
