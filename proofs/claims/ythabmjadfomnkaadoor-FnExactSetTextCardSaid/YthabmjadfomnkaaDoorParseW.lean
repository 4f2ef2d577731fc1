/- Contracts: the program's numbers and spans in a text. -/
import Derived.Test.YthabmjadfomnkaaDoorSetW2
import Derived.Outline
namespace Go.Proofs.YthabmjadfomnkaaDoor
open Go.RowKit
set_option linter.unusedVariables false

theorem bl_drop_cons (s : ByteArray) (p : Nat) (h : p < s.size) : (bl s).drop p = s[p] :: (bl s).drop (p + 1) := by
  rw [List.drop_eq_getElem_cons (by rw [bl_length]; exact h), bl_get s p h]
theorem bl_drop_end (s : ByteArray) (p : Nat) (h : s.size ≤ p) : (bl s).drop p = [] := List.drop_of_length_le (by rw [bl_length]; exact h)
/-- What setNumber hands back. -/
def NumPost (s : ByteArray) (p b : Nat) (r : Option (Int × List UInt8)) (w : World) (e : Ending) (w' : World) : Prop :=
  match r with
  | none => e = .returned (.tuple #[.int .i64 0, .bool false]) ∧ KeepB b w w'
  | some (v, l) => e = .returned (.tuple #[.int .i64 v, .bool true]) ∧ KeepB b w w' ∧ ∃ q, l = (bl s).drop q ∧ p < q ∧ q ≤ s.size ∧ Two w' b 45 (.string s) (.int .i64 q)
/-- How far the digits have been read. -/
def DigAt (s : ByteArray) (p q : Nat) (n : Int) : Prop :=
  (q = p ∧ n = 0) ∨ (∃ h : p < s.size, dgB s[p] = true ∧ q = p + 1 ∧ n = dgV s[p]) ∨ (∃ h : p + 1 < s.size, dgB s[p] = true ∧ dgB s[p + 1] = true ∧ q = p + 2 ∧ n = 10 * dgV s[p] + dgV s[p + 1])
theorem DigAt.bounds {s : ByteArray} {p q : Nat} {n : Int} (h : DigAt s p q n) : p ≤ q ∧ q ≤ p + 2 ∧ 0 ≤ n ∧ n ≤ 99 := by
  rcases h with ⟨rfl, rfl⟩ | ⟨h, hd, rfl, rfl⟩ | ⟨h, hd, he, rfl, rfl⟩
  · omega
  · have := dgV_range hd; omega
  · have := dgV_range hd; have := dgV_range he; omega
theorem DigAt.next {s : ByteArray} {p q : Nat} {n : Int} (h : DigAt s p q n) (h1 : q < s.size) (h2 : q < p + 2) (h3 : dgB s[q] = true) : DigAt s p (q + 1) (n * 10 + ((s[q].toNat : Int) - 48)) := by
  rcases h with ⟨rfl, rfl⟩ | ⟨h, hd, rfl, rfl⟩ | ⟨h, hd, he, rfl, rfl⟩
  · exact .inr (.inl ⟨h1, h3, rfl, by unfold dgV; omega⟩)
  · exact .inr (.inr ⟨h1, hd, h3, rfl, by unfold dgV; omega⟩)
  · omega
theorem DigAt.stop {s : ByteArray} {p q : Nat} {n : Int} (h : DigAt s p q n) (hp : p < s.size) (h42 : s[p] ≠ 42) (h48 : s[p] ≠ 48) (hstop : ¬ (∃ h : q < s.size, q < p + 2 ∧ dgB s[q] = true)) :
    numP ((bl s).drop p) = if p < q then some (n, (bl s).drop q) else none := by
  rw [bl_drop_cons s p hp, numP_cons, if_neg h42]
  rcases h with ⟨rfl, rfl⟩ | ⟨h, hd, rfl, rfl⟩ | ⟨h, hd, he, rfl, rfl⟩
  · have : dgB s[q] = false := by
      cases hb : dgB s[q] with
      | false => rfl
      | true => exact absurd ⟨hp, by omega, hb⟩ hstop
    rw [this]; simp
  · rw [hd, decide_eq_true h48, if_pos (by rfl), if_pos (by omega)]
    by_cases hq : p + 1 < s.size
    · rw [bl_drop_cons s (p + 1) hq]
      have : dgB s[p + 1] = false := by
        cases hb : dgB s[p + 1] with
        | false => rfl
        | true => exact absurd ⟨hq, by omega, hb⟩ hstop
      simp only [this, Bool.false_eq_true, if_false]
    · rw [bl_drop_end s (p + 1) (by omega)]
  · rw [hd, decide_eq_true h48, if_pos (by rfl), if_pos (by omega), bl_drop_cons s (p + 1) h]
    simp only [he, if_true]
theorem dgB_facts {c : UInt8} (h : dgB c = true) : (48 : Int) ≤ (c.toNat : Int) ∧ (c.toNat : Int) ≤ 57 := by
  simp only [dgB, Bool.and_eq_true, decide_eq_true_iff] at h; omega
theorem dgB_no {c : UInt8} (h : dgB c = false) : (c.toNat : Int) < 48 ∨ 57 < (c.toNat : Int) := by
  simp only [dgB, Bool.and_eq_false_iff, decide_eq_false_iff_not] at h; omega

set_option maxHeartbeats 4000000 in
theorem setNumber_any (b : Nat) (s : ByteArray) (p : Nat) (w : World) (hs : s.size ≤ 1000000000) (hp : p ≤ s.size)
    (ht : Two w b 45 (.string s) (.int .i64 p)) :
    Calls Tryd.prog 40 #[.pointer (some ⟨b, 0, none⟩)] w (NumPost s p b (numP ((bl s).drop p)) w) := by
  generalize hR : numP ((bl s).drop p) = R
  have HR := Lib.hid hR; clear hR
  have HT := Lib.hid ht; clear ht
  cases h42 : atB s p 42
  · have H42 := Lib.hid h42; clear h42
    by_cases hlt : p < s.size
    · have hi : (p : Int) < (s.size : Int) := by omega
      have n42 : s[p] ≠ 42 := by have := H42.out; rw [atB_iff s p 42 hlt, decide_eq_false_iff_not] at this; exact this
      by_cases h48 : s[p] = 48
      · obtain rfl : R = none := by rw [← HR.out, bl_drop_cons s p hlt, numP_cons, if_neg n42, h48]; rfl
        have e48 : (((s[p]).toNat : Int) == 48) = true := by rw [h48]; rfl
        clear h48 n42
        go_enter Tryd.func40, Tryd.ntmps40
        go_wp2_with fail
        refine (take_no b s p 42 _ hs hp H42.out HT.out).mono ?_
        rintro e w1 ⟨rfl, hk1, ht1⟩
        have c0 := ht1.c0
        have c1 := ht1.c1
        have HK1 := Lib.hid hk1; clear hk1
        have HT1 := Lib.hid ht1; clear ht1
        go_wp2_with fail
        go_quiet ((go_at_call 24; refine Calls.quiet_of (done_no b s p _ hs hlt ?_ ?_) <;> simp [go_sem, c0, c1]))
        go_wp2_with fail
        go_ret2
        exact ⟨rfl, HK1.out.drewN nq⟩
      · have e48 : (((s[p]).toNat : Int) == 48) = false := by
          rw [beq_eq_false_iff_ne]; intro h; exact h48 (UInt8.toNat_inj.1 (by have : (48 : UInt8).toNat = 48 := rfl; omega))
        have N42 := Lib.hid n42; clear n42
        have N48 := Lib.hid h48; clear h48
        go_enter Tryd.func40, Tryd.ntmps40
        go_wp2_with fail
        refine (take_no b s p 42 _ hs hp H42.out HT.out).mono ?_
        rintro e w1 ⟨rfl, hk1, ht1⟩
        have c0 := ht1.c0
        have c1 := ht1.c1
        have HK1 := Lib.hid hk1; clear hk1
        have HT1 := Lib.hid ht1; clear ht1
        go_wp2_with fail
        go_quiet ((go_at_call 24; refine Calls.quiet_of (done_no b s p _ hs hlt ?_ ?_) <;> simp [go_sem, c0, c1]))
        clear e48
        go_wp2_with fail
        clear c0 c1
        go_loopg [5] 2 (fun k nv wr => ∃ (q : Nat) (n : Int), DigAt s p q n ∧ q ≤ s.size ∧ k = p + 2 - q ∧ nv = .int .i64 n ∧ KeepB b w wr ∧ Two wr b 45 (.string s) (.int .i64 q))
        case atStart => exact ⟨p, 0, .inl ⟨rfl, rfl⟩, hp, by omega, rfl, HK1.out.drewN nq, HT1.out.drewN nq⟩
        case round =>
          obtain ⟨q, n, hdig, hq, hk, rfl, hkeep, ht2⟩ := hrel
          have hbd := hdig.bounds
          have HD := Lib.hid hdig; clear hdig
          have HK := Lib.hid hk; clear hk
          have HKE := Lib.hid hkeep; clear hkeep
          have c0 := ht2.c0
          have c1 := ht2.c1
          have f1 := ht2.f1
          have HT2 := Lib.hid ht2; clear ht2
          by_cases hgo : ∃ h : q < s.size, q < p + 2 ∧ dgB s[q] = true
          · obtain ⟨hql, hq2, hqd⟩ := hgo
            have hfa := dgB_facts hqd
            have HN := Lib.hid (HD.out.next hql hq2 hqd)
            clear hqd
            have hiq : (q : Int) < (s.size : Int) := by omega
            have hiq2 : (q : Int) - (p : Int) < 2 := by omega
            obtain ⟨hf1, hf2⟩ := hfa
            have d1 : decide ((q : Int) - (p : Int) < 2) = true := by simp; omega
            have d2 : decide ((48 : Int) ≤ ((s[q]).toNat : Int)) = true := by simpa using hf1
            have d3 : decide (((s[q]).toNat : Int) ≤ 57) = true := by simpa using hf2
            go_wp2_with fail
            go_quiet ((go_at_call 24; refine Calls.quiet_of (done_no b s q _ hs hql ?_ ?_) <;> simp [go_sem, c0, c1]))
            go_wp2_with fail
            go_quiet (fail)
            go_wp2_with fail
            go_roundg (p + 2 - (q + 1))
            case measure => rw [HK.out]; omega
            case rel => exact ⟨q + 1, _, HN.out, by omega, rfl, rfl, (HKE.out.drewN _).setCell 1 _, (HT2.out.drewN _).set1 _⟩
          · have HST := Lib.hid (HD.out.stop hlt N42.out N48.out hgo)
            have HFIN := Lib.hid (show ∀ w5, KeepB b w w5 → Two w5 b 45 (.string s) (.int .i64 q) → NumPost s p b R w (.returned (.tuple #[.int .i64 n, .bool (decide (p < q))])) w5 by
              intro w5 k5 t5
              have hr := HST.out
              rw [HR.out] at hr
              by_cases hpq : p < q
              · rw [if_pos hpq] at hr
                subst hr
                rw [decide_eq_true hpq]
                exact ⟨rfl, k5, q, rfl, hpq, hq, t5⟩
              · rw [if_neg hpq] at hr
                subst hr
                rw [decide_eq_false hpq]
                have hq0 : q = p := by omega
                have hn0 : n = 0 := by
                  rcases HD.out with ⟨_, h⟩ | ⟨_, _, h, _⟩ | ⟨_, _, _, h, _⟩
                  · exact h
                  · omega
                  · omega
                subst hn0
                exact ⟨rfl, k5⟩)
            by_cases hql : q < s.size
            · have hiq : (q : Int) < (s.size : Int) := by omega
              by_cases hq2 : q < p + 2
              · have d1 : decide ((q : Int) - (p : Int) < 2) = true := by simp; omega
                have hd1 : (q : Int) - (p : Int) < 2 := by omega
                have hqd : dgB s[q] = false := by
                  cases hb : dgB s[q] with
                  | false => rfl
                  | true => exact absurd ⟨hql, hq2, hb⟩ hgo
                have hno := dgB_no hqd
                clear hgo hqd
                by_cases hlo : (48 : Int) ≤ ((s[q]).toNat : Int)
                · have d2 : decide ((48 : Int) ≤ ((s[q]).toNat : Int)) = true := decide_eq_true hlo
                  have d3 : decide (((s[q]).toNat : Int) ≤ 57) = false := decide_eq_false (by omega)
                  clear hno
                  go_wp2_with fail
                  go_quiet ((go_at_call 24; refine Calls.quiet_of (done_no b s q _ hs hql ?_ ?_) <;> simp [go_sem, c0, c1]))
                  go_wp2_with fail
                  go_quiet (fail)
                  go_wp2_with fail
                  go_ret2
                  exact HFIN.out _ ((HKE.out.drewN _).drewN _) ((HT2.out.drewN _).drewN _)
                · have d2 : decide ((48 : Int) ≤ ((s[q]).toNat : Int)) = false := decide_eq_false hlo
                  clear hno
                  go_wp2_with fail
                  go_quiet ((go_at_call 24; refine Calls.quiet_of (done_no b s q _ hs hql ?_ ?_) <;> simp [go_sem, c0, c1]))
                  go_wp2_with fail
                  go_quiet (fail)
                  go_wp2_with fail
                  go_ret2
                  exact HFIN.out _ ((HKE.out.drewN _).drewN _) ((HT2.out.drewN _).drewN _)
              · have d1 : decide ((q : Int) - (p : Int) < 2) = false := decide_eq_false (by omega)
                clear hgo
                go_wp2_with fail
                go_quiet ((go_at_call 24; refine Calls.quiet_of (done_no b s q _ hs hql ?_ ?_) <;> simp [go_sem, c0, c1]))
                go_wp2_with fail
                go_quiet (fail)
                go_wp2_with fail
                go_ret2
                exact HFIN.out _ ((HKE.out.drewN _).drewN _) ((HT2.out.drewN _).drewN _)
            · have HQE := Lib.hid (show q = s.size by omega)
              clear hgo
              go_wp2_with fail
              go_quiet ((go_at_call 24; refine Calls.quiet_of (done_yes b s q _ hs HQE.out ?_ ?_) <;> simp [go_sem, c0, c1]))
              go_wp2_with fail
              go_quiet (fail)
              go_wp2_with fail
              go_ret2
              exact HFIN.out _ ((HKE.out.drewN _).drewN _) ((HT2.out.drewN _).drewN _)
    · have HPE := Lib.hid (show p = s.size by omega)
      obtain rfl : R = none := by rw [← HR.out, bl_drop_end s p (by omega)]; rfl
      go_enter Tryd.func40, Tryd.ntmps40
      go_wp2_with fail
      refine (take_no b s p 42 _ hs hp H42.out HT.out).mono ?_
      rintro e w1 ⟨rfl, hk1, ht1⟩
      have c0 := ht1.c0
      have c1 := ht1.c1
      have HK1 := Lib.hid hk1; clear hk1
      have HT1 := Lib.hid ht1; clear ht1
      go_wp2_with fail
      go_quiet ((go_at_call 24; refine Calls.quiet_of (done_yes b s p _ hs HPE.out ?_ ?_) <;> simp [go_sem, c0, c1]))
      go_wp2_with fail
      go_ret2
      exact ⟨rfl, HK1.out.drewN nq⟩
  · have hlt := atB_lt h42
    have H42 := Lib.hid h42; clear h42
    obtain rfl : R = some (0, (bl s).drop (p + 1)) := by
      have := H42.out
      rw [atB_iff s p 42 hlt, decide_eq_true_iff] at this
      rw [← HR.out, bl_drop_cons s p hlt, numP_cons, if_pos this]
    go_enter Tryd.func40, Tryd.ntmps40
    go_wp2_with fail
    refine (take_is b s p 42 _ hs H42.out HT.out).mono ?_
    rintro e w1 ⟨rfl, hk1, ht1⟩
    have HK1 := Lib.hid hk1; clear hk1
    have HT1 := Lib.hid ht1; clear ht1
    go_wp2_with fail
    go_ret2
    exact ⟨rfl, HK1.out, p + 1, rfl, by omega, by omega, HT1.out⟩

end Go.Proofs.YthabmjadfomnkaaDoor
