/- Contracts of NameValid, the program's and the reference's. -/
import Derived.Test.YtcpkadenejlbjaaCur
namespace Go.Proofs.Ytcpkadenejlbjaa
open Go.RowKit
set_option linter.unusedVariables false

theorem l6In_any (n lo hi : Int) (w : World) :
    Calls Try.prog 32 #[.int .i64 n, .int .i64 lo, .int .i64 hi] w fun e w' => e = .returned (.bool (decide (lo ≤ n) && decide (n ≤ hi))) ∧ w = w' := by
  by_cases h1 : lo ≤ n
  · by_cases h2 : n ≤ hi
    · go_enter Try.func32, Try.ntmps32
      go_wp2
      go_ret
      exact ⟨by simp [*], rfl⟩
    · go_enter Try.func32, Try.ntmps32
      go_wp2
      go_ret
      exact ⟨by simp [*], rfl⟩
  · have h3 : decide (lo ≤ n) = false := by simpa using h1
    go_enter Try.func32, Try.ntmps32
    go_wp2
    go_ret
    exact ⟨by simp [*], rfl⟩

set_option maxHeartbeats 400000 in
/-- The program's NameValid. -/
theorem implName_any (s : ByteArray) (w : World) (hs : s.size ≤ 1000000000) :
    Calls Try.prog 17 #[.string s] w fun e w' => e = .returned (.bool (nameB s)) ∧ Below w.heap.size w w' := by
  have hn := nend_le s 0 (Nat.zero_le _)
  rw [← nameB_impl]
  cases hz : szOk 0 (nend s 0)
  · go_enter Try.func17, Try.ntmps17
    go_wp2_with fail
    refine (name_any w.heap.size s 0 _ hs (Nat.zero_le _) ?_).mono ?_
    · exact Two.new w 44 _ _
    rw [hz]
    rintro e w1 ⟨rfl, hk, ht⟩
    go_wp2
    go_ret
    exact ⟨by simp, ((Below.refl _ _).alloc (Nat.le_refl _) _).trans (hk.below (Nat.le_refl _) (by simp))⟩
  · go_enter Try.func17, Try.ntmps17
    go_wp2_with fail
    refine (name_any w.heap.size s 0 _ hs (Nat.zero_le _) ?_).mono ?_
    · exact Two.new w 44 _ _
    rw [hz]
    rintro e w1 ⟨rfl, hk, ht⟩
    go_wp2_with fail
    refine (done_any w.heap.size s (nend s 0) _ hs hn.2 ht.c0 ht.c1).mono ?_
    rintro e w2 ⟨rfl, n, rfl⟩
    go_wp2
    go_ret
    exact ⟨by simp, Below.drewN' (((Below.refl _ _).alloc (Nat.le_refl _) _).trans (hk.below (Nat.le_refl _) (by simp))) n⟩

set_option maxHeartbeats 1000000 in
/-- The reference's NameValid. -/
theorem specName_any (s : ByteArray) (w : World) (hs : s.size ≤ 1000000000) :
    Calls Try.prog 24 #[.string s] w fun e w' => e = .returned (.bool (nameB s)) ∧ w = w' := by
  go_enter Try.func24, Try.ntmps24
  go_wp2_with fail
  go_loopg [3] s.size (fun k i wr => ∃ j : Nat, j ≤ s.size ∧ k = s.size - j ∧ i = .int .i64 j ∧ nend s j = nend s 0 ∧ w = wr)
  case atStart => exact ⟨0, Nat.zero_le _, rfl, rfl, rfl, rfl⟩
  case round =>
    obtain ⟨j, hj, hk, rfl, hn, rfl⟩ := hrel
    have HK := Lib.hid hk; clear hk
    have HN := Lib.hid hn; clear hn
    by_cases hlt : j < s.size
    · have hi : (j : Int) < (s.size : Int) := by omega
      rcases dcase ((97 : Int) ≤ (s[j].toNat : Int)) with h1 | h1 <;> rcases dcase ((s[j].toNat : Int) ≤ 122) with h2 | h2 <;> rcases dcase ((48 : Int) ≤ (s[j].toNat : Int)) with h3 | h3 <;> rcases dcase ((s[j].toNat : Int) ≤ 57) with h4 | h4
      all_goals (try (exfalso; clear HK HN; simp only [decide_eq_false_iff_not] at h1 h2 h3 h4; omega))
      all_goals
        go_wp2_with fail
        first
          | (go_roundg (s.size - (j + 1))
             case measure => rw [HK.out]; omega
             case rel => exact ⟨j + 1, by omega, rfl, by go_num, by rw [← nend_yes s j hlt (by simp [nb, nbI, h1, h2, h3, h4])]; exact HN.out, rfl⟩)
          | (go_ret; exact ⟨by rw [nameB_stop s j hlt (by simp [nb, nbI, h1, h2, h3, h4]) HN.out]; rfl, rfl⟩)
    · obtain rfl : j = s.size := by omega
      go_wp2_with fail
      refine (l6In_any _ _ _ _).mono ?_
      rintro e w1 ⟨rfl, rfl⟩
      go_wp2
      go_ret
      exact ⟨by rw [nameB_all s HN.out, ← szOk_int]; rfl, rfl⟩

end Go.Proofs.Ytcpkadenejlbjaa
