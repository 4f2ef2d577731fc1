/- Contracts of the cursor's methods. -/
import Derived.Test.YtcpkadenejlbjaaRows
import Derived.Test.YtcpkadenejlbjaaPlainA
import Derived.WalkKit
import Derived.WalkSpells
import Derived.WalkLawsBesides
import Derived.Deep.QuietTactic
import Derived.BigQuiet
import Derived.Lib.Hide
import Derived.Deep.LoopGhost
namespace Go.Proofs.Ytcpkadenejlbjaa
open Go.RowKit
set_option linter.unusedVariables false

set_option maxHeartbeats 400000 in
theorem nameByte_any (c : UInt8) (w : World) :
    Calls Try.prog 34 #[.int .u8 (c.toNat : Int)] w fun e w' => e = .returned (.bool (nb c)) ∧ w = w' := by
  rcases dcase ((97 : Int) ≤ (c.toNat : Int)) with h1 | h1 <;> rcases dcase ((c.toNat : Int) ≤ 122) with h2 | h2 <;> rcases dcase ((48 : Int) ≤ (c.toNat : Int)) with h3 | h3 <;> rcases dcase ((c.toNat : Int) ≤ 57) with h4 | h4
  all_goals (try (exfalso; simp only [decide_eq_false_iff_not] at *; omega))
  all_goals
    go_enter Try.func34, Try.ntmps34
    go_wp2
    go_ret
    exact ⟨by simp [nb, nbI, h1, h2, h3, h4], rfl⟩

set_option maxHeartbeats 400000 in
theorem done_any (b : Nat) (s : ByteArray) (p : Nat) (w : World) (hs : s.size ≤ 1000000000) (hp : p ≤ s.size)
    (h0 : w.cell? ⟨b, 0, none⟩ = some (.string s)) (h1 : w.cell? ⟨b, 1, none⟩ = some (.int .i64 p)) :
    Calls Try.prog 27 #[.pointer (some ⟨b, 0, none⟩)] w fun e w' => e = .returned (.bool (decide (p = s.size))) ∧ ∃ n, w' = w.drewN n := by
  by_cases h : p = s.size
  · have h2 : ((p : Int) == (s.size : Int)) = true := by simp [h]
    have H := Lib.hid h; clear h
    go_enter Try.func27, Try.ntmps27
    go_wp2
    go_quiet (fail)
    go_wp2
    go_ret
    exact ⟨by simp [H.out], _, rfl⟩
  · have h2 : ((p : Int) == (s.size : Int)) = false := by simp; omega
    go_enter Try.func27, Try.ntmps27
    go_wp2
    go_quiet (fail)
    go_wp2
    go_ret
    exact ⟨by simp [h], _, rfl⟩
theorem done_yes (b : Nat) (s : ByteArray) (p : Nat) (w : World) (hs : s.size ≤ 1000000000) (hp : p = s.size)
    (h0 : w.cell? ⟨b, 0, none⟩ = some (.string s)) (h1 : w.cell? ⟨b, 1, none⟩ = some (.int .i64 p)) :
    Calls Try.prog 27 #[.pointer (some ⟨b, 0, none⟩)] w fun e w' => e = .returned (.bool true) ∧ ∃ n, w' = w.drewN n := by
  have h := done_any b s p w hs (by omega) h0 h1
  simpa [hp] using h
theorem done_no (b : Nat) (s : ByteArray) (p : Nat) (w : World) (hs : s.size ≤ 1000000000) (hp : p < s.size)
    (h0 : w.cell? ⟨b, 0, none⟩ = some (.string s)) (h1 : w.cell? ⟨b, 1, none⟩ = some (.int .i64 p)) :
    Calls Try.prog 27 #[.pointer (some ⟨b, 0, none⟩)] w fun e w' => e = .returned (.bool false) ∧ ∃ n, w' = w.drewN n := by
  have h := done_any b s p w hs (by omega) h0 h1
  rw [show decide (p = s.size) = false by simp; omega] at h
  exact h

/-- Is the byte c at place p? -/
def atB (s : ByteArray) (p : Nat) (c : UInt8) : Bool := if h : p < s.size then decide (s[p] = c) else false

set_option maxHeartbeats 1000000 in
/-- name: reads up to where the name's bytes end. -/
theorem name_any (b : Nat) (s : ByteArray) (p : Nat) (w : World) (hs : s.size ≤ 1000000000) (hp : p ≤ s.size)
    (ht : Two w b 44 (.string s) (.int .i64 p)) :
    Calls Try.prog 26 #[.pointer (some ⟨b, 0, none⟩)] w fun e w' => e = .returned (.tuple #[.string (s.extract p (nend s p)), .bool (szOk p (nend s p))]) ∧ KeepB b w w' ∧ Two w' b 44 (.string s) (.int .i64 (nend s p)) := by
  have h0 := ht.c0
  have h1 := ht.c1
  have HT := Lib.hid ht; clear ht
  go_enter Try.func26, Try.ntmps26
  go_wp2_with fail
  go_loopg [] (s.size - p) (fun k wr => ∃ p' : Nat, p ≤ p' ∧ p' ≤ s.size ∧ k = s.size - p' ∧ nend s p' = nend s p ∧ KeepB b w wr ∧ Two wr b 44 (.string s) (.int .i64 p'))
  case atStart => exact ⟨p, Nat.le_refl _, hp, rfl, rfl, KeepB.refl _ _, HT.out⟩
  case round =>
    obtain ⟨p', hp1, hp2, hk, hn, hkeep, ht'⟩ := hrel
    clear h0 h1
    have h0 := ht'.c0
    have h1 := ht'.c1
    have h2 := ht'.f1
    have HT' := Lib.hid ht'; clear ht'
    have HK := Lib.hid hk; clear hk
    have HN := Lib.hid hn; clear hn
    by_cases hgo : ∃ h : p' < s.size, nb s[p'] = true
    · obtain ⟨hlt, hb⟩ := hgo
      have hi : (p' : Int) < (s.size : Int) := by omega
      go_wp2_with fail
      go_quiet ((first | (go_at_call 27; refine Calls.quiet_of (done_no b s p' _ hs hlt ?_ ?_) <;> simp [go_sem, h0, h1]) | (go_at_call 34; exact quiet_left (nameByte_any _ _))))
      go_wp2
      go_roundg (s.size - (p' + 1))
      case measure => rw [HK.out]; omega
      case rel => exact ⟨p' + 1, by omega, by omega, rfl, by rw [← HN.out, nend_yes s p' hlt hb], (hkeep.drewN nq).setCell 1 _, (HT'.out.drewN nq).set1 _⟩
    · have hE : nend s p = p' := by
        rw [← HN.out]
        by_cases hlt : p' < s.size
        · exact nend_no s p' hlt (Bool.eq_false_iff.2 fun h => hgo ⟨hlt, h⟩)
        · rw [show p' = s.size by omega]; exact nend_end s
      have HE := Lib.hid hE; clear hE
      have hle : (p : Int) ≤ (p' : Int) := by omega
      have hle2 : (p' : Int) ≤ (s.size : Int) := by omega
      by_cases hz : 1 ≤ p' - p
      · have d1 : (1 : Int) ≤ (p' : Int) - p := by omega
        by_cases hlt : p' < s.size
        · have hb : nb s[p'] = false := Bool.eq_false_iff.2 fun h => hgo ⟨hlt, h⟩
          have hi : (p' : Int) < (s.size : Int) := by omega
          clear hgo
          go_wp2_with fail
          go_quiet ((first | (go_at_call 27; refine Calls.quiet_of (done_no b s p' _ hs hlt ?_ ?_) <;> simp [go_sem, h0, h1]) | (go_at_call 34; exact quiet_left (nameByte_any _ _))))
          go_wp2
          go_quiet (fail)
          go_wp2
          go_ret2
          rw [HE.out]
          exact ⟨by simp [szOk, hz]; omega, (hkeep.drewN _).drewN _, (HT'.out.drewN _).drewN _⟩
        · have HP : Hid (p' = s.size) := (by omega : p' = s.size)
          clear hgo
          go_wp2_with fail
          go_quiet ((go_at_call 27; refine Calls.quiet_of (done_yes b s p' _ hs HP.out ?_ ?_) <;> simp [go_sem, h0, h1]))
          go_wp2
          go_quiet (fail)
          go_wp2
          go_ret2
          rw [HE.out]
          exact ⟨by simp [szOk, hz]; omega, (hkeep.drewN _).drewN _, (HT'.out.drewN _).drewN _⟩
      · have d1 : decide ((1 : Int) ≤ (p' : Int) - p) = false := by simp; omega
        by_cases hlt : p' < s.size
        · have hb : nb s[p'] = false := Bool.eq_false_iff.2 fun h => hgo ⟨hlt, h⟩
          have hi : (p' : Int) < (s.size : Int) := by omega
          clear hgo
          go_wp2_with fail
          go_quiet ((first | (go_at_call 27; refine Calls.quiet_of (done_no b s p' _ hs hlt ?_ ?_) <;> simp [go_sem, h0, h1]) | (go_at_call 34; exact quiet_left (nameByte_any _ _))))
          go_wp2
          go_quiet (fail)
          go_wp2
          go_ret2
          rw [HE.out]
          exact ⟨by simp [szOk, hz], (hkeep.drewN _).drewN _, (HT'.out.drewN _).drewN _⟩
        · have HP : Hid (p' = s.size) := (by omega : p' = s.size)
          clear hgo
          go_wp2_with fail
          go_quiet ((go_at_call 27; refine Calls.quiet_of (done_yes b s p' _ hs HP.out ?_ ?_) <;> simp [go_sem, h0, h1]))
          go_wp2
          go_quiet (fail)
          go_wp2
          go_ret2
          rw [HE.out]
          exact ⟨by simp [szOk, hz], (hkeep.drewN _).drewN _, (HT'.out.drewN _).drewN _⟩

end Go.Proofs.Ytcpkadenejlbjaa
