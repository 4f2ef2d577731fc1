/- Contracts of the cursor's methods. -/
import Derived.Test.YthabmjadfomnkaaDoorRows
import Derived.Test.YthabmjadfomnkaaDoorPlainA
import Derived.WalkKit
import Derived.WalkSpells
import Derived.WalkLawsBesides
import Derived.Deep.QuietTactic
import Derived.BigQuiet
import Derived.Lib.Hide
import Derived.Deep.LoopGhost
namespace Go.Proofs.YthabmjadfomnkaaDoor
open Go.RowKit
set_option linter.unusedVariables false

set_option maxHeartbeats 400000 in
theorem done_any (b : Nat) (s : ByteArray) (p : Nat) (w : World) (hs : s.size ≤ 1000000000) (hp : p ≤ s.size)
    (h0 : w.cell? ⟨b, 0, none⟩ = some (.string s)) (h1 : w.cell? ⟨b, 1, none⟩ = some (.int .i64 p)) :
    Calls Tryd.prog 24 #[.pointer (some ⟨b, 0, none⟩)] w fun e w' => e = .returned (.bool (decide (p = s.size))) ∧ ∃ n, w' = w.drewN n := by
  by_cases h : p = s.size
  · have h2 : ((p : Int) == (s.size : Int)) = true := by simp [h]
    have H := Lib.hid h; clear h
    go_enter Tryd.func24, Tryd.ntmps24
    go_wp2
    go_quiet (fail)
    go_wp2
    go_ret
    exact ⟨by simp [H.out], _, rfl⟩
  · have h2 : ((p : Int) == (s.size : Int)) = false := by simp; omega
    go_enter Tryd.func24, Tryd.ntmps24
    go_wp2
    go_quiet (fail)
    go_wp2
    go_ret
    exact ⟨by simp [h], _, rfl⟩
theorem done_yes (b : Nat) (s : ByteArray) (p : Nat) (w : World) (hs : s.size ≤ 1000000000) (hp : p = s.size)
    (h0 : w.cell? ⟨b, 0, none⟩ = some (.string s)) (h1 : w.cell? ⟨b, 1, none⟩ = some (.int .i64 p)) :
    Calls Tryd.prog 24 #[.pointer (some ⟨b, 0, none⟩)] w fun e w' => e = .returned (.bool true) ∧ ∃ n, w' = w.drewN n := by
  have h := done_any b s p w hs (by omega) h0 h1
  simpa [hp] using h
theorem done_no (b : Nat) (s : ByteArray) (p : Nat) (w : World) (hs : s.size ≤ 1000000000) (hp : p < s.size)
    (h0 : w.cell? ⟨b, 0, none⟩ = some (.string s)) (h1 : w.cell? ⟨b, 1, none⟩ = some (.int .i64 p)) :
    Calls Tryd.prog 24 #[.pointer (some ⟨b, 0, none⟩)] w fun e w' => e = .returned (.bool false) ∧ ∃ n, w' = w.drewN n := by
  have h := done_any b s p w hs (by omega) h0 h1
  rw [show decide (p = s.size) = false by simp; omega] at h
  exact h

/-- take: the next byte is there. -/
theorem take_yes (b : Nat) (s : ByteArray) (p : Nat) (c : UInt8) (w : World) (hs : s.size ≤ 1000000000) (hp : p < s.size) (hc : s[p] = c)
    (ht : Two w b 45 (.string s) (.int .i64 p)) :
    Calls Tryd.prog 25 #[.pointer (some ⟨b, 0, none⟩), .int .u8 (c.toNat : Int)] w fun e w' => e = .returned (.bool true) ∧ KeepB b w w' ∧ Two w' b 45 (.string s) (.int .i64 (p + 1 : Nat)) := by
  have h0 := ht.c0
  have h1 := ht.c1
  have h2 := ht.f1
  have hi : (p : Int) < (s.size : Int) := by omega
  have hne : (((s[p]).toNat : Int) != (c.toNat : Int)) = false := by rw [hc]; simp
  have HT := Lib.hid ht; clear ht
  have HC := Lib.hid hc; clear hc
  go_enter Tryd.func25, Tryd.ntmps25
  go_wp2_with fail
  go_quiet ((go_at_call 24; refine Calls.quiet_of (done_no b s p _ hs hp ?_ ?_) <;> simp [go_sem, h0, h1]))
  go_wp2
  go_ret
  exact ⟨rfl, ((KeepB.refl b w).drewN nq).setCell 1 _, (HT.out.drewN nq).set1 _⟩

/-- take: no more bytes. -/
theorem take_end (b : Nat) (s : ByteArray) (p : Nat) (c : UInt8) (w : World) (hs : s.size ≤ 1000000000) (hp : p = s.size)
    (ht : Two w b 45 (.string s) (.int .i64 p)) :
    Calls Tryd.prog 25 #[.pointer (some ⟨b, 0, none⟩), .int .u8 (c.toNat : Int)] w fun e w' => e = .returned (.bool false) ∧ KeepB b w w' ∧ Two w' b 45 (.string s) (.int .i64 p) := by
  have h0 := ht.c0
  have h1 := ht.c1
  have HT := Lib.hid ht; clear ht
  have HP := Lib.hid hp; clear hp
  go_enter Tryd.func25, Tryd.ntmps25
  go_wp2_with fail
  go_quiet ((go_at_call 24; refine Calls.quiet_of (done_yes b s p _ hs HP.out ?_ ?_) <;> simp [go_sem, h0, h1]))
  go_wp2
  go_ret
  exact ⟨rfl, (KeepB.refl b w).drewN nq, HT.out.drewN nq⟩
/-- take: another byte. -/
theorem take_other (b : Nat) (s : ByteArray) (p : Nat) (c : UInt8) (w : World) (hs : s.size ≤ 1000000000) (hp : p < s.size) (hc : s[p] ≠ c)
    (ht : Two w b 45 (.string s) (.int .i64 p)) :
    Calls Tryd.prog 25 #[.pointer (some ⟨b, 0, none⟩), .int .u8 (c.toNat : Int)] w fun e w' => e = .returned (.bool false) ∧ KeepB b w w' ∧ Two w' b 45 (.string s) (.int .i64 p) := by
  have h0 := ht.c0
  have h1 := ht.c1
  have hi : (p : Int) < (s.size : Int) := by omega
  have hne : (((s[p]).toNat : Int) != (c.toNat : Int)) = true := by simp; intro h; exact hc (UInt8.toNat_inj.1 (by omega))
  have HT := Lib.hid ht; clear ht
  clear hc
  go_enter Tryd.func25, Tryd.ntmps25
  go_wp2_with fail
  go_quiet ((go_at_call 24; refine Calls.quiet_of (done_no b s p _ hs hp ?_ ?_) <;> simp [go_sem, h0, h1]))
  go_wp2
  go_ret
  exact ⟨rfl, (KeepB.refl b w).drewN nq, HT.out.drewN nq⟩

/-- Is the byte c at place p? -/
def atB (s : ByteArray) (p : Nat) (c : UInt8) : Bool := if h : p < s.size then decide (s[p] = c) else false
theorem take_no (b : Nat) (s : ByteArray) (p : Nat) (c : UInt8) (w : World) (hs : s.size ≤ 1000000000) (hp : p ≤ s.size) (hc : atB s p c = false)
    (ht : Two w b 45 (.string s) (.int .i64 p)) :
    Calls Tryd.prog 25 #[.pointer (some ⟨b, 0, none⟩), .int .u8 (c.toNat : Int)] w fun e w' => e = .returned (.bool false) ∧ KeepB b w w' ∧ Two w' b 45 (.string s) (.int .i64 p) := by
  by_cases h : p < s.size
  · exact take_other b s p c w hs h (by simpa [atB, h] using hc) ht
  · exact take_end b s p c w hs (by omega) ht
theorem take_is (b : Nat) (s : ByteArray) (p : Nat) (c : UInt8) (w : World) (hs : s.size ≤ 1000000000) (hc : atB s p c = true)
    (ht : Two w b 45 (.string s) (.int .i64 p)) :
    Calls Tryd.prog 25 #[.pointer (some ⟨b, 0, none⟩), .int .u8 (c.toNat : Int)] w fun e w' => e = .returned (.bool true) ∧ KeepB b w w' ∧ Two w' b 45 (.string s) (.int .i64 (p + 1 : Nat)) := by
  by_cases h : p < s.size
  · exact take_yes b s p c w hs h (by simpa [atB, h] using hc) ht
  · simp [atB, h] at hc

end Go.Proofs.YthabmjadfomnkaaDoor
