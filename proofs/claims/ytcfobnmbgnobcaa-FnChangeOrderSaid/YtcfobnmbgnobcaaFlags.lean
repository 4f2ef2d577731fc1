/- Flags: plain laws, and the contracts of the reference's and the program's functions. -/
import Derived.Test.YtcfobnmbgnobcaaPick
namespace Go.Proofs.Ytcfobnmbgnobcaa
open Go.RowKit
set_option linter.unusedVariables false

def bt (k : Nat) : Int := ((2 ^ k : Nat) : Int)
theorem bt_bd (k : Nat) (h : k < 5) : 1 ≤ bt k ∧ bt k ≤ 16 := by
  unfold bt
  match k, h with
  | 0, _ => decide
  | 1, _ => decide
  | 2, _ => decide
  | 3, _ => decide
  | 4, _ => decide
  | n + 5, h => omega
def onB (how f o : Int) (k : Nat) : Bool :=
  if how = 1 then decide (0 < f / bt k % 2 + o / bt k % 2) else if how = -1 then (f / bt k % 2 == 1) && (o / bt k % 2 == 0) else (o / bt k % 2 == 1)
def chgTo (how f o : Int) : Nat → Int
  | 0 => 0
  | k + 1 => chgTo how f o k + (if onB how f o k then bt k else 0)
theorem chgTo_bd (how f o : Int) (k : Nat) (h : k ≤ 5) : 0 ≤ chgTo how f o k ∧ chgTo how f o k ≤ 16 * k := by
  induction k with
  | zero => simp [chgTo]
  | succ k ih =>
    have := ih (by omega)
    have := bt_bd k (by omega)
    unfold chgTo
    split <;> omega
/-- Flags. -/
def flB (f : Int) : Bool := decide (0 ≤ f) && decide (f ≤ 31)

theorem l6In_any (n lo hi : Int) (w : World) :
    Calls Try.prog 15 #[.int .i64 n, .int .i64 lo, .int .i64 hi] w fun e w' => e = .returned (.bool (decide (lo ≤ n) && decide (n ≤ hi))) ∧ w = w' := by
  rcases dcase (lo ≤ n) with h1 | h1 <;> rcases dcase (n ≤ hi) with h2 | h2
  all_goals
    go_enter Try.func15, Try.ntmps15
    go_wp2
    go_ret
    exact ⟨by simp [h1, h2], rfl⟩
theorem l4Flags_any (f : Int) (w : World) :
    Calls Try.prog 12 #[.int .i64 f] w fun e w' => e = .returned (.bool (flB f)) ∧ w = w' := by
  go_enter Try.func12, Try.ntmps12
  go_wp2_with fail
  refine (l6In_any _ _ _ _).mono ?_
  rintro e w1 ⟨rfl, rfl⟩
  go_wp2_with fail
  go_ret
  exact ⟨rfl, rfl⟩
theorem flagsValid_any (f : Int) (w : World) :
    Calls Try.prog 14 #[.int .i64 f] w fun e w' => e = .returned (.bool (flB f)) ∧ w = w' := by
  rcases dcase (0 ≤ f) with h1 | h1 <;> rcases dcase (f ≤ 31) with h2 | h2
  all_goals
    go_enter Try.func14, Try.ntmps14
    go_wp2
    go_ret
    exact ⟨by simp [flB, h1, h2], rfl⟩

theorem l4Bit_any (k : Nat) (w : World) (h : k < 5) :
    Calls Try.prog 20 #[.int .i64 (k : Int)] w fun e w' => e = .returned (.int .i64 (bt k)) ∧ Below w.heap.size w w' := by
  match k, h with
  | 0, _ => go_enter Try.func20, Try.ntmps20; go_wp2; go_ret; exact ⟨rfl, (Below.refl _ _).alloc (Nat.le_refl _) _⟩
  | 1, _ => go_enter Try.func20, Try.ntmps20; go_wp2; go_ret; exact ⟨rfl, (Below.refl _ _).alloc (Nat.le_refl _) _⟩
  | 2, _ => go_enter Try.func20, Try.ntmps20; go_wp2; go_ret; exact ⟨rfl, (Below.refl _ _).alloc (Nat.le_refl _) _⟩
  | 3, _ => go_enter Try.func20, Try.ntmps20; go_wp2; go_ret; exact ⟨rfl, (Below.refl _ _).alloc (Nat.le_refl _) _⟩
  | 4, _ => go_enter Try.func20, Try.ntmps20; go_wp2; go_ret; exact ⟨rfl, (Below.refl _ _).alloc (Nat.le_refl _) _⟩
  | n + 5, h => omega

end Go.Proofs.Ytcfobnmbgnobcaa
