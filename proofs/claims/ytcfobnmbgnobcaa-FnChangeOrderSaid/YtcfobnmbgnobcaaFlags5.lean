/- Flags: the drawn flags, and the walk of FnChangeOrder. -/
import Derived.Test.YtcfobnmbgnobcaaFlags4
namespace Go.Proofs.Ytcfobnmbgnobcaa
open Go.RowKit
set_option linter.unusedVariables false

theorem chgR_swap (f o : Int) : chgR o 1 f = chgR f 1 o := by
  unfold chgR
  cases hv : flB f <;> cases hv' : flB o
  all_goals (try (simp; done))
  rw [← or_at f o hv hv', ← or_at o f hv' hv]
  simp [flB] at hv hv'
  obtain ⟨F, rfl⟩ := Int.eq_ofNat_of_zero_le hv.1
  obtain ⟨O, rfl⟩ := Int.eq_ofNat_of_zero_le hv'.1
  rw [i64_or_nat F O (by omega) (by omega), i64_or_nat O F (by omega) (by omega), Nat.or_comm]

/-- Some number was drawn. -/
def DrewAny (lo hi : Int) (b m : Nat) (w : World) (e : Ending) (w' : World) : Prop := ∃ r : Int, lo ≤ r ∧ r ≤ hi ∧ e = .returned (.int .i64 r) ∧ KeepB b w w' ∧ RdAt w' b m
/-- Three numbers were drawn. -/
def GaveThree (w : World) (e : Ending) (w' : World) : Prop := ∃ a h o : Int, e = .returned (.tuple #[.int .i64 a, .int .i64 h, .int .i64 o]) ∧ Below w.heap.size w w'

set_option maxHeartbeats 1000000 in
theorem drawFlags_any (b m : Nat) (w : World) (hm : m ≤ 900000) (hr : RdAt w b m) :
    Calls Try.prog 18 #[.pointer (some ⟨b, 0, none⟩)] w (DrewAny (-1) 32 b (m + 2) w) := by
  have HR := Lib.hid hr; clear hr
  go_enter Try.func18, Try.ntmps18
  go_wp2_with fail
  refine (pick_any b m _ _ (by omega) (by omega) HR.out).mono ?_
  rintro e w1 ⟨r, hr0, hr1, rfl, hk, hr'⟩
  have hlt := hr'.lt
  have HK := Lib.hid hk; clear hk
  have HR' := Lib.hid hr'; clear hr'
  cases h0 : (r == 0)
  · go_wp2_with fail
    refine (pick_any b (m + 1) _ _ (by omega) (by omega) HR'.out).mono ?_
    rintro e w2 ⟨q, hq0, hq1, rfl, hk2, hr2⟩
    have HK2 := Lib.hid hk2; clear hk2
    have HR2 := Lib.hid hr2; clear hr2
    go_wp2
    go_ret
    exact ⟨q, by omega, by omega, rfl, HK.out.trans HK2.out, HR2.out⟩
  · go_wp2_with fail
    refine (pick_any b (m + 1) _ _ (by omega) (by omega) (HR'.out.alloc _)).mono ?_
    rintro e w2 ⟨q, hq0, hq1, rfl, hk2, hr2⟩
    obtain ⟨k, rfl⟩ := Int.eq_ofNat_of_zero_le hq0
    have hb : ∀ (t : TypeId), (w1.alloc (.cells #[.int .i64 (-1), .int .i64 31, .int .i64 32] t)).heap[w1.heap.size]? = some (.cells #[.int .i64 (-1), .int .i64 31, .int .i64 32] t) := by
      intro t
      show (w1.heap.push _)[w1.heap.size]? = _
      simp
    have hc : ∃ z : Int, -1 ≤ z ∧ z ≤ 32 ∧ w2.cell? ⟨w1.heap.size, k, none⟩ = some (.int .i64 z) := by
      have h2 := cell_at (hk2.other (hb _) (by omega)) k
      have : k = 0 ∨ k = 1 ∨ k = 2 := by omega
      rcases this with rfl | rfl | rfl
      · exact ⟨-1, by omega, by omega, h2⟩
      · exact ⟨31, by omega, by omega, h2⟩
      · exact ⟨32, by omega, by omega, h2⟩
    obtain ⟨z, z1, z2, hc⟩ := hc
    clear hb
    have HK2 := Lib.hid hk2; clear hk2
    have HR2 := Lib.hid hr2; clear hr2
    go_wp2
    go_ret
    exact ⟨z, z1, z2, rfl, (HK.out.alloc _).trans HK2.out, HR2.out⟩

set_option maxHeartbeats 1000000 in
theorem drawChange_any (a : Option Addr) (len cap : Nat) (zs : List Int) (w : World) (h : IsRow w a len cap zs) :
    Calls Try.prog 11 #[.slice a len cap] w (GaveThree w) := by
  have H := Lib.hid h; clear h
  go_enter Try.func11, Try.ntmps11
  go_wp2_with fail
  refine (open_any a len cap zs _ H.out).mono ?_
  rintro e w1 ⟨rfl, hb, hr⟩
  have HB := Lib.hid hb; clear hb
  have HR := Lib.hid hr; clear hr
  go_wp2_with fail
  refine (drawFlags_any _ 0 _ (by omega) HR.out).mono ?_
  rintro e w2 ⟨r, r0, r1, rfl, hk, hr2⟩
  have HK := Lib.hid hk; clear hk
  have HR2 := Lib.hid hr2; clear hr2
  go_wp2_with fail
  refine (pick_any _ 2 _ _ (by omega) (by omega) HR2.out).mono ?_
  rintro e w3 ⟨p, p0, p1, rfl, hk, hr3⟩
  have HK3 := Lib.hid (HK.out.trans hk); clear hk
  have HR3 := Lib.hid hr3; clear hr3
  go_wp2_with fail
  refine (pick_any _ 3 _ _ (by omega) (by omega) HR3.out).mono ?_
  rintro e w4 ⟨q, q0, q1, rfl, hk, hr4⟩
  have HK4 := Lib.hid (HK3.out.trans hk); clear hk
  have HR4 := Lib.hid hr4; clear hr4
  go_wp2_with fail
  refine (drawFlags_any _ 4 _ (by omega) HR4.out).mono ?_
  rintro e w5 ⟨s, s0, s1, rfl, hk, hr5⟩
  have HK5 := Lib.hid (HK4.out.trans hk); clear hk hr5
  go_wp2_with fail
  go_ret3
  exact ⟨_, _, _, rfl, HB.out.trans (HK5.out.below (Nat.le_refl _) HB.out.size)⟩

set_option maxHeartbeats 1000000 in
theorem changeOrder_walk (a : Option Addr) (len cap : Nat) (zs : List Int) (w : World) (h : IsRow w a len cap zs) :
    Calls Try.prog 6 #[.slice a len cap] w fun e w' => e = .returned (.bool true) ∧ Below w.heap.size w w' := by
  by_cases hb : (1048576 : Int) < (len : Int)
  · go_enter Try.func6, Try.ntmps6
    go_wp2_with fail
    go_ret
    exact ⟨rfl, Below.refl _ _⟩
  · have H := Lib.hid h; clear h
    go_enter Try.func6, Try.ntmps6
    go_wp2_with fail
    refine (drawChange_any a len cap zs _ H.out).mono ?_
    rintro e w1 ⟨f, how, o, rfl, hb1⟩
    have HB := Lib.hid hb1; clear hb1
    go_wp2_with fail
    refine (implFC_any f how o _).mono ?_
    rintro e w2 ⟨rfl, hb2⟩
    have HB2 := Lib.hid (HB.out.trans (hb2.mono HB.out.size)); clear hb2
    go_wp2_with fail
    refine (specFC_any f how o _).mono ?_
    rintro e w3 ⟨rfl, hb3⟩
    have HB3 := Lib.hid (HB2.out.trans (hb3.mono HB2.out.size)); clear hb3
    cases hh : (how != 1)
    · obtain rfl : how = 1 := by simpa using hh
      clear hh
      go_wp2_with fail
      refine (implFC_any o 1 f _).mono ?_
      rw [chgR_swap]
      rintro e w4 ⟨rfl, hb4⟩
      have HB4 := Lib.hid (HB3.out.trans (hb4.mono HB3.out.size)); clear hb4
      go_wp2_with fail
      go_ret
      exact ⟨by simp, HB4.out⟩
    · go_wp2_with fail
      go_ret
      exact ⟨by simp, HB3.out⟩

end Go.Proofs.Ytcfobnmbgnobcaa
