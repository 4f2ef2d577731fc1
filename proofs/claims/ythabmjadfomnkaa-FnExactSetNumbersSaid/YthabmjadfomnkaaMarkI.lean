/- Contracts: marks in numbers, and whether they are held; numbers compared. -/
import Derived.Test.YthabmjadfomnkaaLNum
import Derived.Test.YthabmjadfomnkaaMarkW
namespace Go.Proofs.Ythabmjadfomnkaa
open Go.RowKit
set_option linter.unusedVariables false

/-- The marks of n numbers from k on. -/
def markIL (n : Nat) (k : Int) : List Int := (List.range n).map fun i : Nat => k + (i : Int)
theorem markIL_length (n : Nat) (k : Int) : (markIL n k).length = n := by simp [markIL]
theorem markIL_get (n : Nat) (k : Int) (i : Nat) (h : i < (markIL n k).length) : (markIL n k)[i] = k + (i : Int) := by simp [markIL]
theorem cells_ints (cs : List Value) (ns : List Int) (hl : cs.length = ns.length * 1) (h : ∀ i (hi : i < ns.length), cs[i]? = some (.int .i64 ns[i])) : cs = ns.map (Value.int .i64) := by
  refine List.ext_getElem? fun j => ?_
  by_cases hj : j < ns.length
  · rw [h j hj]; simp [hj]
  · rw [List.getElem?_eq_none (by omega), List.getElem?_eq_none (by simp; omega)]

set_option maxHeartbeats 4000000 in
theorem markIntS_any (v : Value) (ns : List Int) (k : Int) (base : Nat) (w : World) (h : w.ownsRow base 3 1 v ns.length (ns.map (Value.int .i64))) (hk0 : 0 ≤ k) (hk1 : k ≤ 1000) (hn : ns.length ≤ 1048576) :
    Calls Try.prog 34 #[v, .int .i64 k] w fun e w' => e = .returned (.int .i64 (k + (ns.length : Int))) ∧ w'.ownsRow base 3 1 v ns.length ((markIL ns.length k).map (Value.int .i64)) ∧ w.grownBy w' v.ownBlock := by
  obtain ⟨a, cap, rfl, hcm, hlc⟩ := own_slice h
  unfold maxLen at hcm
  have H := Lib.hid h; clear h
  generalize hN : ns.length = n at *
  go_enter Try.func34, Try.ntmps34
  go_wp2_with fail
  go_loopg [1, 5] n (fun kk kv iv wr => ∃ (j : Nat) (cs : List Value), j ≤ n ∧ kk = n - j ∧ kv = .int .i64 (k + (j : Int)) ∧ iv = .int .i64 j ∧ wr.ownsRow base 3 1 (.slice a n cap) n cs ∧ (∀ i, i < j → cs[i]? = some (.int .i64 (k + (i : Int)))) ∧ w.grownBy wr (Value.slice a n cap).ownBlock)
  case atStart => exact ⟨0, _, Nat.zero_le _, rfl, by simp, rfl, H.out, fun i h => by omega, grown_refl _ _⟩
  case round =>
    obtain ⟨j, cs, hj, hk, rfl, rfl, hown, hcs, hgr⟩ := hrel
    have HK := Lib.hid hk; clear hk
    have HCS := Lib.hid hcs; clear hcs
    have HGR := Lib.hid hgr; clear hgr
    have hcl := hown.1
    have HCL := Lib.hid hcl; clear hcl
    have HOW := Lib.hid hown; clear hown
    by_cases hlt : j < n
    · have hi : (j : Int) < (n : Int) := by omega
      obtain ⟨g, rfl, hg⟩ := own_some HOW.out (by omega)
      have d0 := World.ownsRow.cellAt HOW.out j (by omega)
      rw [List.getElem?_eq_getElem (by rw [HCL.out]; omega)] at d0
      have f0 := World.ownsRow.frozenAt HOW.out j
      generalize cs[j]'_ = y0 at d0
      have HS1 := Lib.hid (World.ownsRow.stored HOW.out j (.int .i64 (k + (j : Int))))
      go_wp2_with fail
      go_roundg (n - (j + 1))
      case measure => rw [HK.out]; omega
      case rel =>
        refine ⟨j + 1, _, by omega, rfl, by congr 1; omega, by go_num, HS1.out.1, fun i hij => ?_, World.grownBy.trans HGR.out HS1.out.2⟩
        by_cases e : i = j
        · subst e
          rw [List.getElem?_set_self (by rw [HCL.out]; omega)]
        · rw [List.getElem?_set_ne (by omega)]
          exact HCS.out i (by omega)
    · obtain rfl : j = n := by omega
      have HFIN := Lib.hid (cells_ints cs (markIL j k) (by rw [markIL_length]; exact HCL.out) (fun i hi => by
        rw [markIL_get]; exact HCS.out i (by rw [markIL_length] at hi; exact hi)))
      go_wp2_with fail
      go_ret
      refine ⟨rfl, ?_, HGR.out⟩
      rw [← HFIN.out]
      exact HOW.out

set_option maxHeartbeats 4000000 in
theorem heldIntS_any (v : Value) (n : Nat) (k : Int) (w : World) (h : IntsAt w v (markIL n k)) (hk0 : 0 ≤ k) (hk1 : k ≤ 1000) (hn : n ≤ 1048576) :
    Calls Try.prog 35 #[v, .int .i64 k] w fun e w' => e = .returned (.int .i64 (k + (n : Int))) ∧ w = w' := by
  obtain ⟨a, cap, rfl, hlc, hcm, hrow⟩ := h
  unfold maxLen at hcm
  have HROW := Lib.hid hrow; clear hrow
  have hl := markIL_length n k
  rw [hl] at hlc ⊢
  have HL := Lib.hid hl; clear hl
  go_enter Try.func35, Try.ntmps35
  go_wp2_with fail
  go_loopg [1, 5] n (fun kk kv iv wr => ∃ j : Nat, j ≤ n ∧ kk = n - j ∧ kv = .int .i64 (k + (j : Int)) ∧ iv = .int .i64 j ∧ w = wr)
  case atStart => exact ⟨0, Nat.zero_le _, rfl, by simp, rfl, rfl⟩
  case round =>
    obtain ⟨j, hj, hk, rfl, rfl, rfl⟩ := hrel
    have HK := Lib.hid hk; clear hk
    by_cases hlt : j < n
    · have hi : (j : Int) < (n : Int) := by omega
      obtain ⟨g, rfl, hg, hcell⟩ := HROW.out.resolve_left (by intro e; have := HL.out; rw [e] at this; simp at this; omega)
      have hj' : j < (markIL n k).length := by rw [HL.out]; exact hlt
      have c0 := hcell j hj'
      rw [markIL_get] at c0
      clear hcell
      go_wp2_with fail
      go_roundg (n - (j + 1))
      case measure => rw [HK.out]; omega
      case rel => exact ⟨j + 1, by omega, rfl, by congr 1; omega, by go_num, rfl⟩
    · obtain rfl : j = n := by omega
      go_wp2_with fail
      go_ret
      exact ⟨rfl, rfl⟩

set_option maxHeartbeats 1000000 in
theorem eqIntS_any (v v' : Value) (ns : List Int) (w : World) (hv : IntsAt w v ns) (hv' : IntsAt w v' ns) :
    Calls Try.prog 33 #[v, v'] w fun e w' => e = .returned (.bool true) ∧ Below w.heap.size w w' := by
  obtain ⟨a, cap, rfl, hlc, hcm, hrow⟩ := hv
  obtain ⟨a', cap', rfl, hlc', hcm', hrow'⟩ := hv'
  unfold maxLen at hcm hcm'
  have HROW := Lib.hid hrow; clear hrow
  have HROW' := Lib.hid hrow'; clear hrow'
  go_enter Try.func33, Try.ntmps33
  go_wp2_with fail
  go_loopg [5] ns.length (fun k iv wr => ∃ j : Nat, j ≤ ns.length ∧ k = ns.length - j ∧ iv = .int .i64 j ∧ Below w.heap.size w wr)
  case atStart => exact ⟨0, Nat.zero_le _, rfl, rfl, Below.refl _ _⟩
  case round =>
    obtain ⟨j, hj, hk, rfl, hbw⟩ := hrel
    have HK := Lib.hid hk; clear hk
    have HBW := Lib.hid hbw; clear hbw
    by_cases hlt : j < ns.length
    · have hi : (j : Int) < (ns.length : Int) := by omega
      have hne : ns ≠ [] := by rintro rfl; simp at hlt
      obtain ⟨g, rfl, hg, hcell⟩ := HROW.out.resolve_left hne
      obtain ⟨g', rfl, hg', hcell'⟩ := HROW'.out.resolve_left hne
      clear hne
      have c0 := (HBW.out.cell (p := ⟨g, j, none⟩) hg).trans (hcell j hlt)
      have c1 := (HBW.out.cell (p := ⟨g', j, none⟩) hg').trans (hcell' j hlt)
      clear hcell hcell'
      generalize ns[j] = x at c0 c1
      go_wp2_with fail
      go_quiet (fail)
      go_wp2_with fail
      go_roundg (ns.length - (j + 1))
      case measure => rw [HK.out]; omega
      case rel => exact ⟨j + 1, by omega, rfl, by go_num, Below.drewN' HBW.out nq⟩
    · have hi : ¬ (j : Int) < (ns.length : Int) := by omega
      go_wp2_with fail
      go_ret
      exact ⟨rfl, HBW.out⟩

theorem ints_grown {w w' : World} {v : Value} {ns : List Int} {row : Option Nat} (h : IntsAt w v ns) (hg : w.grownBy w' row) (hr : ∀ k, row = some k → v.ownBlock ≠ some k) : IntsAt w' v ns := by
  obtain ⟨a, cap, rfl, h1, h2, h3⟩ := h
  refine ⟨a, cap, rfl, h1, h2, h3.imp id ?_⟩
  rintro ⟨g, rfl, hb, hc⟩
  have hne : some g ≠ row := fun e => hr g e.symm rfl
  exact ⟨g, rfl, Nat.lt_of_lt_of_le hb hg.size, fun i hi => World.grownBy.cell hg (hc i hi) hne⟩

end Go.Proofs.Ythabmjadfomnkaa
