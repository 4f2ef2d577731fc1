/- Drawn sets with a last number; lists of numbers compared. -/
import Derived.Test.YthabmjadfomnkaaNumW2
import Derived.Deep.RegionWith
namespace Go.Proofs.Ythabmjadfomnkaa
open Go.RowKit
set_option linter.unusedVariables false

/-- A slice value reads as numbers. -/
def IntsAt (w : World) (v : Value) (ns : List Int) : Prop := ∃ a cap, v = .slice a ns.length cap ∧ ns.length ≤ cap ∧ cap ≤ maxLen ∧
  (ns = [] ∨ ∃ g, a = some ⟨g, 0, none⟩ ∧ g < w.heap.size ∧ ∀ i (h : i < ns.length), w.cell? ⟨g, i, none⟩ = some (.int .i64 ns[i]))
theorem IntsAt.below {w w' : World} {v : Value} {ns : List Int} (h : IntsAt w v ns) (hb : Below w.heap.size w w') : IntsAt w' v ns := by
  obtain ⟨a, cap, rfl, h1, h2, h3⟩ := h
  refine ⟨a, cap, rfl, h1, h2, h3.imp id ?_⟩
  rintro ⟨g, rfl, hg, hc⟩
  exact ⟨g, rfl, Nat.lt_of_lt_of_le hg hb.size, fun i hi => (hb.cell (p := ⟨g, _, none⟩) hg).trans (hc i hi)⟩
theorem IntsAt.alloc {w : World} {v : Value} {ns : List Int} (h : IntsAt w v ns) (o : Obj) : IntsAt (w.alloc o) v ns := h.below ((Below.refl _ _).alloc (Nat.le_refl _) o)
theorem intsAt_of {w : World} {base : Nat} {v : Value} {ns : List Int} (h : w.ownsRow base 3 1 v ns.length (ns.map (Value.int .i64))) : IntsAt w v ns := by
  have hl := h
  rcases h.2 with ⟨rfl, h1⟩ | ⟨g, cap, cur, rfl, _, hb, hn, hm, hs, ht⟩
  · obtain rfl : ns = [] := List.length_eq_zero_iff.1 h1
    exact ⟨none, 0, rfl, Nat.zero_le _, Nat.zero_le _, .inl rfl⟩
  · refine ⟨_, cap, rfl, hn, hm, .inr ⟨g, rfl, (Array.getElem?_eq_some_iff.1 hb).1, fun i hi => ?_⟩⟩
    rw [World.ownsRow.cellAt hl i (by omega)]
    simp [hi]

set_option maxHeartbeats 1000000 in
theorem sameInts_any (v v' : Value) (ns : List Int) (w : World) (hv : IntsAt w v ns) (hv' : IntsAt w v' ns) :
    Calls Try.prog 26 #[v, v'] w fun e w' => e = .returned (.bool true) ∧ Below w.heap.size w w' := by
  obtain ⟨a, cap, rfl, hlc, hcm, hrow⟩ := hv
  obtain ⟨a', cap', rfl, hlc', hcm', hrow'⟩ := hv'
  unfold maxLen at hcm hcm'
  have HROW := Lib.hid hrow; clear hrow
  have HROW' := Lib.hid hrow'; clear hrow'
  go_enter Try.func26, Try.ntmps26
  go_wp2_with fail
  go_loopg [5] ns.length (fun k iv wr => ∃ j : Nat, j ≤ ns.length ∧ k = ns.length - j ∧ iv = .int .i64 j ∧ Below w.heap.size w wr)
  case atStart => exact ⟨0, Nat.zero_le _, rfl, rfl, Below.refl _ _⟩
  case round =>
    obtain ⟨j, hj, hk, rfl, hbw⟩ := hrel
    have HK := Lib.hid hk; clear hk
    have HBW := Lib.hid hbw; clear hbw
    by_cases hlt : j < ns.length
    · have hi : (j : Int) < (ns.length : Int) := by omega
      have hne : ns ≠ [] := by rintro rfl; simp at hlt
      obtain ⟨g, rfl, hg, hcell⟩ := HROW.out.resolve_left hne
      obtain ⟨g', rfl, hg', hcell'⟩ := HROW'.out.resolve_left hne
      clear hne
      have c0 := (HBW.out.cell (p := ⟨g, j, none⟩) hg).trans (hcell j hlt)
      have c1 := (HBW.out.cell (p := ⟨g', j, none⟩) hg').trans (hcell' j hlt)
      clear hcell hcell'
      generalize ns[j] = x at c0 c1
      go_wp2_with fail
      go_quiet (fail)
      go_wp2_with fail
      go_roundg (ns.length - (j + 1))
      case measure => rw [HK.out]; omega
      case rel => exact ⟨j + 1, by omega, rfl, by go_num, Below.drewN' HBW.out nq⟩
    · have hi : ¬ (j : Int) < (ns.length : Int) := by omega
      go_wp2_with fail
      go_ret
      exact ⟨rfl, HBW.out⟩

/-- A drawn set and a last number. -/
def GaveSN (w : World) (e : Ending) (w' : World) : Prop := ∃ v xs n, smallSp xs ∧ -1 ≤ n ∧ n ≤ 100 ∧ e = .returned (.tuple #[v, .int .i64 n]) ∧ SpansAt w' v xs ∧ Below w.heap.size w w'
theorem SpansAt.keepB {w w' : World} {b : Nat} {v : Value} {xs : List Sp} (h : SpansAt w v xs) (hk : KeepB b w w') (hne : ∀ k, v.ownBlock = some k → k ≠ b) : SpansAt w' v xs := by
  obtain ⟨a, cap, rfl, h1, h2, h3⟩ := h
  refine ⟨a, cap, rfl, h1, h2, h3.imp id ?_⟩
  rintro ⟨g, off, rfl, hg, hc⟩
  have hgb := hne g rfl
  exact ⟨g, off, rfl, Nat.lt_of_lt_of_le hg hk.size, fun i hi => ⟨World.grownBy.cell hk (hc i hi).1 (by simp; omega), World.grownBy.cell hk (hc i hi).2 (by simp; omega)⟩⟩

theorem sz_ad' (w : World) (o : Obj) : (w.alloc o).drew.heap.size = w.heap.size + 1 := by show (w.heap.push o).size = _; simp
theorem SpansAt.drew {w : World} {v : Value} {xs : List Sp} (h : SpansAt w v xs) : SpansAt w.drew v xs := h
theorem Below.drew1 {B : Nat} {a w : World} (h : Below B a w) : Below B a w.drew := Below.drewN' h 1
theorem RdAt.drew {w : World} {b m : Nat} (h : RdAt w b m) : RdAt w.drew b m := h
theorem IntRow.drew {w : World} {b m : Nat} (h : IntRow w b m) : IntRow w.drew b m := h
set_option maxHeartbeats 2000000 in
theorem drawSetNumbers_any (a : Option Addr) (len cap : Nat) (zs : List Int) (w : World) (h : IsRow w a len cap zs) :
    Calls Try.prog 23 #[.slice a len cap] w (GaveSN w) := by
  have H := Lib.hid h; clear h
  go_enter Try.func23, Try.ntmps23
  go_wp2_with fail
  refine (open_any a len cap zs _ H.out).mono ?_
  rintro e w1 ⟨rfl, hb, hr⟩
  have hrl := hr.lt
  have HB := Lib.hid hb; clear hb
  have HR := Lib.hid hr; clear hr
  go_wp2_with fail
  refine (drawSet_any _ 0 _ (by omega) HR.out).mono ?_
  rintro e w2 ⟨v, xs, hxs, rfl, hv, hk, hr2, hown⟩
  have HXS := Lib.hid hxs; clear hxs
  have HNE := Lib.hid (show ∀ k, v.ownBlock = some k → k ≠ w.heap.size from fun k e => by have := hown k e; omega); clear hown
  have HB2 := Lib.hid (HB.out.trans (hk.below (Nat.le_refl _) HB.out.size)); clear hk
  have HV := Lib.hid hv; clear hv
  have HR2 := Lib.hid hr2; clear hr2
  go_wp2_with fail
  refine (pick_any _ 100 _ _ (by omega) (by omega) HR2.out).mono ?_
  rintro e w3 ⟨r, hr0, hr1, rfl, hk, hr3⟩
  have HV3 := Lib.hid (HV.out.keepB hk HNE.out)
  have HB3 := Lib.hid (HB2.out.trans (hk.below (Nat.le_refl _) HB2.out.size)); clear hk
  have hlt := hr3.lt
  have HR3 := Lib.hid hr3; clear hr3
  cases h0 : (r == 0)
  · go_wp2_with fail
    refine (pick_any _ 101 _ _ (by omega) (by omega) HR3.out).mono ?_
    rintro e w4 ⟨n, hn0, hn1, rfl, hk, hr4⟩
    have HV4 := Lib.hid (HV3.out.keepB hk HNE.out)
    have HB4 := Lib.hid (HB3.out.trans (hk.below (Nat.le_refl _) HB3.out.size)); clear hk hr4
    go_wp2_with fail
    go_ret2
    exact ⟨v, xs, n, HXS.out, by omega, by omega, rfl, HV4.out, HB4.out⟩
  · have HI := Lib.hid (fun W : World => ints_new W 3 [.int .i64 (-1), .int .i64 0, .int .i64 99, .int .i64 100] rfl)
    go_wp2_with fail
    go_region_with (first
      | (go_at_call 44; refine (pick_any _ 101 _ _ (by omega) (by omega) HR3.out.drew).mono ?_; rintro e w4 ⟨n, hn0, hn1, rfl, hk, hr4⟩; obtain ⟨k, rfl⟩ := Int.eq_ofNat_of_zero_le hn0; obtain ⟨z, hz1, hz2, hc1⟩ := HI.out w4 k (by simp only [List.length_cons, List.length_nil]; omega))
      | (go_at_call 44; refine (pick_any _ 101 _ _ (by omega) (by omega) (HR3.out.alloc _).drew).mono ?_; rintro e w4 ⟨n, hn0, hn1, rfl, hk, hr4⟩; obtain ⟨k, rfl⟩ := Int.eq_ofNat_of_zero_le hn0; obtain ⟨z, hz1, hz2, hc⟩ := (HI.out w3).drew k (by simp only [List.length_cons, List.length_nil]; omega); have hc1 := World.grownBy.cell hk hc (by simp; omega)))
    all_goals
      have hz3 := HB3.out.size
      go_wp2_with fail
      go_ret2
      first
        | exact ⟨v, xs, z, HXS.out, hz1, hz2, rfl, ((HV3.out.alloc _).drew).keepB hk HNE.out, (Below.drew1 (HB3.out.alloc hz3 _)).trans (hk.below (Nat.le_refl _) (by rw [sz_ad']; omega))⟩
        | exact ⟨v, xs, z, HXS.out, hz1, hz2, rfl, (HV3.out.drew.keepB hk HNE.out).alloc _, ((Below.drew1 HB3.out).trans (hk.below (Nat.le_refl _) hz3)).alloc (Nat.le_trans hz3 hk.size) _⟩


end Go.Proofs.Ythabmjadfomnkaa
