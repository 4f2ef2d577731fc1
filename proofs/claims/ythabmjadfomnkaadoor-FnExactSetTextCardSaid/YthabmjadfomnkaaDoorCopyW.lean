/- Contracts: copies of spans, their comparison, their marks. -/
import Derived.Test.YthabmjadfomnkaaDoorSetPW
import Derived.StillTailTactics
import Derived.Handy
namespace Go.Proofs.YthabmjadfomnkaaDoor
open Go.RowKit
set_option linter.unusedVariables false

theorem own_below {w w' : World} {base size : Nat} {e : TypeId} {v : Value} {n : Nat} {xs : List Value} (h : w.ownsRow base e size v n xs) (hb : Below w.heap.size w w') : w'.ownsRow base e size v n xs := by
  refine h.kept (row := none) ⟨hb.os, hb.tape, hb.output, hb.size, fun k hk _ => hb.block k hk⟩ ?_
  cases v.ownBlock <;> simp
/-- Cells that hold spans. -/
theorem cells_spans (cs : List Value) (xs : List Sp) (hl : cs.length = xs.length * 2) (h : ∀ i (hi : i < xs.length), cs[i * 2]? = some (.int .i64 xs[i].1) ∧ cs[i * 2 + 1]? = some (.int .i64 xs[i].2)) : cs = spCells xs := by
  refine List.ext_getElem? fun j => ?_
  by_cases hj : j < xs.length * 2
  · have hi : j / 2 < xs.length := by omega
    have h1 := h (j / 2) hi
    have h2 := spCells_get xs (j / 2) hi
    by_cases hm : j % 2 = 0
    · rw [show j = j / 2 * 2 by omega, h1.1, h2.1]
    · rw [show j = j / 2 * 2 + 1 by omega, h1.2, h2.2]
  · rw [List.getElem?_eq_none (by omega), List.getElem?_eq_none (by rw [spCells_length]; omega)]
theorem set_pair (cs : List Value) (xs : List Sp) (n j : Nat) (a b : Value) (hl : cs.length = n * 2) (hj : j < n) :
    ((cs.set (j * 2) a).set (j * 2 + 1) b)[j * 2]? = some a ∧ ((cs.set (j * 2) a).set (j * 2 + 1) b)[j * 2 + 1]? = some b ∧ ∀ i, i < j → ((cs.set (j * 2) a).set (j * 2 + 1) b)[i * 2]? = cs[i * 2]? ∧ ((cs.set (j * 2) a).set (j * 2 + 1) b)[i * 2 + 1]? = cs[i * 2 + 1]? := by
  refine ⟨?_, ?_, fun i hi => ⟨?_, ?_⟩⟩
  · rw [List.getElem?_set_ne (by omega), List.getElem?_set_self (by omega)]
  · rw [List.getElem?_set_self (by rw [List.length_set]; omega)]
  · rw [List.getElem?_set_ne (by omega), List.getElem?_set_ne (by omega)]
  · rw [List.getElem?_set_ne (by omega), List.getElem?_set_ne (by omega)]

set_option maxHeartbeats 1000000 in
theorem toSpan_any (x y : Int) (w : World) :
    Calls Tryd.prog 30 #[.agg #[.int .i64 x, .int .i64 y]] w fun e w' => e = .returned (.agg #[.int .i64 x, .int .i64 y]) ∧ Below w.heap.size w w' := by
  go_enter Tryd.func30, Tryd.ntmps30
  go_wp2_with fail
  refine bodyPost_ret (by simp [results, Tryd.results30, go_sem]; try rfl) rfl ?_
  refine ⟨rfl, ?_⟩
  go_grown
set_option maxHeartbeats 1000000 in
theorem eqSpan_any (x y : Int) (w : World) :
    Calls Tryd.prog 31 #[.agg #[.int .i64 x, .int .i64 y], .agg #[.int .i64 x, .int .i64 y]] w fun e w' => e = .returned (.bool true) ∧ Below w.heap.size w w' := by
  go_enter Tryd.func31, Tryd.ntmps31
  go_wp2_with fail
  go_ret
  refine ⟨rfl, ?_⟩
  go_grown
theorem szSpanS_yes (v : Value) (xs : List Sp) (w : World) (hv : SpansAt w v xs) (hn : xs.length ≤ 1048576) :
    Calls Tryd.prog 13 #[v, .int .i64 1048576] w fun e w' => (∃ r : Int, 0 ≤ r ∧ e = .returned (.int .i64 r)) ∧ w = w' := by
  obtain ⟨a, cap, rfl, hlc, hcm, _⟩ := hv
  unfold maxLen at hcm
  have hi : ¬ (1048576 : Int) - (xs.length : Int) < 0 := by omega
  go_enter Tryd.func13, Tryd.ntmps13
  go_wp2_with fail
  go_ret
  exact ⟨⟨_, by omega, rfl⟩, rfl⟩
theorem szSpanS_no (v : Value) (xs : List Sp) (w : World) (hv : SpansAt w v xs) (hn : 1048576 < xs.length) :
    Calls Tryd.prog 13 #[v, .int .i64 1048576] w fun e w' => e = .returned (.int .i64 (-1)) ∧ w = w' := by
  obtain ⟨a, cap, rfl, hlc, hcm, _⟩ := hv
  unfold maxLen at hcm
  have hi : (1048576 : Int) - (xs.length : Int) < 0 := by omega
  go_enter Tryd.func13, Tryd.ntmps13
  go_wp2_with fail
  go_ret
  exact ⟨rfl, rfl⟩

/-- A copy. -/
def GaveCopy (xs : List Sp) (w : World) (e : Ending) (w' : World) : Prop := ∃ v, e = .returned v ∧ w'.ownsRow w.heap.size 41 2 v xs.length (spCells xs) ∧ Below w.heap.size w w'

set_option maxHeartbeats 4000000 in
theorem toSpanS_any (v : Value) (xs : List Sp) (w : World) (hv : SpansAt w v xs) (hn : xs.length ≤ 1048576) :
    Calls Tryd.prog 14 #[v] w (GaveCopy xs w) := by
  obtain ⟨i0, hi0, hz0, hz1, hz2⟩ := info_parts infoSpan
  obtain ⟨a, cap, rfl, hlc, hcm, hrow⟩ := hv
  unfold maxLen at hcm
  have HROW := Lib.hid hrow; clear hrow
  go_enter Tryd.func14, Tryd.ntmps14
  go_wp2_with (at_make; refine wpList_make_full _ rfl _ _ 23 rfl w.heap.size 41 i0 (.agg #[.int .i64 0, .int .i64 0]) 2 Tryd.underlying23 hi0 hz0 hz1 .i64 .i64 (xs.length : Int) (xs.length : Int) xs.length rfl rfl rfl rfl (by rw [hz2]; omega) (by unfold maxLen; omega) (Nat.le_refl _) ?_; intro w1 hown hgrow)
  have HO1 := Lib.hid hown; clear hown
  have HB1 := Lib.hid (show Below w.heap.size w w1 from ⟨hgrow.os, hgrow.tape, hgrow.output, hgrow.size, fun k hk => hgrow.block k hk (by simp)⟩); clear hgrow
  go_wp2_with fail
  go_loopg [4] xs.length (fun k iv wr => ∃ (j : Nat) (cs : List Value), j ≤ xs.length ∧ k = xs.length - j ∧ iv = .int .i64 j ∧ wr.ownsRow w.heap.size 41 2 (.slice (some ⟨w.heap.size, 0, none⟩) xs.length xs.length) xs.length cs ∧ (∀ i (hi : i < xs.length), i < j → cs[i * 2]? = some (.int .i64 xs[i].1) ∧ cs[i * 2 + 1]? = some (.int .i64 xs[i].2)) ∧ Below w.heap.size w wr)
  case atStart => exact ⟨0, _, Nat.zero_le _, rfl, rfl, HO1.out, fun i hi h => by omega, HB1.out⟩
  case round =>
    obtain ⟨j, cs, hj, hk, rfl, hown, hcs, hbw⟩ := hrel
    have HK := Lib.hid hk; clear hk
    have HCS := Lib.hid hcs; clear hcs
    have hzw := hbw.size
    have HBW := Lib.hid hbw; clear hbw
    have hcl := hown.1
    have HCL := Lib.hid hcl; clear hcl
    have HOW := Lib.hid hown; clear hown
    by_cases hlt : j < xs.length
    · have hi : (j : Int) < (xs.length : Int) := by omega
      have hne : xs ≠ [] := by rintro rfl; simp at hlt
      obtain ⟨g, off, rfl, hg, hcell⟩ := HROW.out.resolve_left hne
      clear hne
      have c0 := (HBW.out.cell (p := ⟨g, off + j * 2, none⟩) hg).trans (hcell j hlt).1
      have c1 := (HBW.out.cell (p := ⟨g, off + j * 2 + 1, none⟩) hg).trans (hcell j hlt).2
      clear hcell
      have HX := Lib.hid (show ∀ x, xs[j] = x → xs[j]'hlt = x from fun x h => h)
      generalize hxj : xs[j] = x at c0 c1
      have HXJ := Lib.hid hxj; clear hxj
      obtain ⟨x1, x2⟩ := x
      simp only at c0 c1
      go_wp2_with fail
      refine (toSpan_any x1 x2 _).mono ?_
      rintro e w2 ⟨rfl, hb2⟩
      have HO2 := Lib.hid (own_below HOW.out hb2)
      have HB2 := Lib.hid (HBW.out.trans (hb2.mono hzw)); clear hb2
      have d0 := World.ownsRow.cellAt HO2.out (j * 2) (by omega)
      have d1 := World.ownsRow.cellAt HO2.out (j * 2 + 1) (by omega)
      rw [List.getElem?_eq_getElem (by rw [HCL.out]; omega)] at d0 d1
      have f0 := World.ownsRow.frozenAt HO2.out (j * 2)
      have f1 := World.ownsRow.frozenAt HO2.out (j * 2 + 1)
      generalize cs[j * 2]'_ = y0 at d0
      generalize cs[j * 2 + 1]'_ = y1 at d1
      have HS1 := Lib.hid (World.ownsRow.stored HO2.out (j * 2) (.int .i64 x1))
      have HS2 := Lib.hid (World.ownsRow.stored HS1.out.1 (j * 2 + 1) (.int .i64 x2))
      have HSP := Lib.hid (set_pair cs xs xs.length j (.int .i64 x1) (.int .i64 x2) HCL.out hlt)
      go_wp2_with fail
      go_roundg (xs.length - (j + 1))
      case measure => rw [HK.out]; omega
      case rel =>
        refine ⟨j + 1, _, by omega, rfl, by go_num, HS2.out.1, fun i hi hij => ?_, ?_⟩
        · by_cases e : i = j
          · subst e
            rw [HXJ.out]
            exact ⟨HSP.out.1, HSP.out.2.1⟩
          · have h1 := HSP.out.2.2 i (by omega)
            have h2 := HCS.out i hi (by omega)
            exact ⟨h1.1.trans h2.1, h1.2.trans h2.2⟩
        · exact (HB2.out.setCell (p := ⟨w.heap.size, j * 2, none⟩) (Nat.le_refl _) _).setCell (p := ⟨w.heap.size, j * 2 + 1, none⟩) (Nat.le_refl _) _
    · obtain rfl : j = xs.length := by omega
      have HFIN := Lib.hid (cells_spans cs xs HCL.out (fun i hi => HCS.out i hi hi))
      go_wp2_with fail
      go_ret
      refine ⟨_, rfl, ?_, HBW.out⟩
      rw [← HFIN.out]
      exact HOW.out

set_option maxHeartbeats 4000000 in
theorem eqSpanS_any (v v' : Value) (xs : List Sp) (w : World) (hv : SpansAt w v xs) (hv' : SpansAt w v' xs) :
    Calls Tryd.prog 15 #[v, v'] w fun e w' => e = .returned (.bool true) ∧ Below w.heap.size w w' := by
  obtain ⟨a, cap, rfl, hlc, hcm, hrow⟩ := hv
  obtain ⟨a', cap', rfl, hlc', hcm', hrow'⟩ := hv'
  unfold maxLen at hcm hcm'
  have HROW := Lib.hid hrow; clear hrow
  have HROW' := Lib.hid hrow'; clear hrow'
  go_enter Tryd.func15, Tryd.ntmps15
  go_wp2_with fail
  go_loopg [5] xs.length (fun k iv wr => ∃ j : Nat, j ≤ xs.length ∧ k = xs.length - j ∧ iv = .int .i64 j ∧ Below w.heap.size w wr)
  case atStart => exact ⟨0, Nat.zero_le _, rfl, rfl, Below.refl _ _⟩
  case round =>
    obtain ⟨j, hj, hk, rfl, hbw⟩ := hrel
    have HK := Lib.hid hk; clear hk
    have hzw := hbw.size
    have HBW := Lib.hid hbw; clear hbw
    by_cases hlt : j < xs.length
    · have hi : (j : Int) < (xs.length : Int) := by omega
      have hne : xs ≠ [] := by rintro rfl; simp at hlt
      obtain ⟨g, off, rfl, hg, hcell⟩ := HROW.out.resolve_left hne
      obtain ⟨g', off', rfl, hg', hcell'⟩ := HROW'.out.resolve_left hne
      clear hne
      have c0 := (HBW.out.cell (p := ⟨g, off + j * 2, none⟩) hg).trans (hcell j hlt).1
      have c1 := (HBW.out.cell (p := ⟨g, off + j * 2 + 1, none⟩) hg).trans (hcell j hlt).2
      have e0 := (HBW.out.cell (p := ⟨g', off' + j * 2, none⟩) hg').trans (hcell' j hlt).1
      have e1 := (HBW.out.cell (p := ⟨g', off' + j * 2 + 1, none⟩) hg').trans (hcell' j hlt).2
      clear hcell hcell'
      generalize xs[j] = x at c0 c1 e0 e1
      obtain ⟨x1, x2⟩ := x
      simp only at c0 c1 e0 e1
      go_wp2_with fail
      go_still_tail 8, (by kernel_rfl)
      change wpList _ _ _ _ _ wr.drew
      have HBD := Lib.hid (show Below w.heap.size w wr.drew from Below.drewN' HBW.out 1)
      generalize wr.drew = wd at HBD ⊢
      clear c0 c1 e0 e1
      have hzd := HBD.out.size
      go_wp2_with fail
      refine (eqSpan_any x1 x2 _).mono ?_
      rintro e w2 ⟨rfl, hb2⟩
      have HB2 := Lib.hid (HBD.out.trans (hb2.mono hzd)); clear hb2
      go_wp2_with fail
      go_roundg (xs.length - (j + 1))
      case measure => rw [HK.out]; omega
      case rel => exact ⟨j + 1, by omega, rfl, by go_num, HB2.out⟩
    · have hi : ¬ (j : Int) < (xs.length : Int) := by omega
      go_wp2_with fail
      go_ret
      exact ⟨rfl, HBW.out⟩

end Go.Proofs.YthabmjadfomnkaaDoor
