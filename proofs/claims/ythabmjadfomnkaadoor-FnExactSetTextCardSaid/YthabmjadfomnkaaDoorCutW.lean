/- The contract of l1Cut. -/
import Derived.Test.YthabmjadfomnkaaDoorPlainC
import Derived.OwnWalk
import Derived.Laws.OwnMore
import Derived.Maps.AppendAt
import Derived.RangeFuncBox
namespace Go.Proofs.YthabmjadfomnkaaDoor
open Go.RowKit
set_option linter.unusedVariables false

theorem infoStr : (Tryd.prog.info? 9).map (fun i => (i.zero, i.size, i.bytes)) = some (some (.string ⟨#[]⟩), 1, 16) := by kernel_rfl

/-- What the loop has gathered: xs, and what is still to come makes up the whole. -/
def CutRel (s : ByteArray) (c : UInt8) (w : World) (f i : Nat) (v : Value) (wr : World) : Prop :=
  ∃ xs : List ByteArray, xs ++ cut s c f i = cut s c 0 0 ∧ wr.ownsRow w.heap.size 9 1 v xs.length (xs.map Value.string) ∧ Below w.heap.size w wr
theorem CutRel.len {s : ByteArray} {c : UInt8} {w wr : World} {f i : Nat} {xs : List ByteArray} (h : xs ++ cut s c f i = cut s c 0 0) : xs.length ≤ s.size := by
  have h1 := cut_len s c f i
  have h2 := cut_len s c 0 0
  have := congrArg List.length h
  simp only [List.length_append] at this
  omega
/-- A row of texts, as it is handed on. -/
def StrsAt (w : World) (v : Value) (xs : List ByteArray) : Prop := ∃ g cap, v = .slice (some ⟨g, 0, none⟩) xs.length cap ∧ xs.length ≤ cap ∧ cap ≤ maxLen ∧ g < w.heap.size ∧ ∀ i (h : i < xs.length), w.cell? ⟨g, i, none⟩ = some (.string xs[i])
/-- Texts in a row of the call's own. -/
def GaveStrs (xs : List ByteArray) (w : World) (e : Ending) (w' : World) : Prop := ∃ v, e = .returned v ∧ StrsAt w' v xs ∧ Below w.heap.size w w'
theorem strsAt_of {w : World} {base : Nat} {v : Value} {xs : List ByteArray} (h0 : 1 ≤ xs.length) (h : w.ownsRow base 9 1 v xs.length (xs.map Value.string)) : StrsAt w v xs := by
  have hl := h
  rcases h.2 with ⟨_, h1⟩ | ⟨g, cap, cur, rfl, _, hb, hn, hm, hs, ht⟩
  · omega
  · refine ⟨g, cap, rfl, hn, hm, (Array.getElem?_eq_some_iff.1 hb).1, fun i hi => ?_⟩
    rw [World.ownsRow.cellAt hl i (by omega)]
    simp [hi]
theorem StrsAt.below {w w' : World} {v : Value} {xs : List ByteArray} (h : StrsAt w v xs) (hb : Below w.heap.size w w') : StrsAt w' v xs := by
  obtain ⟨g, cap, rfl, hn, hm, hg, hc⟩ := h
  exact ⟨g, cap, rfl, hn, hm, Nat.lt_of_lt_of_le hg hb.size, fun i hi => (hb.cell (p := ⟨g, i, none⟩) hg).trans (hc i hi)⟩

set_option maxHeartbeats 2000000 in
/-- l1Cut: the parts of a text. -/
theorem cut_any (s : ByteArray) (c : UInt8) (w : World) (hs : s.size ≤ 1000000000) :
    Calls Tryd.prog 28 #[.string s, .int .u8 (c.toNat : Int)] w (GaveStrs (cut s c 0 0) w) := by
  obtain ⟨i0, hi0, hz0, hz1, hz2⟩ := info_parts infoStr
  go_enter Tryd.func28, Tryd.ntmps28
  go_wp2_with fail
  go_loopg [5, 6, 7] s.size (fun k v fv iv wr => ∃ f i : Nat, f ≤ i ∧ i ≤ s.size ∧ k = s.size - i ∧ fv = .int .i64 f ∧ iv = .int .i64 i ∧ CutRel s c w f i v wr)
  case atStart => exact ⟨0, 0, Nat.le_refl _, Nat.zero_le _, rfl, rfl, rfl, [], rfl, World.ownsRow_lit _ #[] 0 (Nat.le_refl _) (Nat.zero_le _) rfl, (Below.refl _ _).alloc (Nat.le_refl _) _⟩
  case round =>
    obtain ⟨f, i, hfi, his, hk, rfl, rfl, xs, hxs, hown, hbw⟩ := hrel
    have HK := Lib.hid hk; clear hk
    have hxl : xs.length ≤ s.size := CutRel.len (w := w) (wr := wr) hxs
    have HX := Lib.hid hxs; clear hxs
    have hbz := hbw.size
    have HBW := Lib.hid hbw; clear hbw
    have HOWN := Lib.hid hown; clear hown
    by_cases hlt : i < s.size
    · have hi : (i : Int) < (s.size : Int) := by omega
      have hfi2 : (f : Int) ≤ (i : Int) := by omega
      have hi2 : (i : Int) ≤ (s.size : Int) := by omega
      cases hat : atB s i c
      · have hne : (((s[i]).toNat : Int) == (c.toNat : Int)) = false := by
          rw [atB_iff s i c hlt, decide_eq_false_iff_not] at hat
          rw [beq_eq_false_iff_ne]; intro h; exact hat (UInt8.toNat_inj.1 (by omega))
        have HAT := Lib.hid hat; clear hat
        go_wp2_with fail
        go_roundg (s.size - (i + 1))
        case measure => rw [HK.out]; omega
        case rel => exact ⟨f, i + 1, by omega, by omega, rfl, rfl, by go_num, xs, by rw [← cut_miss s c f i hlt HAT.out]; exact HX.out, HOWN.out, HBW.out⟩
      · have heq : (((s[i]).toNat : Int) == (c.toNat : Int)) = true := by
          rw [atB_iff s i c hlt, decide_eq_true_iff] at hat
          rw [hat]; simp
        have HAT := Lib.hid hat; clear hat
        go_wp2_with (at_builtin; refine wpList_append_own _ rfl _ _ 39 rfl w.heap.size 9 i0 (.string ⟨#[]⟩) 1 16 Tryd.underlying39 hi0 hz0 hz1 hz2 rfl (by decide) _ _ _ rfl (HOWN.out.alloc _) ⟨wr.heap.size, 0, none⟩ 1 1 [.string (s.extract f i)] rfl rfl (cell_one_new _ _ _) (by simp [Value.oneCell']) (by unfold maxLen; omega) (by omega) (by simp; omega) ?_; intro v' w1 hown' hgrow _)
        have HO' := Lib.hid hown'; clear hown'
        have HG := Lib.hid hgrow; clear hgrow
        go_wp2_with fail
        go_roundg (s.size - (i + 1))
        case measure => rw [HK.out]; omega
        case rel =>
          refine ⟨i + 1, i + 1, by omega, by omega, rfl, by go_num, by go_num, xs ++ [s.extract f i], ?_, ?_, ?_⟩
          · rw [← HX.out, cut_hit s c f i HAT.out]; simp
          · simpa using HO'.out
          · exact (HBW.out.alloc hbz _).grown HG.out (by simp; omega) (fun k e => (HOWN.out.lt k e).1)
    · obtain rfl : i = s.size := by omega
      have hfi2 : (f : Int) ≤ (s.size : Int) := by omega
      go_wp2_with (at_builtin; refine wpList_append_own _ rfl _ _ 39 rfl w.heap.size 9 i0 (.string ⟨#[]⟩) 1 16 Tryd.underlying39 hi0 hz0 hz1 hz2 rfl (by decide) _ _ _ rfl (HOWN.out.alloc _) ⟨wr.heap.size, 0, none⟩ 1 1 [.string (s.extract f s.size)] rfl rfl (cell_one_new _ _ _) (by simp [Value.oneCell']) (by unfold maxLen; omega) (by omega) (by simp; omega) ?_; intro v' w1 hown' hgrow _)
      have HO' := Lib.hid hown'; clear hown'
      have HG := Lib.hid hgrow; clear hgrow
      go_wp2_with fail
      go_ret
      refine ⟨v', rfl, strsAt_of (base := w.heap.size) (cut_len s c 0 0).1 ?_, (HBW.out.alloc hbz _).grown HG.out (by simp; omega) (fun k e => (HOWN.out.lt k e).1)⟩
      rw [← HX.out, cut_end s c f s.size (Nat.le_refl _)]
      simpa using HO'.out

end Go.Proofs.YthabmjadfomnkaaDoor
