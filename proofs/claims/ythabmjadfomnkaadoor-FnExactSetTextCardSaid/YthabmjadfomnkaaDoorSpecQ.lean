/- Contracts: the reference's SetParse. -/
import Derived.Test.YthabmjadfomnkaaDoorSpecP
import Derived.Deep.RegionWith
import Derived.Deep.RegionLaw
import Derived.IntWalk
import Derived.Deep.Cut
import Derived.Deep.CutRange
namespace Go.Proofs.YthabmjadfomnkaaDoor
open Go.RowKit
set_option linter.unusedVariables false

theorem num_neg (o : Option Int) (h : ∀ v, o = some v → 0 ≤ v) : o = none ↔ o.getD (-1) < 0 := by
  cases o with
  | none => simp
  | some v => have := h v rfl; simp; omega
theorem num_some (o : Option Int) (h : 0 ≤ o.getD (-1)) : o = some (o.getD (-1)) := by
  cases o with
  | none => simp at h
  | some v => rfl
/-- A word's span, by its parts between colons. -/
theorem spanW_yes (l : List UInt8) (es : List (List UInt8)) (h : cutL 58 l = es) (hne : 0 < es.length) (h2 : es.length ≤ 2) (lo hi : Int) (hlo : (numW es[0]).getD (-1) = lo) (hhi : (numW (es[es.length - 1]'(by omega))).getD (-1) = hi) (h0 : 0 ≤ lo) (h1 : 0 ≤ hi) : spanW l = some (lo, hi) := by
  subst hlo hhi
  have e0 := num_some _ h0
  have e1 := num_some _ h1
  unfold spanW
  rw [h]
  match es, hne, h2 with
  | [x], _, _ =>
    simp only [List.length_cons, List.length_nil, Nat.zero_add, Nat.sub_self, List.getElem_cons_zero] at e0 e1 ⊢
    rw [e0]; rfl
  | [x, y], _, _ =>
    have e1' : numW y = some ((numW y).getD (-1)) := e1
    have e0' : numW x = some ((numW x).getD (-1)) := e0
    show (match numW x with | none => none | some a => match numW y with | none => none | some b => some (a, b)) = some ((numW x).getD (-1), (numW y).getD (-1))
    rw [e0', e1']; rfl
theorem spanW_no (l : List UInt8) (es : List (List UInt8)) (h : cutL 58 l = es) (hne : 0 < es.length) (hbad : 2 < es.length ∨ (numW es[0]).getD (-1) < 0 ∨ (numW (es[es.length - 1]'(by omega))).getD (-1) < 0) : spanW l = none := by
  have key : ∀ w : List UInt8, (numW w).getD (-1) < 0 → numW w = none := fun w hw => (num_neg _ (fun v hv => (numW_range hv).1)).2 hw
  unfold spanW
  rw [h]
  match es, hne, hbad with
  | [x], _, hbad =>
    have : numW x = none := by
      rcases hbad with hb | hb | hb
      · simp at hb
      · exact key _ hb
      · exact key _ hb
    show (match numW x with | none => none | some a => some (a, a)) = none
    rw [this]
  | [x, y], _, hbad =>
    rcases hbad with hb | hb | hb
    · simp at hb
    · have : numW x = none := key _ hb
      show (match numW x with | none => none | some a => match numW y with | none => none | some b => some (a, b)) = none
      rw [this]
    · have : numW y = none := key _ hb
      show (match numW x with | none => none | some a => match numW y with | none => none | some b => some (a, b)) = none
      rw [this]; cases numW x <;> rfl
  | x :: y :: z :: r, _, _ => rfl
theorem spansW_snoc (l : List (List UInt8)) (p : List UInt8) (xs : List Sp) (h : spansW l = some xs) : spansW (l ++ [p]) = (spanW p).map (fun x => xs ++ [x]) := by
  induction l generalizing xs with
  | nil =>
    simp [spansW] at h; subst h
    simp only [List.nil_append, spansW]
    cases spanW p <;> rfl
  | cons q r ih =>
    unfold spansW at h
    split at h
    · cases h
    · rename_i x hx
      split at h
      · cases h
      · rename_i ys hy
        simp only [Option.some.injEq] at h; subst h
        simp only [List.cons_append, spansW, hx, ih ys hy]
        cases spanW p <;> rfl
theorem spansW_stop (l m : List (List UInt8)) (h : spansW l = none) : spansW (l ++ m) = none := by
  induction l with
  | nil => simp [spansW] at h
  | cons q r ih =>
    unfold spansW at h
    simp only [List.cons_append, spansW]
    cases hq : spanW q with
    | none => rfl
    | some x =>
      rw [hq] at h
      cases hr : spansW r with
      | none => simp only [ih hr]
      | some ys => rw [hr] at h; simp at h
theorem setT_words (l : List UInt8) : setT l = match spansW (cutL 44 l) with | none => none | some xs => if xs.length ≤ 6 then some xs else none := setP_eq 6 l
theorem own_below {w w' : World} {base size : Nat} {e : TypeId} {v : Value} {n : Nat} {xs : List Value} (h : w.ownsRow base e size v n xs) (hb : Below w.heap.size w w') : w'.ownsRow base e size v n xs := by
  refine h.kept (row := none) ⟨hb.os, hb.tape, hb.output, hb.size, fun k hk _ => hb.block k hk⟩ ?_
  cases v.ownBlock <;> simp

/-- Block pg holds texts. -/
def PCell (ps : List ByteArray) (pg : Nat) (w : World) : Prop := ∀ i (h : i < ps.length), w.cell? ⟨pg, i, none⟩ = some (.string ps[i])
theorem PCell.below {ps : List ByteArray} {pg : Nat} {w w' : World} (h : PCell ps pg w) (hb : Below w.heap.size w w') : PCell ps pg w' :=
  fun i hi => (hb.cell (p := ⟨pg, i, none⟩) (World.block_lt_of_cell? w _ (h i hi))).trans (h i hi)
theorem PCell.alloc {ps : List ByteArray} {pg : Nat} {w : World} (h : PCell ps pg w) (o : Obj) : PCell ps pg (w.alloc o) := h.below ((Below.refl _ _).alloc (Nat.le_refl _) o)
theorem PCell.grown {ps : List ByteArray} {pg : Nat} {w w' : World} {row : Option Nat} (h : PCell ps pg w) (hg : w.grownBy w' row) (hne : some pg ≠ row) : PCell ps pg w' :=
  fun i hi => World.grownBy.cell hg (h i hi) hne
theorem own_drew1 {w : World} {base size : Nat} {e : TypeId} {v : Value} {n : Nat} {xs : List Value} (h : w.ownsRow base e size v n xs) : w.drew.ownsRow base e size v n xs := h
theorem sz_adr (w : World) (o : Obj) : (w.alloc o).drew.heap.size = w.heap.size + 1 := by show (w.heap.push o).size = _; simp
theorem Below.drewO {B : Nat} {a w : World} (h : Below B a w) : Below B a w.drew := Below.drewN' h 1

set_option maxHeartbeats 8000000 in
theorem specSP_any (s : ByteArray) (w : World) (hs : s.size ≤ 2000000) :
    Calls Tryd.prog 12 #[.string s] w (GaveSet (setT (bl s)) w) := by
  obtain ⟨i0, hi0, hz0, hz1, hz2⟩ := info_parts infoSpan
  have HR := Lib.hid (setT_words (bl s))
  rw [← cut_list] at HR
  generalize setT (bl s) = R at HR ⊢
  have hpl := cut_len s 44 0 0
  have HSZ := Lib.hid (cut_sizes s 44 0 0)
  go_enter Tryd.func12, Tryd.ntmps12
  go_wp2_with fail
  refine (cut_any s 44 _ (by omega)).mono ?_
  generalize cut s 44 0 0 = ps at *
  rintro e w1 ⟨pv, rfl, hps, hb1⟩
  have HO1 := Lib.hid (own_below (World.ownsRow_lit w #[] 0 (Nat.le_refl _) (Nat.zero_le _) rfl : (w.alloc (.cells #[] 41)).ownsRow w.heap.size 41 2 _ 0 []) hb1)
  have HB1 := Lib.hid (((Below.refl _ _).alloc (Nat.le_refl _) _).trans (hb1.mono (by simp))); clear hb1
  obtain ⟨pg, pcap, rfl, hp1, hp2, hpg, hpc⟩ := hps
  unfold maxLen at hp2
  have HNE := Lib.hid (show w.heap.size ≠ pg by
    rintro rfl
    have h0 := hpc 0 (by omega)
    have h1 : w1.heap[w.heap.size]? = some (.cells #[] 41) := by
      rcases HO1.out.2 with ⟨h, _⟩ | ⟨g, cap, cur, h, _, hg, _, _, hs, _⟩
      · cases h
      · simp only [Value.slice.injEq, Option.some.injEq, Addr.mk.injEq, and_true, true_and] at h
        obtain ⟨rfl, rfl⟩ := h
        rw [hg]
        have : cur = #[] := Array.eq_empty_of_size_eq_zero (by simpa using hs)
        rw [this]
    rw [cellOf h1] at h0
    simp at h0)
  have HPC := Lib.hid (show PCell ps pg w1 from hpc); clear hpc
  go_wp2_with fail
  go_loopg [4, 6] ps.length (fun k v iv wr => ∃ (j : Nat) (xs : List Sp), j ≤ ps.length ∧ k = ps.length - j ∧ iv = .int .i64 j ∧ xs.length = j ∧ spansW ((ps.take j).map bl) = some xs ∧ wr.ownsRow w.heap.size 41 2 v xs.length (spCells xs) ∧ Below w.heap.size w wr ∧ PCell ps pg wr ∧ ∀ k, v.ownBlock = some k → k ≠ pg)
  case atStart => exact ⟨0, [], Nat.zero_le _, rfl, rfl, rfl, rfl, HO1.out, HB1.out, HPC.out, fun k e => by cases e; exact HNE.out⟩
  case round =>
    obtain ⟨j, xs, hj, hk, rfl, hxl, hsw, hown, hbw, hpc, hnpg⟩ := hrel
    have hxj : xs.length ≤ j := by omega
    have HXL := Lib.hid hxl; clear hxl
    have HPW := Lib.hid hpc; clear hpc
    have HNP := Lib.hid hnpg; clear hnpg
    have HK := Lib.hid hk; clear hk
    have HSW := Lib.hid hsw; clear hsw
    have hzw := hbw.size
    have HBW := Lib.hid hbw; clear hbw
    have HOW := Lib.hid hown; clear hown
    by_cases hlt : j < ps.length
    · have hi : (j : Int) < (ps.length : Int) := by omega
      have c0 := HPW.out j hlt
      have hxs := HSZ.out ps[j] (List.getElem_mem _)
      have HTK := Lib.hid (show spansW ((ps.take (j + 1)).map bl) = (spanW (bl ps[j])).map (fun x => xs ++ [x]) by
        rw [List.take_succ_eq_append_getElem hlt, List.map_append]; exact spansW_snoc _ _ _ HSW.out)
      have HBAD := Lib.hid (show spanW (bl ps[j]) = none → R = none from fun hn => by
        have h1 : spansW ((ps.take (j + 1)).map bl) = none := by rw [HTK.out, hn]; rfl
        have h2 : spansW (ps.map bl) = none := by
          have := spansW_stop _ ((ps.drop (j + 1)).map bl) h1
          rwa [← List.map_append, List.take_append_drop] at this
        rw [HR.out, h2])
      generalize ps[j] = x at *
      go_wp2_with fail
      refine (cut_any x 58 _ (by omega)).mono ?_
      have hel := cut_len x 58 0 0
      have HEL := Lib.hid (cut_list x 58)
      have HES := Lib.hid (cut_sizes x 58 0 0)
      generalize cut x 58 0 0 = es at *
      rintro e w2 ⟨ev, rfl, hes, hb2⟩
      have HO2 := Lib.hid (own_below HOW.out hb2)
      have HB2 := Lib.hid (HBW.out.trans (hb2.mono hzw))
      have HL2 := Lib.hid hb2; clear hb2
      have hz2' := HB2.out.size
      have hz21 := HL2.out.size
      obtain ⟨eg, ecap, rfl, he1, he2, heg, hec⟩ := hes
      unfold maxLen at he2
      have hl0 : 0 < es.length := by omega
      have hl1 : es.length - 1 < es.length := by omega
      have e0 := hec 0 hl0
      have e1 := hec (es.length - 1) hl1
      have s0 := HES.out (es[0]'hl0) (List.getElem_mem _)
      have s1 := HES.out (es[es.length - 1]'hl1) (List.getElem_mem _)
      clear hec
      have hi0' : (0 : Int) < (es.length : Int) := by omega
      have hi1 : (0 : Int) ≤ (es.length : Int) - 1 := by omega
      have hi2 : (es.length : Int) - 1 < (es.length : Int) := by omega
      have hi3 : ((es.length : Int) - 1).toNat = es.length - 1 := by omega
      have hi4 : (1 : Int) ≤ (es.length : Int) := by omega
      have hw1 : IntKind.i64.wrap ((es.length : Int) - 1) = (es.length : Int) - 1 := IntWalk.i64_in _ (by omega)
      have HYES := Lib.hid (fun (h2 : es.length ≤ 2) (h0 : 0 ≤ (numW (bl (es[0]'hl0))).getD (-1)) (h1 : 0 ≤ (numW (bl (es[es.length - 1]'hl1))).getD (-1)) =>
        spanW_yes (bl x) (es.map bl) HEL.out.symm (by simp; omega) (by simpa using h2) _ _ (by simp) (by simp) h0 h1)
      have HNO := Lib.hid (fun (hbad : 2 < es.length ∨ (numW (bl (es[0]'hl0))).getD (-1) < 0 ∨ (numW (bl (es[es.length - 1]'hl1))).getD (-1) < 0) =>
        spanW_no (bl x) (es.map bl) HEL.out.symm (by simp; omega) (by simpa using hbad))
      generalize es[0]'hl0 = y0 at *
      generalize es[es.length - 1]'hl1 = y1 at *
      generalize hlo : (numW (bl y0)).getD (-1) = lo at *
      generalize hhi : (numW (bl y1)).getD (-1) = hi at *
      have HLO := Lib.hid hlo; clear hlo
      have HHI := Lib.hid hhi; clear hhi
      have hy0 : y0.size ≤ 1000000000 := by omega
      have hy1 : y1.size ≤ 1000000000 := by omega
      clear hel HEL HES hl0 hl1
      go_wp2_with fail
      go_cut [8] from 12 to 52 (fun s8 wx => s8 = .pointer (some ⟨w2.heap.size, 0, none⟩) ∧ wx = (w2.alloc (.cells #[.int .i64 lo, .int .i64 hi] 41)).drew)
      case first =>
        clear HYES HNO HTK HBAD HPW HNP HXL HL2 HB2 HO2 HNE HPC HB1 HO1 HR HSZ HOW HBW HSW hz0 hz1 hz2 hi0 hpl hp1 hp2 hz2' hz21 hzw
        go_region_with (go_at_call 29; refine (l3Number_any _ _ (by first | exact hy0 | exact hy1)).mono ?_; (first | rw [HLO.out] | rw [HHI.out]); rintro e w4 ⟨rfl, rfl⟩)
        all_goals (go_wp2_with fail; go_meet; exact ⟨rfl, rfl⟩)
      case rest =>
        obtain ⟨rfl, rfl⟩ := hcut
        clear hw1 hi1 hi2 hi3 hi4 hi0' e0 e1 s0 s1 hy0 hy1
        have HO3 := Lib.hid (own_drew1 (HO2.out.alloc (.cells #[.int .i64 lo, .int .i64 hi] 41)))
        have HB3 := Lib.hid (Below.drewO (HB2.out.alloc hz2' (.cells #[.int .i64 lo, .int .i64 hi] 41)))
        have HL3 := Lib.hid (Below.drewO (HL2.out.alloc hz21 (.cells #[.int .i64 lo, .int .i64 hi] 41)))
        have ht3 : Two (w2.alloc (.cells #[.int .i64 lo, .int .i64 hi] 41)).drew w2.heap.size 41 (.int .i64 lo) (.int .i64 hi) := Two.new w2 _ _ _
        have hzz : (w2.alloc (.cells #[.int .i64 lo, .int .i64 hi] 41)).drew.heap.size = w2.heap.size + 1 := sz_adr _ _
        generalize (w2.alloc (.cells #[.int .i64 lo, .int .i64 hi] 41)).drew = w3 at *
        have c0 := ht3.c0
        have c1 := ht3.c1
        have HZZ := Lib.hid hzz; clear hzz
        clear ht3
        by_cases h2 : es.length ≤ 2
        · have d2 : decide ((2 : Int) < (es.length : Int)) = false := decide_eq_false (by omega)
          by_cases hl0 : 0 ≤ lo
          · have d3 : decide (lo < 0) = false := decide_eq_false (by omega)
            by_cases hh0 : 0 ≤ hi
            · have d4 : decide (hi < 0) = false := decide_eq_false (by omega)
              have HSP := Lib.hid (HYES.out h2 hl0 hh0)
              go_wp2_with (at_builtin; refine wpList_append_own _ rfl _ _ 23 rfl w.heap.size 41 i0 (.agg #[.int .i64 0, .int .i64 0]) 2 16 Tryd.underlying23 hi0 hz0 hz1 hz2 rfl (by decide) _ _ _ rfl (HO3.out.alloc _) ⟨w3.heap.size, 0, none⟩ 1 1 [.int .i64 lo, .int .i64 hi] rfl rfl (cell_two_new _ _ _ _) (by simp [Value.oneCell']) (by unfold maxLen; omega) (by omega) (by have := HB3.out.size; simp; omega) ?_; intro v' w5 hown' hgrow _)
              have HO5 := Lib.hid hown'; clear hown'
              have hz3 := HB3.out.size
              have HB5 := Lib.hid ((HB3.out.alloc hz3 _).grown hgrow (by simp; omega) (fun k e => (HO3.out.lt k e).1))
              have HP5 := Lib.hid (show PCell ps pg w5 from ((HPW.out.below HL3.out).alloc _).grown hgrow (fun e => HNP.out pg e.symm rfl)); clear hgrow
              have HN5 := Lib.hid (show ∀ k, v'.ownBlock = some k → k ≠ pg by
                rintro k hk' rfl
                have h0 := HO5.out.cells hk' 0 (.int .i64 (((xs ++ [(lo, hi)])[0]'(by simp)).1) ) (by
                  have := (spCells_get (xs ++ [(lo, hi)]) 0 (by simp)).1
                  rw [spCells_snoc] at this
                  simpa using this)
                have h1 := HP5.out 0 (by omega)
                simp only [Addr.add, if_true] at h0
                rw [h1] at h0
                cases h0)
              go_wp2_with fail
              go_roundg (ps.length - (j + 1))
              case measure => rw [HK.out]; omega
              case rel => exact ⟨j + 1, xs ++ [(lo, hi)], by omega, rfl, by go_num, by simp [HXL.out], by rw [HTK.out, HSP.out]; rfl, by rw [spCells_snoc, List.length_append]; exact HO5.out, HB5.out, HP5.out, HN5.out⟩
            · have d4 : decide (hi < 0) = true := decide_eq_true (by omega)
              obtain rfl : R = none := HBAD.out (HNO.out (.inr (.inr (by omega))))
              have hz3 := HB3.out.size
              go_wp2_with fail
              go_ret2
              exact ⟨_, rfl, own_new _ _ _ _ _ rfl hz3, HB3.out.alloc hz3 _⟩
          · have d3 : decide (lo < 0) = true := decide_eq_true (by omega)
            obtain rfl : R = none := HBAD.out (HNO.out (.inr (.inl (by omega))))
            have hz3 := HB3.out.size
            go_wp2_with fail
            go_ret2
            exact ⟨_, rfl, own_new _ _ _ _ _ rfl hz3, HB3.out.alloc hz3 _⟩
        · have d2 : decide ((2 : Int) < (es.length : Int)) = true := decide_eq_true (by omega)
          obtain rfl : R = none := HBAD.out (HNO.out (.inl (by omega)))
          have hz3 := HB3.out.size
          go_wp2_with fail
          go_ret2
          exact ⟨_, rfl, own_new _ _ _ _ _ rfl hz3, HB3.out.alloc hz3 _⟩
    · obtain rfl : j = ps.length := by omega
      have hv := spansAt_of HOW.out
      have HRX := Lib.hid (show R = if xs.length ≤ 6 then some xs else none by
        have := HSW.out
        rw [List.take_length] at this
        rw [HR.out, this])
      have hok : xs.all okSp = true := spansW_ok HSW.out
      have HV := Lib.hid hv; clear hv
      by_cases h6 : xs.length ≤ 6
      · have HSV := Lib.hid (show setV xs = true by have := HXL.out; rw [setV_iff, hok]; simp; omega)
        obtain rfl : R = some xs := by rw [HRX.out, if_pos h6]
        clear hok
        go_wp2_with fail
        refine (specSV_any _ xs _ HV.out).mono ?_
        rw [HSV.out]
        rintro e w5 ⟨rfl, rfl⟩
        go_wp2_with fail
        go_ret2
        exact ⟨_, rfl, HOW.out, HBW.out⟩
      · have HSV := Lib.hid (show setV xs = false by rw [setV_iff, decide_eq_false h6]; simp)
        obtain rfl : R = none := by rw [HRX.out, if_neg h6]
        clear hok
        go_wp2_with fail
        refine (specSV_any _ xs _ HV.out).mono ?_
        rw [HSV.out]
        rintro e w5 ⟨rfl, rfl⟩
        go_wp2_with fail
        go_ret2
        exact ⟨_, rfl, own_new _ _ _ _ _ rfl hzw, HBW.out.alloc hzw _⟩

end Go.Proofs.YthabmjadfomnkaaDoor
