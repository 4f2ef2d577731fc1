/- Contracts: the reference's SetValid; spans drawn. -/
import Derived.Test.YthabmjadfomnkaaDoorSetW
import Derived.Test.YthabmjadfomnkaaDoorPick
import Derived.Outline
namespace Go.Proofs.YthabmjadfomnkaaDoor
open Go.RowKit
set_option linter.unusedVariables false

set_option maxHeartbeats 1000000 in
/-- The reference's SetValid. -/
theorem specSV_any (v : Value) (xs : List Sp) (w : World) (hv : SpansAt w v xs) :
    Calls Tryd.prog 21 #[v] w fun e w' => e = .returned (.bool (setV xs)) ∧ w = w' := by
  obtain ⟨a, cap, rfl, hlc, hcm, hrow⟩ := hv
  unfold maxLen at hcm
  have HS := Lib.hid (setV_iff xs)
  generalize setV xs = B at HS ⊢
  have HROW := Lib.hid hrow; clear hrow
  go_enter Tryd.func21, Tryd.ntmps21
  go_wp2_with fail
  go_loopg [3] xs.length (fun k iv wr => ∃ j : Nat, j ≤ xs.length ∧ k = xs.length - j ∧ iv = .int .i64 j ∧ (xs.take j).all okSp = true ∧ w = wr)
  case atStart => exact ⟨0, Nat.zero_le _, rfl, rfl, rfl, rfl⟩
  case round =>
    obtain ⟨j, hj, hk, rfl, hall, rfl⟩ := hrel
    have HK := Lib.hid hk; clear hk
    have HALL := Lib.hid hall; clear hall
    by_cases hlt : j < xs.length
    · have hi : (j : Int) < (xs.length : Int) := by omega
      have hne : xs ≠ [] := by rintro rfl; simp at hlt
      obtain ⟨g, off, rfl, hg, hcell⟩ := HROW.out.resolve_left hne
      clear hne
      have c0 := (hcell j hlt).1
      have c1 := (hcell j hlt).2
      clear hcell
      have HT := Lib.hid (List.take_succ_eq_append_getElem hlt)
      have HBD := Lib.hid (all_bad hlt)
      generalize xs[j] = x at c0 c1 HT HBD
      obtain ⟨x1, x2⟩ := x
      simp only at c0 c1
      have HOK := Lib.hid (show okSp (x1, x2) = ((decide (0 ≤ x1) && decide (x1 ≤ 99)) && (decide (0 ≤ x2) && decide (x2 ≤ 99))) from rfl)
      go_wp2_with fail
      refine (l6In_any x1 _ _ _).mono ?_
      rintro e w1 ⟨rfl, rfl⟩
      cases hv1 : (decide (0 ≤ x1) && decide (x1 ≤ 99))
      · have hb := HBD.out (by rw [HOK.out, hv1]; rfl)
        obtain rfl : B = false := by rw [HS.out, hb]; rfl
        clear hb hv1
        go_wp2_with fail
        go_ret
        exact ⟨rfl, rfl⟩
      · have HV1 := Lib.hid hv1; clear hv1
        go_wp2_with fail
        refine (l6In_any x2 _ _ _).mono ?_
        rintro e w1 ⟨rfl, rfl⟩
        cases hv2 : (decide (0 ≤ x2) && decide (x2 ≤ 99))
        · have hb := HBD.out (by rw [HOK.out, hv2, HV1.out]; rfl)
          obtain rfl : B = false := by rw [HS.out, hb]; rfl
          clear hb hv2
          go_wp2_with fail
          go_ret
          exact ⟨rfl, rfl⟩
        · have HV2 := Lib.hid hv2; clear hv2
          go_wp2_with fail
          go_roundg (xs.length - (j + 1))
          case measure => rw [HK.out]; omega
          case rel => exact ⟨j + 1, by omega, rfl, by go_num, by rw [HT.out, List.all_append, HALL.out, List.all_cons, HOK.out, HV1.out, HV2.out]; rfl, rfl⟩
    · obtain rfl : j = xs.length := by omega
      have HBV : Hid (B = (decide ((1 : Int) ≤ (xs.length : Int)) && decide ((xs.length : Int) ≤ 6))) := by
        show B = _
        have := HALL.out
        rw [List.take_length] at this
        rw [HS.out, this, Bool.true_and]; congr 1 <;> simp <;> omega
      go_wp2_with fail
      refine (l6In_any _ _ _ _).mono ?_
      rintro e w1 ⟨rfl, rfl⟩
      go_wp2_with fail
      go_ret
      exact ⟨by rw [HBV.out]; rfl, rfl⟩

/-- A drawn number of a set. -/
def DrewNum (b m : Nat) (w : World) (e : Ending) (w' : World) : Prop := ∃ n : Int, -1 ≤ n ∧ n ≤ 100 ∧ e = .returned (.int .i64 n) ∧ KeepB b w w' ∧ RdAt w' b m
def intsOk (vs : List Value) : Bool := vs.all fun v => match v with | .int .i64 n => decide (-1 ≤ n) && decide (n ≤ 100) | _ => false
/-- The block sb holds n small numbers. -/
def IntRow (w : World) (sb n : Nat) : Prop := ∀ i, i < n → ∃ z : Int, -1 ≤ z ∧ z ≤ 100 ∧ w.cell? ⟨sb, i, none⟩ = some (.int .i64 z)
theorem cellOf {w : World} {b : Nat} {cs : Array Value} {t : TypeId} {fz : Nat × Nat} (h : w.heap[b]? = some (.cells cs t fz)) (i : Nat) : w.cell? ⟨b, i, none⟩ = cs[i]? := by
  simp [World.cell?, h]
theorem ints_new (w : World) (t : TypeId) (vs : List Value) (h : intsOk vs = true) : IntRow (w.alloc (.cells vs.toArray t)) w.heap.size vs.length := by
  intro i hi
  have hb : (w.alloc (.cells vs.toArray t)).heap[w.heap.size]? = some (.cells vs.toArray t) := by
    show (w.heap.push _)[w.heap.size]? = _
    simp
  unfold intsOk at h
  rw [List.all_eq_true] at h
  have := h vs[i] (List.getElem_mem _)
  split at this
  · rename_i n hn
    simp only [Bool.and_eq_true, decide_eq_true_iff] at this
    refine ⟨n, this.1, this.2, ?_⟩
    rw [cellOf hb]; simp [hi, hn]
  · cases this

set_option maxHeartbeats 1000000 in
theorem drawNumber_any (b m : Nat) (w : World) (hm : m ≤ 900000) (hr : RdAt w b m) :
    Calls Tryd.prog 32 #[.pointer (some ⟨b, 0, none⟩)] w (DrewNum b (m + 2) w) := by
  have HR := Lib.hid hr; clear hr
  go_enter Tryd.func32, Tryd.ntmps32
  go_wp2_with fail
  refine (pick_any b m _ _ (by omega) (by omega) HR.out).mono ?_
  rintro e w1 ⟨r, hr0, hr1, rfl, hk, hr'⟩
  have hlt := hr'.lt
  have HK := Lib.hid hk; clear hk
  have HR' := Lib.hid hr'; clear hr'
  cases h0 : (r == 0)
  · go_wp2_with fail
    refine (pick_any b (m + 1) _ _ (by omega) (by omega) HR'.out).mono ?_
    rintro e w2 ⟨n, hn0, hn1, rfl, hk2, hr2⟩
    go_wp2_with fail
    go_ret
    exact ⟨n, by omega, by omega, rfl, HK.out.trans hk2, hr2⟩
  · have HI := Lib.hid (ints_new w1 3 [.int .i64 0, .int .i64 99, .int .i64 100, .int .i64 (-1), .int .i64 50] rfl)
    go_wp2_with fail
    refine (pick_any b (m + 1) _ _ (by omega) (by omega) (HR'.out.alloc _)).mono ?_
    rintro e w2 ⟨n, hn0, hn1, rfl, hk2, hr2⟩
    obtain ⟨k, rfl⟩ := Int.eq_ofNat_of_zero_le hn0
    obtain ⟨z, hz1, hz2, hc⟩ := HI.out k (by simp only [List.length_cons, List.length_nil]; omega)
    have hc1 : w2.cell? ⟨w1.heap.size, k, none⟩ = some (.int .i64 z) := World.grownBy.cell hk2 hc (by simp; omega)
    have HK2 := Lib.hid hk2; clear hk2 hc
    have HR2 := Lib.hid hr2; clear hr2
    go_wp2_with fail
    go_ret
    exact ⟨z, hz1, hz2, rfl, (HK.out.alloc _).trans HK2.out, HR2.out⟩

/-- A row of the call's own grew. -/
theorem grown_keepB {b : Nat} {w0 w w' : World} {row : Option Nat} (hg : w.grownBy w' row) (hr : ∀ k, row = some k → w0.heap.size ≤ k) (hk : KeepB b w0 w) : KeepB b w0 w' :=
  ⟨hg.os.trans hk.os, hg.tape.trans hk.tape, hg.output.trans hk.output, Nat.le_trans hk.size hg.size, fun k h1 h2 =>
    (hg.block k (Nat.lt_of_lt_of_le h1 hk.size) (fun e => by have := hr k e.symm; omega)).trans (hk.block k h1 h2)⟩
theorem RdAt.keptG {w w' : World} {b m : Nat} {row : Option Nat} (h : RdAt w b m) (hg : w.grownBy w' row) (hr : ∀ k, row = some k → b < k) : RdAt w' b m := by
  obtain ⟨a, len, cap, p, h, hp, hl, hz⟩ := h
  refine ⟨a, len, cap, p, (hg.block b h.lt (fun e => by have := hr b e.symm; omega)).trans h, hp, hl, ?_⟩
  rcases hz with hz | ⟨blk, off, rfl, hb, hc⟩
  · exact .inl hz
  · refine .inr ⟨blk, off, rfl, hb, fun i hi => ?_⟩
    obtain ⟨z, hz, hc⟩ := hc i hi
    exact ⟨z, hz, World.grownBy.cell hg hc (fun e => by have := hr _ e.symm; simp at this; omega)⟩
theorem infoSpan : (Tryd.prog.info? 41).map (fun i => (i.zero, i.size, i.bytes)) = some (some (.agg #[.int .i64 0, .int .i64 0]), 2, 16) := by kernel_rfl
theorem cell_two_new (w : World) (x y : Value) (t : TypeId) : ∀ j u, [x, y][j]? = some u → (w.alloc (.cells #[x, y] t)).cell? ((⟨w.heap.size, 0, none⟩ : Addr).add j) = some u := by
  intro j u hj
  match j, hj with
  | 0, hj => simp at hj; subst hj; simp [Addr.add]
  | 1, hj => simp at hj; subst hj; simp [Addr.add]
theorem cell_two_new' (w : World) (k : Nat) (hk : w.heap.size = k) (x y : Value) (t : TypeId) : ∀ j u, [x, y][j]? = some u → (w.alloc (.cells #[x, y] t)).cell? ((⟨k, 0, none⟩ : Addr).add j) = some u := by
  subst hk; exact cell_two_new w x y t
theorem spansAt_of {w : World} {base : Nat} {v : Value} {xs : List Sp} (h : w.ownsRow base 41 2 v xs.length (spCells xs)) : SpansAt w v xs := by
  have hl := h
  rcases h.2 with ⟨rfl, h1⟩ | ⟨g, cap, cur, rfl, _, hb, hn, hm, hs, ht⟩
  · obtain rfl : xs = [] := List.length_eq_zero_iff.1 h1
    exact ⟨none, 0, rfl, Nat.zero_le _, Nat.zero_le _, .inl rfl⟩
  · refine ⟨_, cap, rfl, hn, hm, .inr ⟨g, 0, rfl, (Array.getElem?_eq_some_iff.1 hb).1, fun i hi => ?_⟩⟩
    have hg := spCells_get xs i hi
    rw [Nat.zero_add]
    exact ⟨(World.ownsRow.cellAt hl (i * 2) (by omega)).trans hg.1, (World.ownsRow.cellAt hl (i * 2 + 1) (by omega)).trans hg.2⟩
/-- Numbers as they are drawn. -/
def smallSp (xs : List Sp) : Prop := xs.length ≤ 8 ∧ ∀ x ∈ xs, -1 ≤ x.1 ∧ x.1 ≤ 100 ∧ -1 ≤ x.2 ∧ x.2 ≤ 100
/-- A drawn set. -/
def DrewSet (b m : Nat) (w : World) (e : Ending) (w' : World) : Prop := ∃ v xs, smallSp xs ∧ e = .returned v ∧ SpansAt w' v xs ∧ KeepB b w w' ∧ RdAt w' b m ∧ ∀ k, v.ownBlock = some k → w.heap.size ≤ k

set_option maxHeartbeats 2000000 in
theorem drawSet_any (b m : Nat) (w : World) (hm : m ≤ 800000) (hr : RdAt w b m) :
    Calls Tryd.prog 16 #[.pointer (some ⟨b, 0, none⟩)] w (DrewSet b (m + 100) w) := by
  obtain ⟨i0, hi0, hz0, hz1, hz2⟩ := info_parts infoSpan
  have hbl := hr.lt
  have HR := Lib.hid hr; clear hr
  go_enter Tryd.func16, Tryd.ntmps16
  go_wp2_with fail
  refine (pick_any b m _ _ (by omega) (by omega) (HR.out.alloc _)).mono ?_
  rintro e w1 ⟨r, hr0, hr1, rfl, hk1, hr'⟩
  have HO1 := Lib.hid ((World.ownsRow_lit (base := w.heap.size) (e := 41) (size := 2) w #[] 0 (Nat.le_refl _) (Nat.zero_le _) rfl).kept hk1 (.inr (by simp [Value.ownBlock]; omega)))
  have HK1 := Lib.hid (((KeepB.refl b w).alloc _).trans hk1); clear hk1
  have HR' := Lib.hid hr'; clear hr'
  go_wp2_with fail
  refine (pick_any b (m + 1) _ _ (by omega) (by omega) HR'.out).mono ?_
  rintro e w2 ⟨r2, hr20, hr21, rfl, hk2, hr2⟩
  have HO2 := Lib.hid (HO1.out.kept hk2 (.inr (by simp [Value.ownBlock]; omega)))
  have HK2 := Lib.hid (HK1.out.trans hk2); clear hk2
  have HR2 := Lib.hid hr2; clear hr2
  cases h0 : (r2 == 0)
  · have hn0 : 0 ≤ 1 + r := by omega
    have hn8 : 1 + r ≤ 8 := by omega
    have HO3 := HO2
    have HK3 := HK2
    have HR3 := HR2
    go_wp2_with fail
    generalize 1 + r = N at *
    go_loopg [3, 5] 8 (fun k v iv wr => ∃ (j : Nat) (xs : List Sp), (j : Int) ≤ N ∧ k = 8 - j ∧ iv = .int .i64 j ∧ xs.length = j ∧ smallSp xs ∧ wr.ownsRow w.heap.size 41 2 v xs.length (spCells xs) ∧ KeepB b w wr ∧ RdAt wr b (m + 3 + j * 5))
    case atStart => exact ⟨0, [], by omega, rfl, rfl, rfl, ⟨by simp, by simp⟩, HO3.out, HK3.out, HR3.out.mono (by omega)⟩
    case round =>
      obtain ⟨j, xs, hj, hk, rfl, hxl, hsm, hown, hkeep, hrd⟩ := hrel
      have hxj : xs.length ≤ j := by omega
      have HK := Lib.hid hk; clear hk
      have HXL := Lib.hid hxl; clear hxl
      have HSM := Lib.hid hsm; clear hsm
      have HOW := Lib.hid hown; clear hown
      have hwz := hkeep.size
      have HKE := Lib.hid hkeep; clear hkeep
      have hbr := hrd.lt
      have HRD := Lib.hid hrd; clear hrd
      have HNB := Lib.hid (show u3.ownBlock = none ∨ u3.ownBlock ≠ some b from .inr fun e => by have := (HOW.out.lt b e).1; omega)
      by_cases hlt : (j : Int) < N
      · go_wp2_with fail
        refine (drawNumber_any b _ _ (by omega) HRD.out).mono ?_
        rintro e w4 ⟨n1, hn11, hn12, rfl, hk4, hr4⟩
        have HO4 := Lib.hid ((HOW.out.kept hk4 HNB.out).alloc (.cells #[.int .i64 n1, .int .i64 n1] 41))
        have hbq := hr4.lt
        have hzq := (HKE.out.trans hk4).size
        have HOB := Lib.hid (fun k e => ((HOW.out.kept hk4 HNB.out).lt k e).2)
        have HK4 := Lib.hid ((HKE.out.trans hk4).alloc (.cells #[.int .i64 n1, .int .i64 n1] 41)); clear hk4
        have HR4 := Lib.hid (hr4.alloc (.cells #[.int .i64 n1, .int .i64 n1] 41)); clear hr4
        have hb4 := HR4.out.lt
        have HT4 := Lib.hid (Two.new w4 41 (.int .i64 n1) (.int .i64 n1))
        have hz4 := HK4.out.size
        rw [World.size_alloc] at hb4 hz4
        go_wp2_with fail
        refine (pick_any b _ _ _ (by omega) (by omega) HR4.out).mono ?_
        rintro e w5 ⟨r3, hr30, hr31, rfl, hk5, hr5⟩
        have hq : w4.heap.size ≠ b := by omega
        have HO5 := Lib.hid (HO4.out.kept hk5 HNB.out)
        have HT5 := Lib.hid (HT4.out.kept hk5 hq)
        have HK5 := Lib.hid (HK4.out.trans hk5); clear hk5
        have HR5 := Lib.hid hr5; clear hr5
        have hz5 := HK5.out.size
        have hb5 := HR5.out.lt
        cases h3 : (r3 == 0)
        · have c0 := HT5.out.c0
          have c1 := HT5.out.c1
          go_wp2_with (at_builtin; refine wpList_append_own _ rfl _ _ 23 rfl w.heap.size 41 i0 (.agg #[.int .i64 0, .int .i64 0]) 2 16 Tryd.underlying23 hi0 hz0 hz1 hz2 rfl (by decide) _ _ _ rfl (HO5.out.alloc _) ⟨w5.heap.size, 0, none⟩ 1 1 [.int .i64 n1, .int .i64 n1] rfl rfl (cell_two_new _ _ _ _) (by simp [Value.oneCell']) (by unfold maxLen; omega) (by omega) (by simp; omega) ?_; intro v' w1 hown' hgrow _)
          have HO' := Lib.hid hown'; clear hown'
          have HG := Lib.hid hgrow; clear hgrow
          go_wp2_with fail
          go_roundg (8 - (j + 1))
          case measure => rw [HK.out]; omega
          case rel =>
            refine ⟨j + 1, xs ++ [(n1, n1)], by omega, rfl, by go_num, by simp [HXL.out], ⟨by simp; omega, fun x hx => ?_⟩, ?_, ?_, ?_⟩
            · rcases List.mem_append.1 hx with hx | hx
              · exact HSM.out.2 x hx
              · simp only [List.mem_singleton] at hx; subst hx; exact ⟨by omega, by omega, by omega, by omega⟩
            · rw [spCells_snoc]; simpa using HO'.out
            · exact grown_keepB HG.out (fun k e => (HO5.out.lt k e).1) (HK5.out.alloc _)
            · exact ((HR5.out.alloc _).keptG HG.out (fun k e => by have := (HO5.out.lt k e).1; omega)).mono (by omega)
        · go_wp2_with fail
          refine (drawNumber_any b _ _ (by omega) HR5.out).mono ?_
          rintro e w6 ⟨n2, hn21, hn22, rfl, hk6, hr6⟩
          have HT6 := Lib.hid (HT5.out.kept hk6 hq)
          have HO6 := Lib.hid ((HO5.out.kept hk6 HNB.out))
          have HK6 := Lib.hid (HK5.out.trans hk6); clear hk6
          have HR6 := Lib.hid hr6; clear hr6
          have hz6 := HK6.out.size
          have c0 := HT6.out.c0
          have c1 := HT6.out.c1
          have f1 := HT6.out.f1
          have hqw : w.heap.size ≤ w4.heap.size := by omega
          have HO7 := Lib.hid (HO6.out.kept (World.grownBy.trans (KeepB.refl w4.heap.size w6) ((KeepB.refl w4.heap.size w6).setCell 1 (.int .i64 n2))) (.inr fun e => by have := HOB.out _ e; omega))
          have HK7 := Lib.hid (HK6.out.setNew ⟨w4.heap.size, 1, none⟩ hqw (.int .i64 n2))
          have HR7 := Lib.hid (HR6.out.kept ((KeepB.refl w4.heap.size w6).setCell 1 (.int .i64 n2)) hbq)
          go_wp2_with (at_builtin; refine wpList_append_own _ rfl _ _ 23 rfl w.heap.size 41 i0 (.agg #[.int .i64 0, .int .i64 0]) 2 16 Tryd.underlying23 hi0 hz0 hz1 hz2 rfl (by decide) _ _ _ rfl (HO7.out.alloc _) ⟨w6.heap.size, 0, none⟩ 1 1 [.int .i64 n1, .int .i64 n2] rfl rfl (cell_two_new' _ _ (by simp) _ _ _) (by simp [Value.oneCell']) (by unfold maxLen; omega) (by omega) (by simp; omega) ?_; intro v' w1 hown' hgrow _)
          have HO' := Lib.hid hown'; clear hown'
          have HG := Lib.hid hgrow; clear hgrow
          go_wp2_with fail
          go_roundg (8 - (j + 1))
          case measure => rw [HK.out]; omega
          case rel =>
            refine ⟨j + 1, xs ++ [(n1, n2)], by omega, rfl, by go_num, by simp [HXL.out], ⟨by simp; omega, fun x hx => ?_⟩, ?_, ?_, ?_⟩
            · rcases List.mem_append.1 hx with hx | hx
              · exact HSM.out.2 x hx
              · simp only [List.mem_singleton] at hx; subst hx; exact ⟨by omega, by omega, by omega, by omega⟩
            · rw [spCells_snoc]; simpa using HO'.out
            · exact grown_keepB HG.out (fun k e => (HO7.out.lt k e).1) (HK7.out.alloc _)
            · exact ((HR7.out.alloc _).keptG HG.out (fun k e => by have := (HO7.out.lt k e).1; omega)).mono (by omega)
      · go_wp2_with fail
        go_ret
        exact ⟨_, xs, HSM.out, rfl, spansAt_of HOW.out, HKE.out, HRD.out.mono (by omega), fun k e => (HOW.out.lt k e).1⟩
  · go_wp2_with fail
    refine (pick_any b (m + 2) _ _ (by omega) (by omega) HR2.out).mono ?_
    rintro e w3 ⟨N, hn0, hn8, rfl, hk3, hr3⟩
    have HO3 := Lib.hid (HO2.out.kept hk3 (.inr (by simp [Value.ownBlock]; omega)))
    have HK3 := Lib.hid (HK2.out.trans hk3); clear hk3
    have HR3 := Lib.hid hr3; clear hr3
    go_wp2_with fail
    go_loopg [3, 5] 8 (fun k v iv wr => ∃ (j : Nat) (xs : List Sp), (j : Int) ≤ N ∧ k = 8 - j ∧ iv = .int .i64 j ∧ xs.length = j ∧ smallSp xs ∧ wr.ownsRow w.heap.size 41 2 v xs.length (spCells xs) ∧ KeepB b w wr ∧ RdAt wr b (m + 3 + j * 5))
    case atStart => exact ⟨0, [], by omega, rfl, rfl, rfl, ⟨by simp, by simp⟩, HO3.out, HK3.out, HR3.out.mono (by omega)⟩
    case round =>
      obtain ⟨j, xs, hj, hk, rfl, hxl, hsm, hown, hkeep, hrd⟩ := hrel
      have hxj : xs.length ≤ j := by omega
      have HK := Lib.hid hk; clear hk
      have HXL := Lib.hid hxl; clear hxl
      have HSM := Lib.hid hsm; clear hsm
      have HOW := Lib.hid hown; clear hown
      have hwz := hkeep.size
      have HKE := Lib.hid hkeep; clear hkeep
      have hbr := hrd.lt
      have HRD := Lib.hid hrd; clear hrd
      have HNB := Lib.hid (show u3.ownBlock = none ∨ u3.ownBlock ≠ some b from .inr fun e => by have := (HOW.out.lt b e).1; omega)
      by_cases hlt : (j : Int) < N
      · go_wp2_with fail
        refine (drawNumber_any b _ _ (by omega) HRD.out).mono ?_
        rintro e w4 ⟨n1, hn11, hn12, rfl, hk4, hr4⟩
        have HO4 := Lib.hid ((HOW.out.kept hk4 HNB.out).alloc (.cells #[.int .i64 n1, .int .i64 n1] 41))
        have hbq := hr4.lt
        have hzq := (HKE.out.trans hk4).size
        have HOB := Lib.hid (fun k e => ((HOW.out.kept hk4 HNB.out).lt k e).2)
        have HK4 := Lib.hid ((HKE.out.trans hk4).alloc (.cells #[.int .i64 n1, .int .i64 n1] 41)); clear hk4
        have HR4 := Lib.hid (hr4.alloc (.cells #[.int .i64 n1, .int .i64 n1] 41)); clear hr4
        have hb4 := HR4.out.lt
        have HT4 := Lib.hid (Two.new w4 41 (.int .i64 n1) (.int .i64 n1))
        have hz4 := HK4.out.size
        rw [World.size_alloc] at hb4 hz4
        go_wp2_with fail
        refine (pick_any b _ _ _ (by omega) (by omega) HR4.out).mono ?_
        rintro e w5 ⟨r3, hr30, hr31, rfl, hk5, hr5⟩
        have hq : w4.heap.size ≠ b := by omega
        have HO5 := Lib.hid (HO4.out.kept hk5 HNB.out)
        have HT5 := Lib.hid (HT4.out.kept hk5 hq)
        have HK5 := Lib.hid (HK4.out.trans hk5); clear hk5
        have HR5 := Lib.hid hr5; clear hr5
        have hz5 := HK5.out.size
        have hb5 := HR5.out.lt
        cases h3 : (r3 == 0)
        · have c0 := HT5.out.c0
          have c1 := HT5.out.c1
          go_wp2_with (at_builtin; refine wpList_append_own _ rfl _ _ 23 rfl w.heap.size 41 i0 (.agg #[.int .i64 0, .int .i64 0]) 2 16 Tryd.underlying23 hi0 hz0 hz1 hz2 rfl (by decide) _ _ _ rfl (HO5.out.alloc _) ⟨w5.heap.size, 0, none⟩ 1 1 [.int .i64 n1, .int .i64 n1] rfl rfl (cell_two_new _ _ _ _) (by simp [Value.oneCell']) (by unfold maxLen; omega) (by omega) (by simp; omega) ?_; intro v' w1 hown' hgrow _)
          have HO' := Lib.hid hown'; clear hown'
          have HG := Lib.hid hgrow; clear hgrow
          go_wp2_with fail
          go_roundg (8 - (j + 1))
          case measure => rw [HK.out]; omega
          case rel =>
            refine ⟨j + 1, xs ++ [(n1, n1)], by omega, rfl, by go_num, by simp [HXL.out], ⟨by simp; omega, fun x hx => ?_⟩, ?_, ?_, ?_⟩
            · rcases List.mem_append.1 hx with hx | hx
              · exact HSM.out.2 x hx
              · simp only [List.mem_singleton] at hx; subst hx; exact ⟨by omega, by omega, by omega, by omega⟩
            · rw [spCells_snoc]; simpa using HO'.out
            · exact grown_keepB HG.out (fun k e => (HO5.out.lt k e).1) (HK5.out.alloc _)
            · exact ((HR5.out.alloc _).keptG HG.out (fun k e => by have := (HO5.out.lt k e).1; omega)).mono (by omega)
        · go_wp2_with fail
          refine (drawNumber_any b _ _ (by omega) HR5.out).mono ?_
          rintro e w6 ⟨n2, hn21, hn22, rfl, hk6, hr6⟩
          have HT6 := Lib.hid (HT5.out.kept hk6 hq)
          have HO6 := Lib.hid ((HO5.out.kept hk6 HNB.out))
          have HK6 := Lib.hid (HK5.out.trans hk6); clear hk6
          have HR6 := Lib.hid hr6; clear hr6
          have hz6 := HK6.out.size
          have c0 := HT6.out.c0
          have c1 := HT6.out.c1
          have f1 := HT6.out.f1
          have hqw : w.heap.size ≤ w4.heap.size := by omega
          have HO7 := Lib.hid (HO6.out.kept (World.grownBy.trans (KeepB.refl w4.heap.size w6) ((KeepB.refl w4.heap.size w6).setCell 1 (.int .i64 n2))) (.inr fun e => by have := HOB.out _ e; omega))
          have HK7 := Lib.hid (HK6.out.setNew ⟨w4.heap.size, 1, none⟩ hqw (.int .i64 n2))
          have HR7 := Lib.hid (HR6.out.kept ((KeepB.refl w4.heap.size w6).setCell 1 (.int .i64 n2)) hbq)
          go_wp2_with (at_builtin; refine wpList_append_own _ rfl _ _ 23 rfl w.heap.size 41 i0 (.agg #[.int .i64 0, .int .i64 0]) 2 16 Tryd.underlying23 hi0 hz0 hz1 hz2 rfl (by decide) _ _ _ rfl (HO7.out.alloc _) ⟨w6.heap.size, 0, none⟩ 1 1 [.int .i64 n1, .int .i64 n2] rfl rfl (cell_two_new' _ _ (by simp) _ _ _) (by simp [Value.oneCell']) (by unfold maxLen; omega) (by omega) (by simp; omega) ?_; intro v' w1 hown' hgrow _)
          have HO' := Lib.hid hown'; clear hown'
          have HG := Lib.hid hgrow; clear hgrow
          go_wp2_with fail
          go_roundg (8 - (j + 1))
          case measure => rw [HK.out]; omega
          case rel =>
            refine ⟨j + 1, xs ++ [(n1, n2)], by omega, rfl, by go_num, by simp [HXL.out], ⟨by simp; omega, fun x hx => ?_⟩, ?_, ?_, ?_⟩
            · rcases List.mem_append.1 hx with hx | hx
              · exact HSM.out.2 x hx
              · simp only [List.mem_singleton] at hx; subst hx; exact ⟨by omega, by omega, by omega, by omega⟩
            · rw [spCells_snoc]; simpa using HO'.out
            · exact grown_keepB HG.out (fun k e => (HO7.out.lt k e).1) (HK7.out.alloc _)
            · exact ((HR7.out.alloc _).keptG HG.out (fun k e => by have := (HO7.out.lt k e).1; omega)).mono (by omega)
      · go_wp2_with fail
        go_ret
        exact ⟨_, xs, HSM.out, rfl, spansAt_of HOW.out, HKE.out, HRD.out.mono (by omega), fun k e => (HOW.out.lt k e).1⟩

end Go.Proofs.YthabmjadfomnkaaDoor
