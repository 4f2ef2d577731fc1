/- Contracts: the program's SetNumbers. -/
import Derived.Test.YthabmjadfomnkaaNumW
import Derived.Laws.Rows
namespace Go.Proofs.Ythabmjadfomnkaa
open Go.RowKit
set_option linter.unusedVariables false

/-- Block g holds a hundred marks. -/
def Marks (w : World) (g : Nat) (f : Nat → Bool) : Prop := ∃ cs t, w.heap[g]? = some (.cells cs t (0, 0)) ∧ cs.size = 100 ∧ ∀ i, i < 100 → cs[i]? = some (.bool (f i))
theorem Marks.lt {w : World} {g : Nat} {f : Nat → Bool} (h : Marks w g f) : g < w.heap.size := by
  obtain ⟨cs, t, h, _⟩ := h; exact (Array.getElem?_eq_some_iff.1 h).1
theorem Marks.cell {w : World} {g : Nat} {f : Nat → Bool} (h : Marks w g f) (i : Nat) (hi : i < 100) : w.cell? ⟨g, i, none⟩ = some (.bool (f i)) := by
  obtain ⟨cs, t, h, _, hc⟩ := h; rw [cellOf h]; exact hc i hi
theorem Marks.free {w : World} {g : Nat} {f : Nat → Bool} (h : Marks w g f) (i : Nat) : w.frozen? ⟨g, i, none⟩ = false := by
  obtain ⟨cs, t, h, _, hc⟩ := h; simp [World.frozen?, h]
theorem Marks.set {w : World} {g : Nat} {f : Nat → Bool} (h : Marks w g f) (n : Nat) (hn : n < 100) {f' : Nat → Bool} (hf : ∀ i, i < 100 → f' i = (f i || decide (i = n))) : Marks (w.setCell ⟨g, n, none⟩ (.bool true)) g f' := by
  obtain ⟨cs, t, h, hs, hc⟩ := h
  refine ⟨cs.setIfInBounds n (.bool true), t, ?_, by simpa using hs, fun i hi => ?_⟩
  · simp [World.setCell, Array.getElem?_modify, h]
  · rw [Array.getElem?_setIfInBounds, hf i hi]
    by_cases e : n = i
    · subst e; simp [hs, hn]
    · rw [if_neg e, hc i hi]
      rw [show decide (i = n) = false from decide_eq_false (fun x => e x.symm), Bool.or_false]
theorem Marks.congr {w : World} {g : Nat} {f f' : Nat → Bool} (h : Marks w g f) (hf : ∀ i, i < 100 → f' i = f i) : Marks w g f' := by
  obtain ⟨cs, t, h, hs, hc⟩ := h
  exact ⟨cs, t, h, hs, fun i hi => by rw [hf i hi]; exact hc i hi⟩
theorem Marks.new (w : World) (t : TypeId) (cs : Array Value) (hs : cs.size = 100) (hc : ∀ i, i < 100 → cs[i]? = some (.bool false)) : Marks (w.alloc (.cells cs t)) w.heap.size (fun _ => false) :=
  ⟨cs, t, by show (w.heap.push _)[w.heap.size]? = _; simp, hs, hc⟩
theorem Marks.drewN {w : World} {g : Nat} {f : Nat → Bool} (h : Marks w g f) (n : Nat) : Marks (w.drewN n) g f := by
  obtain ⟨cs, t, h, hs⟩ := h; exact ⟨cs, t, by rw [(drewN_heap w n).1]; exact h, hs⟩
theorem Marks.alloc {w : World} {g : Nat} {f : Nat → Bool} (h : Marks w g f) (o : Obj) : Marks (w.alloc o) g f := by
  obtain ⟨cs, t, h, hs⟩ := h; exact ⟨cs, t, (Below.heap_alloc _ _ _ (Array.getElem?_eq_some_iff.1 h).1).trans h, hs⟩
theorem index_marks (cs : Array Value) (hs : cs.size = 100) (i : Nat) (hi : i < 100) (b : Bool) (hb : cs[i]? = some (.bool b)) (w : World) :
    (Instr.index 58 (.agg cs) (.int .i64 (i : Int))).run Try.prog w = .ok (.bool b) w := by
  have hsz : (sizeOf 4).run Try.prog w = .ok 1 w := by kernel_rfl
  simp [Instr.index, run_underlying Try.underlying58, asIntOf, hsz, part, hb]
  intro h; omega

theorem zero_marks : ∃ Z : Array Value, (∀ w, (zeroValue 58).run Try.prog w = .ok (.agg Z) w) ∧ Z.size = 100 ∧ ∀ i, i < 100 → Z[i]? = some (.bool false) :=
  ⟨Array.replicate 100 (.bool false), fun w => by kernel_rfl, by simp, fun i hi => by simp [hi]⟩
theorem setBound_any (n last : Int) (w : World) :
    Calls Try.prog 45 #[.int .i64 n, .int .i64 last] w fun e w' => e = .returned (.int .i64 (bnd n last)) ∧ w = w' := by
  by_cases h : n = 0
  · have h2 : (n == 0) = true := by simp [h]
    have hb : bnd n last = last := if_pos h
    rw [hb]
    clear h hb
    go_enter Try.func45, Try.ntmps45
    go_wp2_with fail
    go_ret
    exact ⟨rfl, rfl⟩
  · have h2 : (n == 0) = false := by simpa using h
    have hb : bnd n last = n := if_neg h
    rw [hb]
    clear h hb
    go_enter Try.func45, Try.ntmps45
    go_wp2_with fail
    go_ret
    exact ⟨rfl, rfl⟩
/-- The marks behind j spans. -/
def mk (xs : List Sp) (L : Int) (j : Nat) (i : Nat) : Bool := decide ((i : Int) ≤ L) && hasN (xs.take j) L i
theorem mk_zero (xs : List Sp) (L : Int) (i : Nat) : mk xs L 0 i = false := by simp [mk, hasN]
theorem mk_succ (xs : List Sp) (L : Int) (j : Nat) (h : j < xs.length) (i : Nat) : mk xs L (j + 1) i = (mk xs L j i || (decide ((i : Int) ≤ L) && hasSp xs[j] L i)) := by
  unfold mk hasN
  rw [List.take_succ_eq_append_getElem h, List.any_append]
  simp [Bool.and_or_distrib_left]
theorem nums_marks (xs : List Sp) (last : Int) (hv : setV xs = true) (h1 : 1 ≤ last) : (upFrom 0 100).filter (fun n => mk xs (lastN last) xs.length n.toNat) = numsL xs last := by
  have hL1 : 1 ≤ lastN last := by unfold lastN; omega
  have hL9 : lastN last ≤ 99 := by unfold lastN; omega
  rw [numsL_yes hv h1]
  generalize lastN last = L at *
  have hok := (setV_ok hv).1
  have h0 : mk xs L xs.length 0 = false := by
    unfold mk
    rw [List.take_length]
    have : hasN xs L ((0 : Nat) : Int) = false := by
      unfold hasN
      rw [List.any_eq_false]
      intro x hx
      have hx := (okSp_iff x).1 (List.all_eq_true.1 hok x hx)
      have hb1 : 1 ≤ bnd x.1 L := by unfold bnd; split <;> omega
      have hb2 : 1 ≤ bnd x.2 L := by unfold bnd; split <;> omega
      unfold hasSp
      rw [decide_eq_false (by omega)]; simp
    rw [this, Bool.and_false]
  have split : ∀ (a : Int) (m n : Nat), upFrom a (m + n) = upFrom a m ++ upFrom (a + m) n := by
    intro a m n
    induction m generalizing a with
    | zero => simp [upFrom]
    | succ m ih =>
      rw [show m + 1 + n = (m + n) + 1 by omega]
      simp only [upFrom, List.cons_append]
      rw [ih, show a + 1 + (m : Int) = a + ((m + 1 : Nat) : Int) by push_cast; omega]
  rw [show upFrom 0 100 = 0 :: upFrom 1 99 from rfl, List.filter_cons, show ((0 : Int).toNat) = 0 from rfl, h0]
  simp only [Bool.false_eq_true, if_false]
  rw [show (99 : Nat) = L.toNat + (99 - L.toNat) by omega, split, List.filter_append]
  have e2 : (upFrom (1 + (L.toNat : Int)) (99 - L.toNat)).filter (fun n => mk xs L xs.length n.toNat) = [] := by
    rw [List.filter_eq_nil_iff]
    intro n hn
    have := (upFrom_mem _ _ n).1 hn
    simp [mk]; omega
  rw [e2, List.append_nil]
  apply List.filter_congr
  intro n hn
  have := (upFrom_mem _ _ n).1 hn
  unfold mk
  rw [List.take_length, show ((n.toNat : Nat) : Int) = n by omega, decide_eq_true (by omega), Bool.true_and]


set_option maxHeartbeats 4000000 in
theorem implSN_yes (v : Value) (xs : List Sp) (last : Int) (w : World) (hv : SpansAt w v xs) (hsv : setV xs = true) (h1 : 1 ≤ last) :
    Calls Try.prog 24 #[v, .int .i64 last] w (GaveInts (numsL xs last) w) := by
  obtain ⟨i0, hi0, hz0, hz1, hz2⟩ := info_parts infoInt
  have HNU := Lib.hid (nums_marks xs last hsv h1)
  have hL : (if (99 : Int) < last then 99 else last) = lastN last := by unfold lastN; split <;> omega
  have hL1 : 1 ≤ lastN last := by unfold lastN; omega
  have hL9 : lastN last ≤ 99 := by unfold lastN; omega
  generalize lastN last = L at *
  generalize numsL xs last = R at *
  obtain ⟨hok, hl1, hl6⟩ := setV_ok hsv
  have HOK := Lib.hid hok; clear hok
  have HS := Lib.hid hsv; clear hsv
  have HV := Lib.hid (hv.alloc (.cells #[] 3)); clear hv
  have HO := Lib.hid (World.ownsRow_lit (base := w.heap.size) (e := 3) (size := 1) w #[] 0 (Nat.le_refl _) (Nat.zero_le _) rfl)
  have HB := Lib.hid ((Below.refl w.heap.size w).alloc (Nat.le_refl _) (.cells #[] 3))
  have hl1' : ¬ last < 1 := by omega
  obtain ⟨Z, hZ, hZs, hZc⟩ := zero_marks
  have HZS := Lib.hid hZs; clear hZs
  have HZC := Lib.hid hZc; clear hZc
  have dl1 : decide (last < 1) = false := by simp; omega
  go_enter Try.func24, Try.ntmps24
  go_wp2_with fail
  refine (implSV_any v xs _ HV.out).mono ?_
  rw [HS.out]
  rintro e w1 ⟨rfl, hb1⟩
  have hz1' : w.heap.size < w1.heap.size := by have := hb1.size; simp at this; omega
  have HV1 := Lib.hid (HV.out.below hb1)
  have HO1 := Lib.hid (HO.out.kept (grown_of_below hb1) (ownBlock_ne _))
  have HB1 := Lib.hid (HB.out.trans (hb1.mono (by simp))); clear hb1
  obtain ⟨a, cap, rfl, hlc, hcm, hrow⟩ := HV1.out
  obtain ⟨g, off, rfl, hg, hcell⟩ := hrow.resolve_left (by rintro rfl; simp at hl1)
  clear hrow
  have HCELL := Lib.hid hcell; clear hcell
  unfold maxLen at hcm
  go_wp2_with fail
  clear hZ hL
  go_loopg [27] xs.length (fun k iv wr => ∃ j : Nat, j ≤ xs.length ∧ k = xs.length - j ∧ iv = .int .i64 j ∧ Marks wr w1.heap.size (mk xs L j) ∧ Below w1.heap.size w1 wr)
  case atStart => exact ⟨0, Nat.zero_le _, rfl, rfl, (Marks.new w1 _ _ HZS.out HZC.out).congr (fun i _ => mk_zero xs L i), (Below.refl _ _).alloc (Nat.le_refl _) _⟩
  case round =>
    obtain ⟨j, hj, hk, rfl, hmk, hbw⟩ := hrel
    have HK := Lib.hid hk; clear hk
    have HMK := Lib.hid hmk; clear hmk
    have hzw := hbw.size
    have HBW := Lib.hid hbw; clear hbw
    by_cases hlt : j < xs.length
    · have hi : (j : Int) < (xs.length : Int) := by omega
      have c0 := (HBW.out.cell (p := ⟨g, off + j * 2, none⟩) hg).trans (HCELL.out j hlt).1
      have c1 := (HBW.out.cell (p := ⟨g, off + j * 2 + 1, none⟩) hg).trans (HCELL.out j hlt).2
      have hox := (okSp_iff _).1 (List.all_eq_true.1 HOK.out xs[j] (List.getElem_mem _))
      generalize hx : xs[j] = x at c0 c1 hox
      have HXJ := Lib.hid hx; clear hx
      obtain ⟨x1, x2⟩ := x
      simp only at c0 c1 hox
      obtain ⟨ho1, ho2, ho3, ho4⟩ := hox
      have hA1 : 1 ≤ bnd x1 L := by unfold bnd; split <;> omega
      have hC1 : 1 ≤ bnd x2 L := by unfold bnd; split <;> omega
      have hA9 : bnd x1 L ≤ 99 := by unfold bnd; split <;> omega
      have hC9 : bnd x2 L ≤ 99 := by unfold bnd; split <;> omega
      have HMK2 := Lib.hid (HMK.out.alloc (.cells #[.int .i64 x1, .int .i64 x2] 32))
      have HBW2 := Lib.hid (HBW.out.alloc hzw (.cells #[.int .i64 x1, .int .i64 x2] 32))
      have HT := Lib.hid (Two.new wr 32 (.int .i64 x1) (.int .i64 x2))
      go_wp2_with fail
      clear c0 c1
      have k0 := HT.out.c0
      have k1 := HT.out.c1
      go_quiet ((go_at_call 45; exact quiet_left (setBound_any _ _ _)))
      have HMK3 := Lib.hid (HMK2.out.drewN nq)
      have HBW3 := Lib.hid (Below.drewN' HBW2.out nq)
      clear k0 k1
      generalize hA : bnd x1 L = A at *
      generalize hC : bnd x2 L = C at *
      have HA := Lib.hid hA; clear hA
      have HC := Lib.hid hC; clear hC
      by_cases hsw : C < A
      · go_wp2_with fail
        have hlo1 : 1 ≤ C := by omega
        have HMM := Lib.hid (show ∃ M, (if L < A then L else A) = M ∧ M ≤ L ∧ M ≤ A ∧ (M = L ∨ M = A) from ⟨_, rfl, by split <;> omega, by split <;> omega, by split <;> simp⟩)
        obtain ⟨M, hM, hM1, hM2, hM3⟩ := HMM.out
        have HM3 := Lib.hid hM3; clear hM3
        have HSB := Lib.hid (show ∀ i : Nat, hasSp (x1, x2) L i = (decide (C ≤ (i : Int)) && decide ((i : Int) ≤ A)) from fun i => hasSp_of i rfl rfl (show min (bnd x1 L) (bnd x2 L) = C by rw [HA.out, HC.out]; omega) (show max (bnd x1 L) (bnd x2 L) = A by rw [HA.out, HC.out]; omega))
        go_wp2_with fail
        go_loopg [11] (L + 1 - C).toNat (fun k nv wq => ∃ n : Int, C ≤ n ∧ (n ≤ M + 1 ∨ n = C) ∧ k = (L + 1 - n).toNat ∧ nv = .int .i64 n ∧ Marks wq w1.heap.size (fun i => mk xs L j i || (decide (C ≤ (i : Int)) && decide ((i : Int) < n))) ∧ Below w1.heap.size w1 wq)
        case atStart => exact ⟨C, by omega, .inr rfl, rfl, rfl, HMK3.out.congr (fun i _ => by rw [show (decide (C ≤ (i : Int)) && decide ((i : Int) < C)) = false by simp, Bool.or_false]), HBW3.out⟩
        case round =>
          obtain ⟨n, hn1, hn2, hk2, rfl, hmk, hbq⟩ := hrel
          have HK2 := Lib.hid hk2; clear hk2
          have HN2 := Lib.hid hn2; clear hn2
          have HBQ := Lib.hid hbq; clear hbq
          have HMQ := Lib.hid hmk; clear hmk
          by_cases hgo : n ≤ M
          · obtain ⟨q, rfl⟩ := Int.eq_ofNat_of_zero_le (show 0 ≤ n by omega)
            have hq : q < 100 := by omega
            have hq2 : (q : Int) < 100 := by omega
            have c0 := HMQ.out.cell q hq
            have f0 := HMQ.out.free q
            go_wp2_with fail
            go_roundg (L + 1 - ((q : Int) + 1)).toNat
            case measure => rw [HK2.out]; omega
            case rel => exact ⟨(q : Int) + 1, by omega, .inl (by omega), rfl, by go_num, HMQ.out.set q hq (fun i _ => by rw [Bool.or_assoc]; congr 1; rw [Bool.eq_iff_iff]; simp; omega), HBQ.out.setCell (p := ⟨w1.heap.size, q, none⟩) (Nat.le_refl _) _⟩
          · have HMN := Lib.hid (HMQ.out.congr (f' := mk xs L (j + 1)) (fun i _ => by
              rw [mk_succ xs L j hlt, HXJ.out, HSB.out i]
              congr 1
              rw [Bool.eq_iff_iff]
              simp
              have h2 := HN2.out
              have h3 := HM3.out
              omega))
            go_wp2_with fail
            go_roundg (xs.length - (j + 1))
            case measure => rw [HK.out]; omega
            case rel => exact ⟨j + 1, by omega, rfl, by go_num, HMN.out, HBQ.out⟩
      · go_wp2_with fail
        have hlo1 : 1 ≤ A := by omega
        have HMM := Lib.hid (show ∃ M, (if L < C then L else C) = M ∧ M ≤ L ∧ M ≤ C ∧ (M = L ∨ M = C) from ⟨_, rfl, by split <;> omega, by split <;> omega, by split <;> simp⟩)
        obtain ⟨M, hM, hM1, hM2, hM3⟩ := HMM.out
        have HM3 := Lib.hid hM3; clear hM3
        have HSB := Lib.hid (show ∀ i : Nat, hasSp (x1, x2) L i = (decide (A ≤ (i : Int)) && decide ((i : Int) ≤ C)) from fun i => hasSp_of i rfl rfl (show min (bnd x1 L) (bnd x2 L) = A by rw [HA.out, HC.out]; omega) (show max (bnd x1 L) (bnd x2 L) = C by rw [HA.out, HC.out]; omega))
        go_wp2_with fail
        go_loopg [11] (L + 1 - A).toNat (fun k nv wq => ∃ n : Int, A ≤ n ∧ (n ≤ M + 1 ∨ n = A) ∧ k = (L + 1 - n).toNat ∧ nv = .int .i64 n ∧ Marks wq w1.heap.size (fun i => mk xs L j i || (decide (A ≤ (i : Int)) && decide ((i : Int) < n))) ∧ Below w1.heap.size w1 wq)
        case atStart => exact ⟨A, by omega, .inr rfl, rfl, rfl, HMK3.out.congr (fun i _ => by rw [show (decide (A ≤ (i : Int)) && decide ((i : Int) < A)) = false by simp, Bool.or_false]), HBW3.out⟩
        case round =>
          obtain ⟨n, hn1, hn2, hk2, rfl, hmk, hbq⟩ := hrel
          have HK2 := Lib.hid hk2; clear hk2
          have HN2 := Lib.hid hn2; clear hn2
          have HBQ := Lib.hid hbq; clear hbq
          have HMQ := Lib.hid hmk; clear hmk
          by_cases hgo : n ≤ M
          · obtain ⟨q, rfl⟩ := Int.eq_ofNat_of_zero_le (show 0 ≤ n by omega)
            have hq : q < 100 := by omega
            have hq2 : (q : Int) < 100 := by omega
            have c0 := HMQ.out.cell q hq
            have f0 := HMQ.out.free q
            go_wp2_with fail
            go_roundg (L + 1 - ((q : Int) + 1)).toNat
            case measure => rw [HK2.out]; omega
            case rel => exact ⟨(q : Int) + 1, by omega, .inl (by omega), rfl, by go_num, HMQ.out.set q hq (fun i _ => by rw [Bool.or_assoc]; congr 1; rw [Bool.eq_iff_iff]; simp; omega), HBQ.out.setCell (p := ⟨w1.heap.size, q, none⟩) (Nat.le_refl _) _⟩
          · have HMN := Lib.hid (HMQ.out.congr (f' := mk xs L (j + 1)) (fun i _ => by
              rw [mk_succ xs L j hlt, HXJ.out, HSB.out i]
              congr 1
              rw [Bool.eq_iff_iff]
              simp
              have h2 := HN2.out
              have h3 := HM3.out
              omega))
            go_wp2_with fail
            go_roundg (xs.length - (j + 1))
            case measure => rw [HK.out]; omega
            case rel => exact ⟨j + 1, by omega, rfl, by go_num, HMN.out, HBQ.out⟩
    · obtain rfl : j = xs.length := by omega
      obtain ⟨cs, t, hcs, hcz, hcc⟩ := HMK.out
      have HCS := Lib.hid hcs; clear hcs
      have HCC := Lib.hid hcc; clear hcc
      have HINF := Lib.hid (show (Try.prog.info? 58).map (·.size) = some cs.size by rw [hcz]; kernel_rfl)
      have HCZ := Lib.hid hcz; clear hcz
      have HOW := Lib.hid (HO1.out.kept (grown_of_below HBW.out) (ownBlock_ne _))
      have HBB := Lib.hid (HB1.out.trans (HBW.out.mono (by omega)))
      generalize hp : (fun z : Int => mk xs L xs.length z.toNat) = p at HNU
      have HP := Lib.hid (show ∀ n : Nat, mk xs L xs.length n = p n from fun n => by rw [← hp]; simp); clear hp
      go_wp2_with (with_reducible refine wpList_load_row rfl 58 (.tmp 6) rfl w1.heap.size rfl t cs (0, 0) _ HCS.out Try.underlying58 rfl HINF.out ?_)
      go_loopg [5, 56] 100 (fun k v iv wq => ∃ n : Nat, n ≤ 100 ∧ k = 100 - n ∧ iv = .int .i64 n ∧ wq.ownsRow w.heap.size 3 1 v ((upFrom 0 n).filter p).length (((upFrom 0 n).filter p).map (Value.int .i64)) ∧ Below w.heap.size w wq)
      case atStart => exact ⟨0, by omega, rfl, rfl, HOW.out, HBB.out⟩
      case round =>
        obtain ⟨n, hn, hk, rfl, hown, hbq⟩ := hrel
        have HK3 := Lib.hid hk; clear hk
        have HOQ := Lib.hid hown; clear hown
        have hzq := hbq.size
        have HBQ := Lib.hid hbq; clear hbq
        have hul : ((upFrom 0 n).filter p).length ≤ n := Nat.le_trans (List.length_filter_le _ _) (by rw [upFrom_length]; exact Nat.le_refl _)
        by_cases hgo : n < 100
        · have hgi : (n : Int) < 100 := by omega
          have HUF := Lib.hid (show (upFrom 0 (n + 1)).filter p = (upFrom 0 n).filter p ++ (if p n then [(n : Int)] else []) by
            rw [upFrom_succ, List.filter_append, Int.zero_add, List.filter_cons, List.filter_nil])
          have hix := index_marks cs HCZ.out n hgo (p n) (by rw [← HP.out n]; exact HCC.out n hgo)
          cases hpn : p n
          · rw [hpn] at hix
            have HPN := Lib.hid hpn; clear hpn
            go_wp2_with fail
            go_roundg (100 - (n + 1))
            case measure => rw [HK3.out]; omega
            case rel => exact ⟨n + 1, by omega, rfl, by go_num, by rw [HUF.out, HPN.out]; simpa using HOQ.out, HBQ.out⟩
          · rw [hpn] at hix
            have HPN := Lib.hid hpn; clear hpn
            go_wp2_with (at_builtin; refine wpList_append_own _ rfl _ _ 36 rfl w.heap.size 3 i0 (.int .i64 0) 1 8 Try.underlying36 hi0 hz0 hz1 hz2 rfl (by decide) _ _ _ rfl (HOQ.out.alloc _) ⟨wr.heap.size, 0, none⟩ 1 1 [.int .i64 (n : Int)] rfl rfl (cell_one_new _ _ _) (by simp [Value.oneCell']) (by unfold maxLen; omega) (by omega) (by simp; omega) ?_; intro v' w5 hown' hgrow _)
            have HO' := Lib.hid hown'; clear hown'
            have HG := Lib.hid ((HBQ.out.alloc hzq _).grown hgrow (by simp; omega) (fun k e => (HOQ.out.lt k e).1)); clear hgrow
            go_wp2_with fail
            go_roundg (100 - (n + 1))
            case measure => rw [HK3.out]; omega
            case rel => exact ⟨n + 1, by omega, rfl, by go_num, by rw [HUF.out, HPN.out]; simpa using HO'.out, HG.out⟩
        · obtain rfl : n = 100 := by omega
          obtain rfl : (upFrom 0 100).filter p = R := HNU.out
          go_wp2_with fail
          go_ret
          exact ⟨_, rfl, HOQ.out, HBQ.out⟩

set_option maxHeartbeats 1000000 in
theorem implSN_no (v : Value) (xs : List Sp) (last : Int) (w : World) (hv : SpansAt w v xs) (h : setV xs = false ∨ last < 1) :
    Calls Try.prog 24 #[v, .int .i64 last] w (GaveInts [] w) := by
  have HV := Lib.hid (hv.alloc (.cells #[] 3)); clear hv
  have HO := Lib.hid (World.ownsRow_lit (base := w.heap.size) (e := 3) (size := 1) w #[] 0 (Nat.le_refl _) (Nat.zero_le _) rfl)
  have HB := Lib.hid ((Below.refl w.heap.size w).alloc (Nat.le_refl _) (.cells #[] 3))
  cases hs : setV xs
  · have HS := Lib.hid hs; clear hs h
    go_enter Try.func24, Try.ntmps24
    go_wp2_with fail
    refine (implSV_any v xs _ HV.out).mono ?_
    rw [HS.out]
    rintro e w1 ⟨rfl, hb1⟩
    have HO1 := Lib.hid (HO.out.kept (grown_of_below hb1) (ownBlock_ne _))
    have HB1 := Lib.hid (HB.out.trans (hb1.mono (by simp))); clear hb1
    go_wp2_with fail
    go_ret
    exact ⟨_, rfl, HO1.out, HB1.out⟩
  · have hl : last < 1 := h.resolve_left (by simp [hs])
    have HS := Lib.hid hs; clear hs h
    go_enter Try.func24, Try.ntmps24
    go_wp2_with fail
    refine (implSV_any v xs _ HV.out).mono ?_
    rw [HS.out]
    rintro e w1 ⟨rfl, hb1⟩
    have HO1 := Lib.hid (HO.out.kept (grown_of_below hb1) (ownBlock_ne _))
    have HB1 := Lib.hid (HB.out.trans (hb1.mono (by simp))); clear hb1
    go_wp2_with fail
    go_ret
    exact ⟨_, rfl, HO1.out, HB1.out⟩
theorem implSN_any (v : Value) (xs : List Sp) (last : Int) (w : World) (hv : SpansAt w v xs) :
    Calls Try.prog 24 #[v, .int .i64 last] w (GaveInts (numsL xs last) w) := by
  by_cases h : setV xs = false ∨ last < 1
  · rw [numsL_no h]; exact implSN_no v xs last w hv h
  · exact implSN_yes v xs last w hv (by cases hs : setV xs with | false => exact absurd (.inl hs) h | true => rfl) (by omega)

end Go.Proofs.Ythabmjadfomnkaa
