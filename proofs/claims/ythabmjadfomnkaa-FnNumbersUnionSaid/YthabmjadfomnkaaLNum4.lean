/- The walk of the law FnNumbersUnion. -/
import Derived.Test.YthabmjadfomnkaaLNum2
namespace Go.Proofs.Ythabmjadfomnkaa
open Go.RowKit
set_option linter.unusedVariables false

theorem upFrom_split (a : Int) (m n : Nat) : upFrom a (m + n) = upFrom a m ++ upFrom (a + m) n := by
  induction m generalizing a with
  | zero => simp [upFrom]
  | succ m ih =>
    rw [show m + 1 + n = (m + n) + 1 by omega]
    simp only [upFrom, List.cons_append]
    rw [ih, show a + 1 + (m : Int) = a + ((m + 1 : Nat) : Int) by push_cast; omega]
theorem nums_count (xs : List Sp) (last : Int) : (upFrom 1 99).filter (fun n => decide (n ∈ numsL xs last)) = numsL xs last := by
  by_cases h : setV xs = true ∧ 1 ≤ last
  · obtain ⟨hv, h1⟩ := h
    have hL1 : 1 ≤ lastN last := by unfold lastN; omega
    have hL9 : lastN last ≤ 99 := by unfold lastN; omega
    have hm := fun n => numsL_mem xs last n
    have hlast : ∀ n, n ≤ last ∧ n ≤ 99 ↔ n ≤ lastN last := fun n => by unfold lastN; omega
    have e : numsL xs last = (upFrom 1 (lastN last).toNat).filter (hasN xs (lastN last)) := numsL_yes hv h1
    generalize lastN last = L at *
    conv => lhs; rw [show (99 : Nat) = L.toNat + (99 - L.toNat) by omega, upFrom_split, List.filter_append]
    have e2 : (upFrom (1 + (L.toNat : Int)) (99 - L.toNat)).filter (fun n => decide (n ∈ numsL xs last)) = [] := by
      rw [List.filter_eq_nil_iff]
      intro n hn
      have h2 := (upFrom_mem _ _ n).1 hn
      rw [decide_eq_true_iff, hm]
      rintro ⟨_, _, a, b, _⟩
      have := (hlast n).1 ⟨a, b⟩
      omega
    rw [e2, List.append_nil]
    conv => rhs; rw [e]
    apply List.filter_congr
    intro n hn
    have h2 := (upFrom_mem _ _ n).1 hn
    have h3 := (hlast n).2 (by omega)
    rw [Bool.eq_iff_iff, decide_eq_true_iff, hm]
    constructor
    · rintro ⟨_, _, _, _, h⟩; exact h
    · intro h; exact ⟨hv, h2.1, h3.1, h3.2, h⟩
  · have : numsL xs last = [] := by
      refine numsL_no ?_
      by_cases hv : setV xs = true
      · refine .inr ?_
        by_cases h1 : 1 ≤ last
        · exact absurd ⟨hv, h1⟩ h
        · omega
      · exact .inl (by simpa using hv)
    rw [this]
    simp

theorem mem_drop (ns : List Int) (j : Nat) (h : j < ns.length) (n : Int) : decide (n ∈ ns.drop j) = (decide (n = ns[j]) || decide (n ∈ ns.drop (j + 1))) := by
  rw [Bool.eq_iff_iff, Bool.or_eq_true, decide_eq_true_iff, decide_eq_true_iff, decide_eq_true_iff, List.drop_eq_getElem_cons h, List.mem_cons]
set_option maxHeartbeats 1000000 in
theorem hasInt_any (v : Value) (ns : List Int) (n : Int) (w : World) (hv : IntsAt w v ns) :
    Calls Try.prog 28 #[v, .int .i64 n] w fun e w' => e = .returned (.bool (decide (n ∈ ns))) ∧ w = w' := by
  obtain ⟨a, cap, rfl, hlc, hcm, hrow⟩ := hv
  unfold maxLen at hcm
  have HROW := Lib.hid hrow; clear hrow
  generalize hB : decide (n ∈ ns) = B
  have HB := Lib.hid hB; clear hB
  go_enter Try.func28, Try.ntmps28
  go_wp2_with fail
  go_loopg [5] ns.length (fun k iv wr => ∃ j : Nat, j ≤ ns.length ∧ k = ns.length - j ∧ iv = .int .i64 j ∧ decide (n ∈ ns.drop j) = B ∧ w = wr)
  case atStart => exact ⟨0, Nat.zero_le _, rfl, rfl, HB.out, rfl⟩
  case round =>
    obtain ⟨j, hj, hk, rfl, hd, rfl⟩ := hrel
    have HK := Lib.hid hk; clear hk
    have HD := Lib.hid hd; clear hd
    by_cases hlt : j < ns.length
    · have hi : (j : Int) < (ns.length : Int) := by omega
      have hne : ns ≠ [] := by rintro rfl; simp at hlt
      obtain ⟨g, rfl, hg, hcell⟩ := HROW.out.resolve_left hne
      clear hne
      have c0 := hcell j hlt
      clear hcell
      have HDC := Lib.hid (mem_drop ns j hlt n)
      generalize ns[j] = x at c0 HDC
      by_cases hx : n = x
      · have hx' : (x == n) = true := by simp [hx]
        obtain rfl : B = true := by rw [← HD.out, HDC.out, decide_eq_true hx]; rfl
        clear hx
        go_wp2_with fail
        go_ret
        exact ⟨rfl, rfl⟩
      · have hx' : (x == n) = false := by rw [beq_eq_false_iff_ne]; exact fun e => hx e.symm
        have HE := Lib.hid (show decide (n ∈ ns.drop (j + 1)) = B by rw [← HD.out, HDC.out, decide_eq_false hx]; rfl)
        clear hx
        go_wp2_with fail
        go_roundg (ns.length - (j + 1))
        case measure => rw [HK.out]; omega
        case rel => exact ⟨j + 1, by omega, rfl, by go_num, HE.out, rfl⟩
    · obtain rfl : j = ns.length := by omega
      have hi : ¬ (ns.length : Int) < (ns.length : Int) := by omega
      obtain rfl : B = false := by rw [← HD.out, List.drop_length]; rfl
      go_wp2_with fail
      go_ret
      exact ⟨rfl, rfl⟩
/-- Is a number in one of these spans' numbers? -/
def inAny (xs : List Sp) (last n : Int) : Bool := xs.any fun x => decide (n ∈ numsL [x] last)
theorem inAny_snoc (xs : List Sp) (j : Nat) (h : j < xs.length) (last n : Int) : inAny (xs.take (j + 1)) last n = (inAny (xs.take j) last n || decide (n ∈ numsL [xs[j]] last)) := by
  unfold inAny; rw [List.take_succ_eq_append_getElem h, List.any_append]; simp
theorem inAny_all (xs : List Sp) (last n : Int) (hv : setV xs = true) : inAny xs last n = decide (n ∈ numsL xs last) := by
  rw [Bool.eq_iff_iff, decide_eq_true_iff, nums_union xs last n hv]
  unfold inAny
  rw [List.any_eq_true]
  simp

set_option maxHeartbeats 4000000 in
theorem numbersUnion_walk (a : Option Addr) (len cap : Nat) (zs : List Int) (w : World) (h : IsRow w a len cap zs) :
    Calls Try.prog 12 #[.slice a len cap] w fun e w' => e = .returned (.bool true) ∧ Below w.heap.size w w' := by
  obtain ⟨i0, hi0, hz0, hz1, hz2⟩ := info_parts infoSpan
  by_cases hb : (1048576 : Int) < (len : Int)
  · go_enter Try.func12, Try.ntmps12
    go_wp2_with fail
    go_ret
    exact ⟨rfl, Below.refl _ _⟩
  have H := Lib.hid h; clear h
  go_enter Try.func12, Try.ntmps12
  go_wp2_with fail
  refine (drawSetNumbers_any a len cap zs _ H.out).mono ?_
  rintro e w1 ⟨v, xs, last, hxs, hl1, hl2, rfl, hv, hb1⟩
  have HXS := Lib.hid hxs; clear hxs
  have HV1 := Lib.hid hv; clear hv
  have HB1 := Lib.hid hb1; clear hb1
  have hs1 := HB1.out.size
  go_wp2_with fail
  refine (implSN_any v xs last _ HV1.out).mono ?_
  rintro e w2 ⟨vo, rfl, ho2, hb2⟩
  have HV2 := Lib.hid (HV1.out.below hb2)
  have HI2 := Lib.hid (intsAt_of ho2); clear ho2
  have HB2 := Lib.hid (HB1.out.trans (hb2.mono hs1)); clear hb2
  have hs2 := HB2.out.size
  go_wp2_with fail
  refine (specSN_any v xs last _ HV2.out).mono ?_
  rintro e w3 ⟨vw, rfl, ho3, hb3⟩
  have HV3 := Lib.hid (HV2.out.below hb3)
  have HI3 := Lib.hid (HI2.out.below hb3)
  have HJ3 := Lib.hid (intsAt_of ho3); clear ho3
  have HB3 := Lib.hid (HB2.out.trans (hb3.mono hs2)); clear hb3
  have hs3 := HB3.out.size
  go_wp2_with fail
  refine (sameInts_any vo vw _ _ HI3.out HJ3.out).mono ?_
  rintro e w4 ⟨rfl, hb4⟩
  have HV4 := Lib.hid (HV3.out.below hb4)
  have HI4 := Lib.hid (HI3.out.below hb4)
  have HJ4 := Lib.hid (HJ3.out.below hb4)
  have HB4 := Lib.hid (HB3.out.trans (hb4.mono hs3)); clear hb4
  have hs4 := HB4.out.size
  cases hsv : setV xs
  · have HS := Lib.hid hsv; clear hsv
    go_wp2_with fail
    refine (specSV_any v xs _ HV4.out).mono ?_
    rw [HS.out]
    rintro e w5 ⟨rfl, rfl⟩
    go_wp2_with fail
    refine (sameInts_any vo vw _ _ HI4.out HJ4.out).mono ?_
    rintro e w6 ⟨rfl, hb6⟩
    have HB6 := Lib.hid (HB4.out.trans (hb6.mono hs4)); clear hb6
    go_wp2_with fail
    go_ret
    exact ⟨rfl, HB6.out⟩
  have HS := Lib.hid hsv; clear hsv
  obtain ⟨av, capv, rfl, hlc, hcm, hrow⟩ := id HV4.out
  have hl1' := (setV_ok HS.out).2.1
  have h8 := HXS.out.1
  obtain ⟨g, off, rfl, hg, hcell⟩ := hrow.resolve_left (by rintro rfl; simp at hl1')
  clear hrow
  have HCELL := Lib.hid hcell; clear hcell
  unfold maxLen at hcm
  have HCNT := Lib.hid (nums_count xs last)
  have HALL := Lib.hid (fun n => inAny_all xs last n HS.out)
  have hn99 := numsL_len xs last
  generalize numsL xs last = ns at *
  obtain ⟨ao, capo, rfl, hlo, hco, _⟩ := id HI4.out
  go_wp2_with fail
  refine (specSV_any _ xs _ HV4.out).mono ?_
  rw [HS.out]
  rintro e w5 ⟨rfl, rfl⟩
  go_wp2_with fail
  go_loopg [7, 8] 99 (fun k mv nv wr => ∃ j : Nat, j ≤ 99 ∧ k = 99 - j ∧ nv = .int .i64 ((j : Int) + 1) ∧ mv = .int .i64 (((upFrom 1 j).filter (fun n => decide (n ∈ ns))).length : Int) ∧ Below w4.heap.size w4 wr)
  case atStart => exact ⟨0, by omega, rfl, rfl, rfl, Below.refl _ _⟩
  case round =>
    obtain ⟨j, hj, hk, rfl, rfl, hbw⟩ := hrel
    have HK := Lib.hid hk; clear hk
    have hzw := hbw.size
    have HBW := Lib.hid hbw; clear hbw
    have hcl : ((upFrom 1 j).filter (fun n => decide (n ∈ ns))).length ≤ j := upf_len _ j
    have HUF := Lib.hid (upf_filter (fun n => decide (n ∈ ns)) j)
    generalize hcn : ((upFrom 1 j).filter (fun n => decide (n ∈ ns))).length = C at *
    have HCN := Lib.hid hcn; clear hcn
    by_cases hlt : j < 99
    · have hle : (j : Int) + 1 ≤ 99 := by omega
      obtain ⟨wo, rfl⟩ : ∃ wo : World, wo = wr := ⟨_, rfl⟩
      go_wp2_with fail
      go_loopg [9, 10] xs.length (fun k sv iv wq => ∃ i : Nat, i ≤ xs.length ∧ k = xs.length - i ∧ iv = .int .i64 i ∧ sv = .bool (inAny (xs.take i) last ((j : Int) + 1)) ∧ Below w4.heap.size w4 wq)
      case atStart => exact ⟨0, by omega, rfl, rfl, rfl, HBW.out⟩
      case round =>
        obtain ⟨i, hi, hk2, rfl, rfl, hbq⟩ := hrel
        have HK2 := Lib.hid hk2; clear hk2
        have hzq := hbq.size
        have HBQ := Lib.hid hbq; clear hbq
        by_cases hgo : i < xs.length
        · have hii : (i : Int) < (xs.length : Int) := by omega
          have HSN := Lib.hid (inAny_snoc xs i hgo last ((j : Int) + 1))
          have hva : SpansAt wr (.slice (some ⟨g, off + i * 2, none⟩) 1 (capv - i)) [xs[i]] := by
            refine ⟨_, capv - i, rfl, by simp; omega, by unfold maxLen; omega, .inr ⟨g, off + i * 2, rfl, by omega, fun q hq => ?_⟩⟩
            simp only [List.length_cons, List.length_nil] at hq
            obtain rfl : q = 0 := by omega
            exact ⟨(HBQ.out.cell (p := ⟨g, _, none⟩) hg).trans (HCELL.out i hgo).1, (HBQ.out.cell (p := ⟨g, _, none⟩) hg).trans (HCELL.out i hgo).2⟩
          have HVA := Lib.hid hva; clear hva
          generalize xs[i] = x at HSN HVA
          cases hso : inAny (xs.take i) last ((j : Int) + 1)
          · have HSO := Lib.hid hso; clear hso
            go_wp2_with fail
            refine (implSN_any _ _ last _ HVA.out).mono ?_
            rintro e w6 ⟨v6, rfl, ho6, hb6⟩
            have HI6 := Lib.hid (intsAt_of ho6); clear ho6
            have HB6 := Lib.hid (HBQ.out.trans (hb6.mono hzq)); clear hb6
            go_wp2_with fail
            refine (hasInt_any v6 _ ((j : Int) + 1) _ HI6.out).mono ?_
            rintro e w7 ⟨rfl, rfl⟩
            go_wp2_with fail
            go_roundg (xs.length - (i + 1))
            case measure => rw [HK2.out]; omega
            case rel => exact ⟨i + 1, by omega, rfl, by go_num, by rw [HSN.out, HSO.out]; rfl, HB6.out⟩
          · have HSO := Lib.hid hso; clear hso
            go_wp2_with fail
            go_roundg (xs.length - (i + 1))
            case measure => rw [HK2.out]; omega
            case rel => exact ⟨i + 1, by omega, rfl, by go_num, by rw [HSN.out, HSO.out]; rfl, HBQ.out⟩
        · obtain rfl : i = xs.length := by omega
          have hii : ¬ (xs.length : Int) < (xs.length : Int) := by omega
          rw [List.take_length, HALL.out]
          have HIQ := Lib.hid (HI4.out.below HBQ.out)
          cases hmem : decide ((j : Int) + 1 ∈ ns)
          · have HM := Lib.hid hmem; clear hmem
            go_wp2_with fail
            refine (hasInt_any _ ns ((j : Int) + 1) _ HIQ.out).mono ?_
            rw [HM.out]
            rintro e w7 ⟨rfl, rfl⟩
            go_wp2_with fail
            go_roundg (99 - (j + 1))
            case measure => rw [HK.out]; omega
            case rel => exact ⟨j + 1, by omega, rfl, by go_num, by rw [HUF.out, HM.out, ← HCN.out]; simp, HBQ.out⟩
          · have HM := Lib.hid hmem; clear hmem
            go_wp2_with fail
            refine (hasInt_any _ ns ((j : Int) + 1) _ HIQ.out).mono ?_
            rw [HM.out]
            rintro e w7 ⟨rfl, rfl⟩
            go_wp2_with fail
            go_roundg (99 - (j + 1))
            case measure => rw [HK.out]; omega
            case rel => exact ⟨j + 1, by omega, rfl, by go_num, by rw [HUF.out, HM.out, ← HCN.out]; simp, HBQ.out⟩
    · obtain rfl : j = 99 := by omega
      have hle : ¬ ((99 : Nat) : Int) + 1 ≤ 99 := by omega
      obtain rfl : C = ns.length := by rw [← HCN.out, HCNT.out]
      go_wp2_with fail
      go_ret
      exact ⟨rfl, HB4.out.trans (HBW.out.mono hs4)⟩

end Go.Proofs.Ythabmjadfomnkaa
