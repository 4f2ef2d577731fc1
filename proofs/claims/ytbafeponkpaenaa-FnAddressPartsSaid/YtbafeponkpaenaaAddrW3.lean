/- Contracts: the reference's AddressParse; PathParse, the program's and the reference's. -/
import Derived.Test.YtbafeponkpaenaaAddrW2
import Derived.Test.YtbafeponkpaenaaPlainAd2
import Derived.RegionTactic
import Derived.ChangeAlike
import Derived.Outline
namespace Go.Proofs.Ytbafeponkpaenaa
open Go.RowKit
set_option linter.unusedVariables false

theorem sz_ad (w : World) (o : Obj) : (w.alloc o).drew.heap.size = w.heap.size + 1 := by show (w.heap.push o).size = _; simp
set_option maxHeartbeats 2000000 in
theorem specAP_any (s : ByteArray) (w : World) (hs : s.size ≤ 1000000000) :
    Calls Try.prog 27 #[.string s] w (ParsePost (addrS s) w) := by
  have hsz := cut_sizes s 64 0 0
  generalize hR : addrS s = R
  have HR := Lib.hid (show (match cut s 64 0 0 with | [u, d] => if nameB u && domB d then some (u, d) else none | _ => none) = R from hR); clear hR
  have HT0 := Lib.hid (Two.new w 29 (.string ⟨#[]⟩) (.string ⟨#[]⟩))
  have HB0 := Lib.hid ((Below.refl w.heap.size w).alloc (Nat.le_refl _) (.cells #[.string ⟨#[]⟩, .string ⟨#[]⟩] 29))
  have HCUT := Lib.hid (cut_any s 64)
  go_enter Try.func27, Try.ntmps27
  go_wp2_with fail
  refine (HCUT.out _ hs).mono ?_
  rintro e w1 ⟨v, rfl, ⟨g, cap, rfl, hlc, hcm, hg, hcell⟩, hb1⟩
  generalize cut s 64 0 0 = xs at *
  have t1 : Two w1 w.heap.size 29 (.string ⟨#[]⟩) (.string ⟨#[]⟩) := (hb1.block w.heap.size (by simp)).trans HT0.out
  have HB1 := Lib.hid (HB0.out.trans (hb1.mono (by simp))); clear hb1
  have hz1 : w.heap.size < w1.heap.size := t1.lt
  have HT1 := Lib.hid t1; clear t1
  have HCELL := Lib.hid hcell; clear hcell
  have HSZ := Lib.hid hsz; clear hsz
  unfold maxLen at hcm
  by_cases h2 : xs.length = 2
  · obtain ⟨u, d, rfl⟩ : ∃ u d, xs = [u, d] := by
      match xs, h2 with
      | [u, d], _ => exact ⟨u, d, rfl⟩
    have hu : u.size ≤ 1000000000 := Nat.le_trans (HSZ.out u (by simp)) hs
    have hd : d.size ≤ 1000000000 := Nat.le_trans (HSZ.out d (by simp)) hs
    have c0 : w1.cell? ⟨g, 0, none⟩ = some (.string u) := HCELL.out 0 (by simp)
    have c1 : w1.cell? ⟨g, 1, none⟩ = some (.string d) := HCELL.out 1 (by simp)
    clear h2
    simp only [List.length_cons, List.length_nil, Nat.zero_add, Nat.reduceAdd] at hlc ⊢
    go_wp2_with fail
    go_region
    go_wp2_with fail
    refine (l1Address_any u d _ hu hd).mono ?_
    rintro e w2 ⟨rfl, hb2⟩
    have tn : Two w2 w1.heap.size 29 (.string u) (.string d) := (hb2.block w1.heap.size (by rw [sz_ad]; omega)).trans (Two.new w1 29 (.string u) (.string d))
    have t2 : Two w2 w.heap.size 29 (.string ⟨#[]⟩) (.string ⟨#[]⟩) := (hb2.block w.heap.size (by rw [sz_ad]; omega)).trans (HT1.out.alloc _)
    have HB2 := Lib.hid ((HB1.out.alloc (by omega) _).trans ((Below.drewN' (Below.refl _ _) 1).trans (hb2.mono (by rw [sz_ad]; omega)))); clear hb2
    have hz2 : w.heap.size < w2.heap.size := t2.lt
    have a0 := t2.c0
    have a1 := t2.c1
    have f0 := t2.f0
    have f1 := t2.f1
    have HT2 := Lib.hid t2; clear t2
    clear c0 c1
    cases hv : nameB u && domB d
    · obtain rfl : R = none := by rw [← HR.out, hv]; rfl
      clear hv
      clear tn
      go_wp2_with fail
      have k := (HT2.out.set0 (.string ⟨#[]⟩)).set1 (.string ⟨#[]⟩)
      exact bodyPost_ret (v := .tuple #[.agg #[.string ⟨#[]⟩, .string ⟨#[]⟩], .bool false]) (by simp [results, Try.results27, go_sem, k.c0, k.c1]) rfl
        ⟨rfl, (HB2.out.setCell (p := ⟨w.heap.size, 0, none⟩) (Nat.le_refl _) _).setCell (p := ⟨w.heap.size, 1, none⟩) (Nat.le_refl _) _⟩
    · obtain rfl : R = some (u, d) := by rw [← HR.out, hv]; rfl
      clear hv
      have n0 := tn.c0
      have n1 := tn.c1
      clear tn
      go_wp2_with fail
      have k := (HT2.out.set0 (.string u)).set1 (.string d)
      exact bodyPost_ret (v := .tuple #[.agg #[.string u, .string d], .bool true]) (by simp [results, Try.results27, go_sem, k.c0, k.c1]) rfl
        ⟨rfl, (HB2.out.setCell (p := ⟨w.heap.size, 0, none⟩) (Nat.le_refl _) _).setCell (p := ⟨w.heap.size, 1, none⟩) (Nat.le_refl _) _⟩
  · have hR : R = none := by
      rw [← HR.out]
      match xs, h2 with
      | [], _ => rfl
      | [_], _ => rfl
      | [_, _], h => exact absurd rfl h
      | _ :: _ :: _ :: _, _ => rfl
    subst hR
    have hne : ((xs.length : Int) != 2) = true := by simp; omega
    have a0 := HT1.out.c0
    have a1 := HT1.out.c1
    have f0 := HT1.out.f0
    have f1 := HT1.out.f1
    clear h2
    go_wp2_with fail
    have k := (HT1.out.set0 (.string ⟨#[]⟩)).set1 (.string ⟨#[]⟩)
    exact bodyPost_ret (v := .tuple #[.agg #[.string ⟨#[]⟩, .string ⟨#[]⟩], .bool false]) (by simp [results, Try.results27, go_sem, k.c0, k.c1]) rfl
      ⟨rfl, (HB1.out.setCell (p := ⟨w.heap.size, 0, none⟩) (Nat.le_refl _) _).setCell (p := ⟨w.heap.size, 1, none⟩) (Nat.le_refl _) _⟩

theorem atB_yes {s : ByteArray} {p : Nat} {c : UInt8} (h : p < s.size) (k : atB s p c = true) : (((s[p]).toNat : Int) != (c.toNat : Int)) = false := by
  rw [atB_iff s p c h, decide_eq_true_iff] at k
  rw [k]; simp
theorem atB_not {s : ByteArray} {p : Nat} {c : UInt8} (h : p < s.size) (k : atB s p c = false) : (((s[p]).toNat : Int) != (c.toNat : Int)) = true := by
  rw [atB_iff s p c h, decide_eq_false_iff_not] at k
  simp; intro e; exact k (UInt8.toNat_inj.1 (by omega))
set_option maxHeartbeats 2000000 in
theorem specPP_any (s : ByteArray) (w : World) (hs : s.size ≤ 1000000000) :
    Calls Try.prog 34 #[.string s] w (ParsePost (pathS s) w) := by
  generalize hR : pathS s = R
  have HR := Lib.hid hR; clear hR
  have HT0 := Lib.hid (Two.new w 29 (.string ⟨#[]⟩) (.string ⟨#[]⟩))
  have HB0 := Lib.hid ((Below.refl w.heap.size w).alloc (Nat.le_refl _) (.cells #[.string ⟨#[]⟩, .string ⟨#[]⟩] 29))
  by_cases h0 : s = ⟨#[60, 62]⟩
  · subst h0
    obtain rfl : R = some (⟨#[]⟩, ⟨#[]⟩) := by rw [← HR.out]; rfl
    have a0 := HT0.out.c0
    have a1 := HT0.out.c1
    have f0 := HT0.out.f0
    have f1 := HT0.out.f1
    go_enter Try.func34, Try.ntmps34
    go_wp2_with fail
    exact bodyPost_ret (v := .tuple #[.agg #[.string ⟨#[]⟩, .string ⟨#[]⟩], .bool true]) (by simp [results, Try.results34, go_sem, HT0.out.c0, HT0.out.c1]) rfl ⟨rfl, HB0.out⟩
  have hL : (s.toList == [60, 62]) = false := by
    rw [beq_eq_false_iff_ne]; intro e; rw [ByteArray.toList_eq] at e; exact h0 (bl_inj (s := s) (t := ⟨#[60, 62]⟩) e)
  have a0 := HT0.out.c0
  have a1 := HT0.out.c1
  have f0 := HT0.out.f0
  have f1 := HT0.out.f1
  have HN0 := Lib.hid h0; clear h0
  by_cases h2 : 2 ≤ s.size
  · have d2 : decide ((s.size : Int) < 2) = false := by simp; omega
    have hp0 : 0 < s.size := by omega
    cases h60 : atB s 0 60
    · obtain rfl : R = none := by rw [← HR.out]; unfold pathS; rw [if_neg HN0.out, h60]; simp
      have e60 : (((s[0]).toNat : Int) != 60) = true := atB_not hp0 h60
      have g60 : ¬ ((s[0]).toNat : Int) = 60 := by simpa using e60
      clear h60
      go_enter Try.func34, Try.ntmps34
      go_wp2_with fail
      exact bodyPost_ret (v := .tuple #[.agg #[.string ⟨#[]⟩, .string ⟨#[]⟩], .bool false]) (by simp [results, Try.results34, go_sem, HT0.out.c0, HT0.out.c1]) rfl ⟨rfl, HB0.out⟩
    have e60 : (((s[0]).toNat : Int) != 60) = false := atB_yes hp0 h60
    have g60 : ((s[0]).toNat : Int) = 60 := by simpa using e60
    have G60 := Lib.hid g60; clear g60
    have hpl : s.size - 1 < s.size := by omega
    cases h62 : atB s (s.size - 1) 62
    · obtain rfl : R = none := by rw [← HR.out]; unfold pathS; rw [if_neg HN0.out, h62]; simp
      have e62 : (((s[s.size - 1]).toNat : Int) != 62) = true := atB_not hpl h62
      clear h60 h62
      go_enter Try.func34, Try.ntmps34
      go_wp2_with fail
      exact bodyPost_ret (v := .tuple #[.agg #[.string ⟨#[]⟩, .string ⟨#[]⟩], .bool false]) (by simp [results, Try.results34, go_sem, HT0.out.c0, HT0.out.c1]) rfl ⟨rfl, HB0.out⟩
    have e62 : (((s[s.size - 1]).toNat : Int) != 62) = false := atB_yes hpl h62
    have HRV := Lib.hid (show R = addrS (s.extract 1 (s.size - 1)) by rw [← HR.out]; unfold pathS; rw [if_neg HN0.out, h60, h62]; simp [h2])
    have hxz : (s.extract 1 (s.size - 1)).size ≤ 1000000000 := by simp; omega
    clear h60 h62
    go_enter Try.func34, Try.ntmps34
    go_wp2_with fail
    refine (specAP_any _ _ hxz).mono ?_
    intro e w1 hp
    cases hd : addrS (s.extract 1 (s.size - 1)) with
    | none =>
      rw [hd] at hp
      obtain ⟨rfl, hb1⟩ := hp
      obtain rfl : R = none := by rw [HRV.out, hd]
      clear hd a0 a1 f0 f1
      have t1 : Two w1 w.heap.size 29 (.string ⟨#[]⟩) (.string ⟨#[]⟩) := (hb1.block w.heap.size (by simp)).trans HT0.out
      have HB1 := Lib.hid (HB0.out.trans (hb1.mono (by simp))); clear hb1
      have a0 := t1.c0
      have a1 := t1.c1
      have f0 := t1.f0
      have f1 := t1.f1
      have HT1 := Lib.hid t1; clear t1
      go_wp2_with fail
      have k := (HT1.out.set0 (.string ⟨#[]⟩)).set1 (.string ⟨#[]⟩)
      exact bodyPost_ret (v := .tuple #[.agg #[.string ⟨#[]⟩, .string ⟨#[]⟩], .bool false]) (by simp [results, Try.results34, go_sem, k.c0, k.c1]) rfl
        ⟨rfl, (HB1.out.setCell (p := ⟨w.heap.size, 0, none⟩) (Nat.le_refl _) _).setCell (p := ⟨w.heap.size, 1, none⟩) (Nat.le_refl _) _⟩
    | some ud =>
      obtain ⟨u, d⟩ := ud
      rw [hd] at hp
      obtain ⟨rfl, hb1⟩ := hp
      obtain rfl : R = some (u, d) := by rw [HRV.out, hd]
      clear hd a0 a1 f0 f1
      have t1 : Two w1 w.heap.size 29 (.string ⟨#[]⟩) (.string ⟨#[]⟩) := (hb1.block w.heap.size (by simp)).trans HT0.out
      have HB1 := Lib.hid (HB0.out.trans (hb1.mono (by simp))); clear hb1
      have a0 := t1.c0
      have a1 := t1.c1
      have f0 := t1.f0
      have f1 := t1.f1
      have HT1 := Lib.hid t1; clear t1
      go_wp2_with fail
      have k := (HT1.out.set0 (.string u)).set1 (.string d)
      exact bodyPost_ret (v := .tuple #[.agg #[.string u, .string d], .bool true]) (by simp [results, Try.results34, go_sem, k.c0, k.c1]) rfl
        ⟨rfl, (HB1.out.setCell (p := ⟨w.heap.size, 0, none⟩) (Nat.le_refl _) _).setCell (p := ⟨w.heap.size, 1, none⟩) (Nat.le_refl _) _⟩
  · obtain rfl : R = none := by rw [← HR.out]; unfold pathS; rw [if_neg HN0.out, decide_eq_false h2]; simp
    have hlt : (s.size : Int) < 2 := by omega
    go_enter Try.func34, Try.ntmps34
    go_wp2_with fail
    exact bodyPost_ret (v := .tuple #[.agg #[.string ⟨#[]⟩, .string ⟨#[]⟩], .bool false]) (by simp [results, Try.results34, go_sem, HT0.out.c0, HT0.out.c1]) rfl ⟨rfl, HB0.out⟩

set_option maxHeartbeats 2000000 in
theorem implPP_any (s : ByteArray) (w : World) (hs : s.size ≤ 1000000000) :
    Calls Try.prog 35 #[.string s] w (ParsePost (pathI s) w) := by
  generalize hR : pathI s = R
  have HR := Lib.hid hR; clear hR
  have HT0 := Lib.hid (Two.new w 29 (.string ⟨#[]⟩) (.string ⟨#[]⟩))
  have HB0 := Lib.hid ((Below.refl w.heap.size w).alloc (Nat.le_refl _) (.cells #[.string ⟨#[]⟩, .string ⟨#[]⟩] 29))
  by_cases h0 : s = ⟨#[60, 62]⟩
  · subst h0
    obtain rfl : R = some (⟨#[]⟩, ⟨#[]⟩) := by rw [← HR.out]; rfl
    have a0 := HT0.out.c0
    have a1 := HT0.out.c1
    have f0 := HT0.out.f0
    have f1 := HT0.out.f1
    go_enter Try.func35, Try.ntmps35
    go_wp2_with fail
    exact bodyPost_ret (v := .tuple #[.agg #[.string ⟨#[]⟩, .string ⟨#[]⟩], .bool true]) (by simp [results, Try.results35, go_sem, HT0.out.c0, HT0.out.c1]) rfl ⟨rfl, HB0.out⟩
  have hL : (s.toList == [60, 62]) = false := by
    rw [beq_eq_false_iff_ne]; intro e; rw [ByteArray.toList_eq] at e; exact h0 (bl_inj (s := s) (t := ⟨#[60, 62]⟩) e)
  have HN0 := Lib.hid h0; clear h0
  have HC0 := Lib.hid (Two.new (w.alloc (.cells #[.string ⟨#[]⟩, .string ⟨#[]⟩] 29)) 41 (.string s) (.int .i64 ((0 : Nat) : Int)))
  have HBC := Lib.hid (HB0.out.alloc (by simp) (.cells #[.string s, .int .i64 ((0 : Nat) : Int)] 41))
  have HTC := Lib.hid (HT0.out.alloc (.cells #[.string s, .int .i64 ((0 : Nat) : Int)] 41))
  cases h60 : atB s 0 60
  · obtain rfl : R = none := by rw [← HR.out]; unfold pathI; rw [if_neg HN0.out, h60]; simp
    have H60 := Lib.hid h60; clear h60
    go_enter Try.func35, Try.ntmps35
    go_wp2_with fail
    have hc := HC0.out
    rw [World.size_alloc] at hc
    refine (take_no (w.heap.size + 1) s 0 60 _ hs (Nat.zero_le _) H60.out hc).mono ?_
    clear hc
    rintro e w1 ⟨rfl, hk1, _⟩
    have HT1 := Lib.hid (HTC.out.kept hk1 (by simp))
    have HB1 := Lib.hid (HBC.out.trans (hk1.below (by omega) (by simp; omega))); clear hk1
    have a0 := HT1.out.c0
    have a1 := HT1.out.c1
    have f0 := HT1.out.f0
    have f1 := HT1.out.f1
    go_wp2_with fail
    have k := (HT1.out.set0 (.string ⟨#[]⟩)).set1 (.string ⟨#[]⟩)
    exact bodyPost_ret (v := .tuple #[.agg #[.string ⟨#[]⟩, .string ⟨#[]⟩], .bool false]) (by simp [results, Try.results35, go_sem, k.c0, k.c1]) rfl
      ⟨rfl, (HB1.out.setCell (p := ⟨w.heap.size, 0, none⟩) (Nat.le_refl _) _).setCell (p := ⟨w.heap.size, 1, none⟩) (Nat.le_refl _) _⟩
  have h1 : 1 ≤ s.size := atB_lt h60
  have HRV := Lib.hid (show R = (match addrP s 1 with
    | none => none
    | some (m, q) => if atB s q 62 && decide (q + 1 = s.size) then some (s.extract 1 m, s.extract (m + 1) q) else none) by rw [← HR.out]; unfold pathI; rw [if_neg HN0.out, h60]; rfl)
  have H60 := Lib.hid h60; clear h60
  go_enter Try.func35, Try.ntmps35
  go_wp2_with fail
  have hc := HC0.out
  rw [World.size_alloc] at hc
  refine (take_is (w.heap.size + 1) s 0 60 _ hs H60.out hc).mono ?_
  clear hc
  rintro e w1 ⟨rfl, hk1, ht1⟩
  have HT1 := Lib.hid (HTC.out.kept hk1 (by simp))
  have HB1 := Lib.hid (HBC.out.trans (hk1.below (by omega) (by simp; omega))); clear hk1
  have HCU := Lib.hid ht1; clear ht1
  go_wp2_with fail
  refine (address_any (w.heap.size + 1) s 1 _ hs h1 HCU.out).mono ?_
  intro e w2 hpost
  cases hd : addrP s 1 with
  | none =>
    rw [hd] at hpost
    obtain ⟨rfl, hk⟩ := hpost
    obtain rfl : R = none := by rw [HRV.out, hd]
    clear hd
    have HT2 := Lib.hid (HT1.out.kept hk (by simp))
    have hz1 : w.heap.size < w1.heap.size := HT1.out.lt
    have HB2 := Lib.hid (HB1.out.trans (hk.below (by omega) (by omega))); clear hk
    have hz2 : w.heap.size < w2.heap.size := HT2.out.lt
    have a0 := HT2.out.c0
    have a1 := HT2.out.c1
    have f0 := HT2.out.f0
    have f1 := HT2.out.f1
    go_wp2_with fail
    have k := ((HT2.out.set0 (.string ⟨#[]⟩)).set1 (.string ⟨#[]⟩)).alloc (.cells #[.string ⟨#[]⟩, .string ⟨#[]⟩] 29)
    exact bodyPost_ret (v := .tuple #[.agg #[.string ⟨#[]⟩, .string ⟨#[]⟩], .bool false]) (by simp [results, Try.results35, go_sem, k.c0, k.c1]) rfl
      ⟨rfl, ((HB2.out.setCell (p := ⟨w.heap.size, 0, none⟩) (Nat.le_refl _) _).setCell (p := ⟨w.heap.size, 1, none⟩) (Nat.le_refl _) _).alloc (by simp; omega) _⟩
  | some mq =>
    obtain ⟨m, q⟩ := mq
    rw [hd] at hpost
    obtain ⟨rfl, hk, hqs, ht⟩ := hpost
    have HRW := Lib.hid (show R = if atB s q 62 && decide (q + 1 = s.size) then some (s.extract 1 m, s.extract (m + 1) q) else none by rw [HRV.out, hd])
    clear hd
    have HT2 := Lib.hid (HT1.out.kept hk (by simp))
    have hz1 : w.heap.size < w1.heap.size := HT1.out.lt
    have HB2 := Lib.hid (HB1.out.trans (hk.below (by omega) (by omega))); clear hk
    have hz2 : w.heap.size < w2.heap.size := HT2.out.lt
    have hz3 : w.heap.size + 1 < w2.heap.size := ht.lt
    have HCV := Lib.hid ht; clear ht
    generalize s.extract 1 m = u at *
    generalize s.extract (m + 1) q = d at *
    have HTA := Lib.hid (HT2.out.alloc (.cells #[.string u, .string d] 29))
    have HBA := Lib.hid (HB2.out.alloc (by omega) (.cells #[.string u, .string d] 29))
    have HNA := Lib.hid (Two.new w2 29 (.string u) (.string d))
    cases h62 : atB s q 62
    · obtain rfl : R = none := by rw [HRW.out, h62]; rfl
      have H62 := Lib.hid h62; clear h62
      go_wp2_with fail
      refine (take_no (w.heap.size + 1) s q 62 _ hs hqs H62.out (HCV.out.alloc _)).mono ?_
      rintro e w3 ⟨rfl, hk3, _⟩
      have HT3 := Lib.hid (HTA.out.kept hk3 (by simp))
      have HB3 := Lib.hid (HBA.out.trans (hk3.below (by omega) (by simp; omega))); clear hk3
      have a0 := HT3.out.c0
      have a1 := HT3.out.c1
      have f0 := HT3.out.f0
      have f1 := HT3.out.f1
      go_wp2_with fail
      have k := (HT3.out.set0 (.string ⟨#[]⟩)).set1 (.string ⟨#[]⟩)
      exact bodyPost_ret (v := .tuple #[.agg #[.string ⟨#[]⟩, .string ⟨#[]⟩], .bool false]) (by simp [results, Try.results35, go_sem, k.c0, k.c1]) rfl
        ⟨rfl, (HB3.out.setCell (p := ⟨w.heap.size, 0, none⟩) (Nat.le_refl _) _).setCell (p := ⟨w.heap.size, 1, none⟩) (Nat.le_refl _) _⟩
    have hq1 : q + 1 ≤ s.size := atB_lt h62
    have HRX := Lib.hid (show R = if decide (q + 1 = s.size) then some (u, d) else none by rw [HRW.out, h62, Bool.true_and])
    have H62 := Lib.hid h62; clear h62
    go_wp2_with fail
    refine (take_is (w.heap.size + 1) s q 62 _ hs H62.out (HCV.out.alloc _)).mono ?_
    rintro e w3 ⟨rfl, hk3, ht3⟩
    have HT3 := Lib.hid (HTA.out.kept hk3 (by simp))
    have HN3 := Lib.hid (HNA.out.kept hk3 (by omega))
    have HB3 := Lib.hid (HBA.out.trans (hk3.below (by omega) (by simp; omega))); clear hk3
    have HC3 := Lib.hid ht3; clear ht3
    go_wp2_with fail
    refine (done_any (w.heap.size + 1) s (q + 1) _ hs hq1 HC3.out.c0 HC3.out.c1).mono ?_
    rintro e w4 ⟨rfl, n, rfl⟩
    have a0 := (HT3.out.drewN n).c0
    have a1 := (HT3.out.drewN n).c1
    have f0 := (HT3.out.drewN n).f0
    have f1 := (HT3.out.drewN n).f1
    by_cases hq : q + 1 = s.size
    · have dq := Lib.hid (decide_eq_true hq)
      obtain rfl : R = some (u, d) := by rw [HRX.out, dq.out]; rfl
      rw [dq.out]
      clear hq
      have n0 := (HN3.out.drewN n).c0
      have n1 := (HN3.out.drewN n).c1
      go_wp2_with fail
      have k := ((HT3.out.drewN n).set0 (.string u)).set1 (.string d)
      exact bodyPost_ret (v := .tuple #[.agg #[.string u, .string d], .bool true]) (by simp [results, Try.results35, go_sem, k.c0, k.c1]) rfl
        ⟨rfl, ((Below.drewN' HB3.out n).setCell (p := ⟨w.heap.size, 0, none⟩) (Nat.le_refl _) _).setCell (p := ⟨w.heap.size, 1, none⟩) (Nat.le_refl _) _⟩
    · have dq := Lib.hid (decide_eq_false hq)
      obtain rfl : R = none := by rw [HRX.out, dq.out]; rfl
      rw [dq.out]
      clear hq
      go_wp2_with fail
      have k := ((HT3.out.drewN n).set0 (.string ⟨#[]⟩)).set1 (.string ⟨#[]⟩)
      exact bodyPost_ret (v := .tuple #[.agg #[.string ⟨#[]⟩, .string ⟨#[]⟩], .bool false]) (by simp [results, Try.results35, go_sem, k.c0, k.c1]) rfl
        ⟨rfl, ((Below.drewN' HB3.out n).setCell (p := ⟨w.heap.size, 0, none⟩) (Nat.le_refl _) _).setCell (p := ⟨w.heap.size, 1, none⟩) (Nat.le_refl _) _⟩

end Go.Proofs.Ytbafeponkpaenaa
