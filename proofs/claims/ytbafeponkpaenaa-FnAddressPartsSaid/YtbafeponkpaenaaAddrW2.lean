/- Contracts: AddressParse, AddressText, the program's and the reference's. -/
import Derived.Test.YtbafeponkpaenaaAddrW
namespace Go.Proofs.Ytbafeponkpaenaa
open Go.RowKit
set_option linter.unusedVariables false

/-- What a parser of addresses hands back. -/
def ParsePost (r : Option (ByteArray × ByteArray)) (w : World) (e : Ending) (w' : World) : Prop :=
  match r with
  | none => e = .returned (.tuple #[.agg #[.string ⟨#[]⟩, .string ⟨#[]⟩], .bool false]) ∧ Below w.heap.size w w'
  | some x => e = .returned (.tuple #[.agg #[.string x.1, .string x.2], .bool true]) ∧ Below w.heap.size w w'

set_option maxHeartbeats 2000000 in
theorem implAP_any (s : ByteArray) (w : World) (hs : s.size ≤ 1000000000) :
    Calls Try.prog 28 #[.string s] w (ParsePost (addrI s) w) := by
  generalize hR : addrI s = R
  have HR := Lib.hid hR; clear hR
  have HT0 := Lib.hid (Two.new w 29 (.string ⟨#[]⟩) (.string ⟨#[]⟩))
  have HB0 := Lib.hid ((Below.refl w.heap.size w).alloc (Nat.le_refl _) (.cells #[.string ⟨#[]⟩, .string ⟨#[]⟩] 29))
  go_enter Try.func28, Try.ntmps28
  go_wp2_with fail
  have hc := Two.new (w.alloc (.cells #[.string ⟨#[]⟩, .string ⟨#[]⟩] 29)) 41 (.string s) (.int .i64 ((0 : Nat) : Int))
  rw [World.size_alloc] at hc
  refine (address_any (w.heap.size + 1) s 0 _ hs (Nat.zero_le _) hc).mono ?_
  clear hc
  intro e w1 hpost
  cases hd : addrP s 0 with
  | none =>
    rw [hd] at hpost
    obtain ⟨rfl, hk⟩ := hpost
    obtain rfl : R = none := by rw [← HR.out]; simp [addrI, hd]
    clear hd
    have t1 := (HT0.out.alloc _).kept hk (by simp)
    have HT1 := Lib.hid t1; clear t1
    have HB1 := Lib.hid ((HB0.out.alloc (by simp) _).trans (hk.below (by omega) (by simp; omega))); clear hk
    have hz1 : w.heap.size < w1.heap.size := HT1.out.lt
    have c0 := HT1.out.c0
    have c1 := HT1.out.c1
    have f0 := HT1.out.f0
    have f1 := HT1.out.f1
    go_wp2_with fail
    have k := ((HT1.out.set0 (.string ⟨#[]⟩)).set1 (.string ⟨#[]⟩)).alloc (.cells #[.string ⟨#[]⟩, .string ⟨#[]⟩] 29)
    exact bodyPost_ret (v := .tuple #[.agg #[.string ⟨#[]⟩, .string ⟨#[]⟩], .bool false]) (by simp [results, Try.results28, go_sem, k.c0, k.c1]) rfl
      ⟨rfl, ((HB1.out.setCell (p := ⟨w.heap.size, 0, none⟩) (Nat.le_refl _) _).setCell (p := ⟨w.heap.size, 1, none⟩) (Nat.le_refl _) _).alloc (by simp; omega) _⟩
  | some mq =>
    obtain ⟨m, q⟩ := mq
    rw [hd] at hpost
    obtain ⟨rfl, hk, hqs, ht⟩ := hpost
    have HRV := Lib.hid (show R = if q = s.size then some (s.extract 0 m, s.extract (m + 1) q) else none by rw [← HR.out]; simp [addrI, hd])
    clear hd
    have t1 := (HT0.out.alloc _).kept hk (by simp)
    have HT1 := Lib.hid t1; clear t1
    have HB1 := Lib.hid ((HB0.out.alloc (by simp) _).trans (hk.below (by omega) (by simp; omega))); clear hk
    have hz1 : w.heap.size < w1.heap.size := HT1.out.lt
    have hz2 : w.heap.size + 1 < w1.heap.size := ht.lt
    have HTC := Lib.hid ht; clear ht
    generalize s.extract 0 m = u at *
    generalize s.extract (m + 1) q = d at *
    go_wp2_with fail
    refine (done_any (w.heap.size + 1) s q _ hs hqs (HTC.out.alloc _).c0 (HTC.out.alloc _).c1).mono ?_
    rintro e w2 ⟨rfl, n, rfl⟩
    have c0 := HT1.out.c0
    have c1 := HT1.out.c1
    have f0 := HT1.out.f0
    have f1 := HT1.out.f1
    by_cases hq : q = s.size
    · have dq := Lib.hid (decide_eq_true hq)
      obtain rfl : R = some (u, d) := by rw [HRV.out, if_pos hq]
      rw [dq.out]
      clear hq
      go_wp2_with fail
      have k := (((HT1.out.alloc (.cells #[.string u, .string d] 29)).drewN n).set0 (.string u)).set1 (.string d)
      exact bodyPost_ret (v := .tuple #[.agg #[.string u, .string d], .bool true]) (by simp [results, Try.results28, go_sem, k.c0, k.c1]) rfl
        ⟨rfl, ((Below.drewN' (HB1.out.alloc (by omega) _) n).setCell (p := ⟨w.heap.size, 0, none⟩) (Nat.le_refl _) _).setCell (p := ⟨w.heap.size, 1, none⟩) (Nat.le_refl _) _⟩
    · have dq := Lib.hid (decide_eq_false hq)
      obtain rfl : R = none := by rw [HRV.out, if_neg hq]
      rw [dq.out]
      clear hq
      go_wp2_with fail
      have k := (((HT1.out.alloc (.cells #[.string u, .string d] 29)).drewN n).set0 (.string ⟨#[]⟩)).set1 (.string ⟨#[]⟩)
      exact bodyPost_ret (v := .tuple #[.agg #[.string ⟨#[]⟩, .string ⟨#[]⟩], .bool false]) (by simp [results, Try.results28, go_sem, k.c0, k.c1]) rfl
        ⟨rfl, ((Below.drewN' (HB1.out.alloc (by omega) _) n).setCell (p := ⟨w.heap.size, 0, none⟩) (Nat.le_refl _) _).setCell (p := ⟨w.heap.size, 1, none⟩) (Nat.le_refl _) _⟩

theorem l1Address_any (u d : ByteArray) (w : World) (hu : u.size ≤ 1000000000) (hd : d.size ≤ 1000000000) :
    Calls Try.prog 47 #[.agg #[.string u, .string d]] w fun e w' => e = .returned (.bool (nameB u && domB d)) ∧ Below w.heap.size w w' := by
  cases hv : nameB u
  · have HV := Lib.hid hv; clear hv
    go_enter Try.func47, Try.ntmps47
    go_wp2_with fail
    refine (specName_any u _ hu).mono ?_
    rw [HV.out]
    rintro e w1 ⟨rfl, rfl⟩
    go_wp2_with fail
    go_ret
    exact ⟨rfl, (Below.refl _ _).alloc (Nat.le_refl _) _⟩
  · have HV := Lib.hid hv; clear hv
    rw [Bool.true_and]
    go_enter Try.func47, Try.ntmps47
    go_wp2_with fail
    refine (specName_any u _ hu).mono ?_
    rw [HV.out]
    rintro e w1 ⟨rfl, rfl⟩
    go_wp2_with fail
    refine (specDom_any d _ hd).mono ?_
    rintro e w2 ⟨rfl, hb2⟩
    have HB2 := Lib.hid (((Below.refl w.heap.size w).alloc (Nat.le_refl _) _).trans (hb2.mono (by simp))); clear hb2
    go_wp2_with fail
    go_ret
    exact ⟨rfl, HB2.out⟩

/-- The text of an address. -/
def adText (u d : ByteArray) : ByteArray := if nameB u && domB d then u ++ ⟨#[64]⟩ ++ d else ⟨#[]⟩
set_option maxHeartbeats 1000000 in
theorem specAT_any (u d : ByteArray) (w : World) (hu : u.size ≤ 1000000000) (hd : d.size ≤ 1000000000) :
    Calls Try.prog 31 #[.agg #[.string u, .string d]] w fun e w' => e = .returned (.string (adText u d)) ∧ Below w.heap.size w w' := by
  have HA := Lib.hid (show adText u d = if nameB u && domB d then u ++ ⟨#[64]⟩ ++ d else ⟨#[]⟩ from rfl)
  generalize adText u d = T at *
  have HT := Lib.hid (Two.new w 29 (.string u) (.string d))
  cases hv : nameB u && domB d
  · obtain rfl : T = ⟨#[]⟩ := by rw [HA.out, hv]; rfl
    have HV := Lib.hid hv; clear hv
    go_enter Try.func31, Try.ntmps31
    go_wp2_with fail
    refine (l1Address_any u d _ hu hd).mono ?_
    rw [HV.out]
    rintro e w1 ⟨rfl, hb1⟩
    have HB1 := Lib.hid (((Below.refl w.heap.size w).alloc (Nat.le_refl _) _).trans (hb1.mono (by simp))); clear hb1
    go_wp2_with fail
    go_ret
    exact ⟨rfl, HB1.out⟩
  · obtain rfl : T = u ++ ⟨#[64]⟩ ++ d := by rw [HA.out, hv]; rfl
    have HV := Lib.hid hv; clear hv
    go_enter Try.func31, Try.ntmps31
    go_wp2_with fail
    refine (l1Address_any u d _ hu hd).mono ?_
    rw [HV.out]
    rintro e w1 ⟨rfl, hb1⟩
    have t1 : Two w1 w.heap.size 29 (.string u) (.string d) := (hb1.block w.heap.size (by simp)).trans HT.out
    have c0 := t1.c0
    have c1 := t1.c1
    clear t1
    have HB1 := Lib.hid (((Below.refl w.heap.size w).alloc (Nat.le_refl _) _).trans (hb1.mono (by simp))); clear hb1
    go_wp2_with fail
    go_ret
    exact ⟨rfl, HB1.out⟩
set_option maxHeartbeats 1000000 in
theorem implAT_any (u d : ByteArray) (w : World) (hu : u.size ≤ 1000000000) (hd : d.size ≤ 1000000000) :
    Calls Try.prog 33 #[.agg #[.string u, .string d]] w fun e w' => e = .returned (.string (adText u d)) ∧ Below w.heap.size w w' := by
  have HA := Lib.hid (show adText u d = if nameB u && domB d then u ++ ⟨#[64]⟩ ++ d else ⟨#[]⟩ from rfl)
  generalize adText u d = T at *
  have HT := Lib.hid (Two.new w 29 (.string u) (.string d))
  cases hv : nameB u
  · obtain rfl : T = ⟨#[]⟩ := by rw [HA.out, hv]; rfl
    have HV := Lib.hid hv; clear hv
    go_enter Try.func33, Try.ntmps33
    go_wp2_with fail
    refine (implName_any u _ hu).mono ?_
    rw [HV.out]
    rintro e w1 ⟨rfl, hb1⟩
    have HB1 := Lib.hid (((Below.refl w.heap.size w).alloc (Nat.le_refl _) _).trans (hb1.mono (by simp))); clear hb1
    go_wp2_with fail
    go_ret
    exact ⟨rfl, HB1.out⟩
  have HV := Lib.hid hv; clear hv
  cases hv' : domB d
  · obtain rfl : T = ⟨#[]⟩ := by rw [HA.out, hv']; simp
    have HV' := Lib.hid hv'; clear hv'
    go_enter Try.func33, Try.ntmps33
    go_wp2_with fail
    refine (implName_any u _ hu).mono ?_
    rw [HV.out]
    rintro e w1 ⟨rfl, hb1⟩
    have t1 : Two w1 w.heap.size 29 (.string u) (.string d) := (hb1.block w.heap.size (by simp)).trans HT.out
    have c0 := t1.c0
    have c1 := t1.c1
    clear t1
    have HB1 := Lib.hid (((Below.refl w.heap.size w).alloc (Nat.le_refl _) _).trans (hb1.mono (by simp))); clear hb1
    go_wp2_with fail
    refine (implDom_any d _ hd).mono ?_
    rw [HV'.out]
    rintro e w2 ⟨rfl, hb2⟩
    have HB2 := Lib.hid (HB1.out.trans (hb2.mono HB1.out.size)); clear hb2
    go_wp2_with fail
    go_ret
    exact ⟨rfl, HB2.out⟩
  · obtain rfl : T = u ++ ⟨#[64]⟩ ++ d := by rw [HA.out, hv', HV.out]; rfl
    have HV' := Lib.hid hv'; clear hv'
    go_enter Try.func33, Try.ntmps33
    go_wp2_with fail
    refine (implName_any u _ hu).mono ?_
    rw [HV.out]
    rintro e w1 ⟨rfl, hb1⟩
    have t1 : Two w1 w.heap.size 29 (.string u) (.string d) := (hb1.block w.heap.size (by simp)).trans HT.out
    have c0 := t1.c0
    have c1 := t1.c1
    have T1 := Lib.hid t1; clear t1
    have HB1 := Lib.hid (((Below.refl w.heap.size w).alloc (Nat.le_refl _) _).trans (hb1.mono (by simp))); clear hb1
    go_wp2_with fail
    refine (implDom_any d _ hd).mono ?_
    rw [HV'.out]
    rintro e w2 ⟨rfl, hb2⟩
    clear c0 c1
    have t2 : Two w2 w.heap.size 29 (.string u) (.string d) := (hb2.block w.heap.size T1.out.lt).trans T1.out
    have c0 := t2.c0
    have c1 := t2.c1
    clear t2
    have HB2 := Lib.hid (HB1.out.trans (hb2.mono HB1.out.size)); clear hb2
    go_wp2_with fail
    go_ret
    exact ⟨rfl, HB2.out⟩

end Go.Proofs.Ytbafeponkpaenaa
