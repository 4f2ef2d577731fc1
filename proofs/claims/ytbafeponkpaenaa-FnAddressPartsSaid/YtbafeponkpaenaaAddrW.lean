/- Contracts: the cursor's address; AddressParse, AddressText. -/
import Derived.Test.YtbafeponkpaenaaDomW
import Derived.Test.YtbafeponkpaenaaPlainAd
namespace Go.Proofs.Ytbafeponkpaenaa
open Go.RowKit
set_option linter.unusedVariables false

theorem Two.far {w : World} {b : Nat} {t : TypeId} {x y : Value} (h : Two w b t x y) {p : Addr} (hp : b ≠ p.block) (u : Value) : Two (w.setCell p u) b t x y := (Below.heap_setCell w p u b hp).trans h
/-- An address as a value. -/
def adV (x : ByteArray × ByteArray) : Value := .agg #[.string x.1, .string x.2]
def adZ : ByteArray × ByteArray := (⟨#[]⟩, ⟨#[]⟩)
/-- What the cursor's address hands back. -/
def AddrPost (s : ByteArray) (p b : Nat) (r : Option (Nat × Nat)) (w : World) (e : Ending) (w' : World) : Prop :=
  match r with
  | none => e = .returned (.tuple #[.agg #[.string ⟨#[]⟩, .string ⟨#[]⟩], .bool false]) ∧ KeepB b w w'
  | some (m, q) => e = .returned (.tuple #[.agg #[.string (s.extract p m), .string (s.extract (m + 1) q)], .bool true]) ∧ KeepB b w w' ∧ q ≤ s.size ∧ Two w' b 41 (.string s) (.int .i64 q)

set_option maxHeartbeats 2000000 in
theorem address_any (b : Nat) (s : ByteArray) (p : Nat) (w : World) (hs : s.size ≤ 1000000000) (hp : p ≤ s.size)
    (ht : Two w b 41 (.string s) (.int .i64 p)) :
    Calls Try.prog 48 #[.pointer (some ⟨b, 0, none⟩)] w (AddrPost s p b (addrP s p) w) := by
  have hn := nend_le s p hp
  have hbs := ht.lt
  have HT := Lib.hid ht; clear ht
  generalize hR : addrP s p = R
  have HR := Lib.hid hR; clear hR
  have HKA : Hid (KeepB b w (w.alloc (.cells #[.string ⟨#[]⟩, .string ⟨#[]⟩] 29))) := Lib.hid ((KeepB.refl b w).alloc _)
  have HTR := Lib.hid (Two.new w 29 (.string ⟨#[]⟩) (.string ⟨#[]⟩))
  cases hz : szOk p (nend s p)
  · have HZ := Lib.hid hz; clear hz
    obtain rfl : R = none := by rw [← HR.out]; simp [addrP, HZ.out]
    go_enter Try.func48, Try.ntmps48
    go_wp2_with fail
    refine (name_any b s p _ hs hp (HT.out.alloc _)).mono ?_
    rw [HZ.out]
    rintro e w1 ⟨rfl, hk1, ht1⟩
    have t1 := HTR.out.kept hk1 (by omega)
    have c0 := t1.c0
    have c1 := t1.c1
    have f0 := t1.f0
    have f1 := t1.f1
    have T1 := Lib.hid t1; clear t1
    have HK1 := Lib.hid (HKA.out.trans hk1); clear hk1
    clear ht1
    go_wp2_with fail
    have k := (T1.out.set0 (.string ⟨#[]⟩)).set1 (.string ⟨#[]⟩)
    exact bodyPost_ret (v := .tuple #[.agg #[.string ⟨#[]⟩, .string ⟨#[]⟩], .bool false]) (by simp [results, Try.results48, go_sem, k.c0, k.c1]) rfl ⟨rfl, (HK1.out.setNew ⟨w.heap.size, 0, none⟩ (Nat.le_refl _) _).setNew ⟨w.heap.size, 1, none⟩ (Nat.le_refl _) _⟩
  have HZ := Lib.hid hz; clear hz
  cases hat : atB s (nend s p) 64
  · have HAT := Lib.hid hat; clear hat
    obtain rfl : R = none := by rw [← HR.out]; simp [addrP, HZ.out, HAT.out]
    go_enter Try.func48, Try.ntmps48
    go_wp2_with fail
    refine (name_any b s p _ hs hp (HT.out.alloc _)).mono ?_
    rw [HZ.out]
    rintro e w1 ⟨rfl, hk1, ht1⟩
    have t1 := HTR.out.kept hk1 (by omega)
    have c0 := t1.c0
    have c1 := t1.c1
    have f0 := t1.f0
    have f1 := t1.f1
    have T1 := Lib.hid t1; clear t1
    have HK1 := Lib.hid (HKA.out.trans hk1); clear hk1
    clear c0 c1 f0 f1
    have HT1 := Lib.hid ht1; clear ht1
    go_wp2_with fail
    refine (take_no b s (nend s p) 64 _ hs hn.2 HAT.out HT1.out).mono ?_
    rintro e w2 ⟨rfl, hk2, ht2⟩
    have t2 := T1.out.kept hk2 (by omega)
    have c0 := t2.c0
    have c1 := t2.c1
    have f0 := t2.f0
    have f1 := t2.f1
    have T2 := Lib.hid t2; clear t2
    have HK2 := Lib.hid (HK1.out.trans hk2); clear hk2
    clear ht2
    go_wp2_with fail
    have k := (T2.out.set0 (.string ⟨#[]⟩)).set1 (.string ⟨#[]⟩)
    exact bodyPost_ret (v := .tuple #[.agg #[.string ⟨#[]⟩, .string ⟨#[]⟩], .bool false]) (by simp [results, Try.results48, go_sem, k.c0, k.c1]) rfl ⟨rfl, (HK2.out.setNew ⟨w.heap.size, 0, none⟩ (Nat.le_refl _) _).setNew ⟨w.heap.size, 1, none⟩ (Nat.le_refl _) _⟩
  have HAT := Lib.hid hat; clear hat
  have hn1 : nend s p + 1 ≤ s.size := by have := atB_lt HAT.out; omega
  cases hd : domP s 2 (nend s p + 1) with
  | none =>
    have HD := Lib.hid hd; clear hd
    obtain rfl : R = none := by rw [← HR.out]; simp [addrP, HZ.out, HAT.out, HD.out]
    go_enter Try.func48, Try.ntmps48
    go_wp2_with fail
    refine (name_any b s p _ hs hp (HT.out.alloc _)).mono ?_
    rw [HZ.out]
    rintro e w1 ⟨rfl, hk1, ht1⟩
    have t1 := HTR.out.kept hk1 (by omega)
    have c0 := t1.c0
    have c1 := t1.c1
    have f0 := t1.f0
    have f1 := t1.f1
    have T1 := Lib.hid t1; clear t1
    have HK1 := Lib.hid (HKA.out.trans hk1); clear hk1
    clear c0 c1 f0 f1
    have HT1 := Lib.hid ht1; clear ht1
    go_wp2_with fail
    refine (take_is b s (nend s p) 64 _ hs HAT.out HT1.out).mono ?_
    rintro e w2 ⟨rfl, hk2, ht2⟩
    have t2 := T1.out.kept hk2 (by omega)
    have c0 := t2.c0
    have c1 := t2.c1
    have f0 := t2.f0
    have f1 := t2.f1
    have T2 := Lib.hid t2; clear t2
    have HK2 := Lib.hid (HK1.out.trans hk2); clear hk2
    clear c0 c1 f0 f1
    have HT2 := Lib.hid ht2; clear ht2
    go_wp2_with fail
    refine (domain_any b s (nend s p + 1) _ hs hn1 HT2.out).mono ?_
    rw [HD.out]
    rintro e w3 ⟨rfl, hk3⟩
    have t3 := T2.out.kept hk3 (by omega)
    have c0 := t3.c0
    have c1 := t3.c1
    have f0 := t3.f0
    have f1 := t3.f1
    have T3 := Lib.hid t3; clear t3
    have HK3 := Lib.hid (HK2.out.trans hk3); clear hk3
    go_wp2_with fail
    have k := (T3.out.set0 (.string ⟨#[]⟩)).set1 (.string ⟨#[]⟩)
    exact bodyPost_ret (v := .tuple #[.agg #[.string ⟨#[]⟩, .string ⟨#[]⟩], .bool false]) (by simp [results, Try.results48, go_sem, k.c0, k.c1]) rfl ⟨rfl, (HK3.out.setNew ⟨w.heap.size, 0, none⟩ (Nat.le_refl _) _).setNew ⟨w.heap.size, 1, none⟩ (Nat.le_refl _) _⟩
  | some q =>
    have HD := Lib.hid hd; clear hd
    by_cases h20 : (q : Int) - ((nend s p + 1 : Nat) : Int) ≤ 20
    · have hRq : R = some (nend s p, q) := by rw [← HR.out]; simp only [addrP, HZ.out, HAT.out, HD.out, Bool.and_self, if_true, if_pos h20]
      subst hRq
      have D20 := Lib.hid (decide_eq_true h20)
      clear h20
      go_enter Try.func48, Try.ntmps48
      go_wp2_with fail
      refine (name_any b s p _ hs hp (HT.out.alloc _)).mono ?_
      rw [HZ.out]
      rintro e w1 ⟨rfl, hk1, ht1⟩
      have t1 := HTR.out.kept hk1 (by omega)
      have c0 := t1.c0
      have c1 := t1.c1
      have f0 := t1.f0
      have f1 := t1.f1
      have T1 := Lib.hid t1; clear t1
      have HK1 := Lib.hid (HKA.out.trans hk1); clear hk1
      clear c0 c1 f0 f1
      have HT1 := Lib.hid ht1; clear ht1
      go_wp2_with fail
      refine (take_is b s (nend s p) 64 _ hs HAT.out HT1.out).mono ?_
      rintro e w2 ⟨rfl, hk2, ht2⟩
      have t2 := T1.out.kept hk2 (by omega)
      have c0 := t2.c0
      have c1 := t2.c1
      have f0 := t2.f0
      have f1 := t2.f1
      have T2 := Lib.hid t2; clear t2
      have HK2 := Lib.hid (HK1.out.trans hk2); clear hk2
      clear c0 c1 f0 f1
      have HT2 := Lib.hid ht2; clear ht2
      go_wp2_with fail
      refine (domain_any b s (nend s p + 1) _ hs hn1 HT2.out).mono ?_
      rw [HD.out]
      rw [show DomPost s (nend s p + 1) b (some q) _ = _ from rfl]
      rintro e w3 ⟨rfl, hk3, hpq, hqs, ht3⟩
      rw [D20.out]
      have t3 := T2.out.kept hk3 (by omega)
      have c0 := t3.c0
      have c1 := t3.c1
      have f0 := t3.f0
      have f1 := t3.f1
      have T3 := Lib.hid t3; clear t3
      have HK3 := Lib.hid (HK2.out.trans hk3); clear hk3
      have HT3 := Lib.hid ht3; clear ht3
      go_wp2_with fail
      have k := (T3.out.set0 (.string (s.extract p (nend s p)))).set1 (.string (s.extract (nend s p + 1) q))
      exact bodyPost_ret (v := .tuple #[.agg #[.string (s.extract p (nend s p)), .string (s.extract (nend s p + 1) q)], .bool true]) (by simp [results, Try.results48, go_sem, k.c0, k.c1]) rfl
        ⟨rfl, (HK3.out.setNew ⟨w.heap.size, 0, none⟩ (Nat.le_refl _) _).setNew ⟨w.heap.size, 1, none⟩ (Nat.le_refl _) _, hqs, (HT3.out.far (p := ⟨w.heap.size, 0, none⟩) (by simp; omega) _).far (p := ⟨w.heap.size, 1, none⟩) (by simp; omega) _⟩
    · have hRq : R = none := by rw [← HR.out]; simp only [addrP, HZ.out, HAT.out, HD.out, Bool.and_self, if_true, if_neg h20]
      subst hRq
      have D20 := Lib.hid (decide_eq_false h20)
      clear h20
      go_enter Try.func48, Try.ntmps48
      go_wp2_with fail
      refine (name_any b s p _ hs hp (HT.out.alloc _)).mono ?_
      rw [HZ.out]
      rintro e w1 ⟨rfl, hk1, ht1⟩
      have t1 := HTR.out.kept hk1 (by omega)
      have c0 := t1.c0
      have c1 := t1.c1
      have f0 := t1.f0
      have f1 := t1.f1
      have T1 := Lib.hid t1; clear t1
      have HK1 := Lib.hid (HKA.out.trans hk1); clear hk1
      clear c0 c1 f0 f1
      have HT1 := Lib.hid ht1; clear ht1
      go_wp2_with fail
      refine (take_is b s (nend s p) 64 _ hs HAT.out HT1.out).mono ?_
      rintro e w2 ⟨rfl, hk2, ht2⟩
      have t2 := T1.out.kept hk2 (by omega)
      have c0 := t2.c0
      have c1 := t2.c1
      have f0 := t2.f0
      have f1 := t2.f1
      have T2 := Lib.hid t2; clear t2
      have HK2 := Lib.hid (HK1.out.trans hk2); clear hk2
      clear c0 c1 f0 f1
      have HT2 := Lib.hid ht2; clear ht2
      go_wp2_with fail
      refine (domain_any b s (nend s p + 1) _ hs hn1 HT2.out).mono ?_
      rw [HD.out]
      rw [show DomPost s (nend s p + 1) b (some q) _ = _ from rfl]
      rintro e w3 ⟨rfl, hk3, hpq, hqs, ht3⟩
      rw [D20.out]
      have t3 := T2.out.kept hk3 (by omega)
      have c0 := t3.c0
      have c1 := t3.c1
      have f0 := t3.f0
      have f1 := t3.f1
      have T3 := Lib.hid t3; clear t3
      have HK3 := Lib.hid (HK2.out.trans hk3); clear hk3
      clear ht3
      go_wp2_with fail
      have k := (T3.out.set0 (.string ⟨#[]⟩)).set1 (.string ⟨#[]⟩)
      exact bodyPost_ret (v := .tuple #[.agg #[.string ⟨#[]⟩, .string ⟨#[]⟩], .bool false]) (by simp [results, Try.results48, go_sem, k.c0, k.c1]) rfl ⟨rfl, (HK3.out.setNew ⟨w.heap.size, 0, none⟩ (Nat.le_refl _) _).setNew ⟨w.heap.size, 1, none⟩ (Nat.le_refl _) _⟩

end Go.Proofs.Ytbafeponkpaenaa
