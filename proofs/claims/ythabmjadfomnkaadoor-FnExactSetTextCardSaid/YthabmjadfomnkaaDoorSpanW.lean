/- Contracts: the program's spans and sets in a text. -/
import Derived.Test.YthabmjadfomnkaaDoorParseW
import Derived.Laws.ResultCell
import Derived.Handy
namespace Go.Proofs.YthabmjadfomnkaaDoor
open Go.RowKit
set_option linter.unusedVariables false

/-- What setSpan hands back. -/
def SpanPost (s : ByteArray) (p b : Nat) (r : Option (Sp × List UInt8)) (w : World) (e : Ending) (w' : World) : Prop :=
  match r with
  | none => (∃ x y : Int, e = .returned (.tuple #[.agg #[.int .i64 x, .int .i64 y], .bool false])) ∧ KeepB b w w'
  | some (x, l) => e = .returned (.tuple #[.agg #[.int .i64 x.1, .int .i64 x.2], .bool true]) ∧ KeepB b w w' ∧ ∃ q, l = (bl s).drop q ∧ p < q ∧ q ≤ s.size ∧ Two w' b 45 (.string s) (.int .i64 q)
theorem bl_drop_at (s : ByteArray) (q : Nat) (c : UInt8) (h : atB s q c = true) : (bl s).drop q = c :: (bl s).drop (q + 1) := by
  have hlt := atB_lt h
  rw [atB_iff s q c hlt, decide_eq_true_iff] at h
  rw [bl_drop_cons s q hlt, h]
theorem spanP_one (s : ByteArray) (l : List UInt8) (v : Int) (q : Nat) (hN : numP l = some (v, (bl s).drop q)) (h : atB s q 58 = false) : spanP l = some ((v, v), (bl s).drop q) := by
  unfold spanP
  rw [hN]
  by_cases hlt : q < s.size
  · rw [atB_iff s q 58 hlt, decide_eq_false_iff_not] at h
    rw [bl_drop_cons s q hlt]
    simp only [if_neg h]
  · rw [bl_drop_end s q (by omega)]
theorem spanP_two_none (s : ByteArray) (l : List UInt8) (v : Int) (q : Nat) (hN : numP l = some (v, (bl s).drop q)) (h : atB s q 58 = true) (hM : numP ((bl s).drop (q + 1)) = none) : spanP l = none := by
  unfold spanP
  rw [hN, bl_drop_at s q 58 h]
  simp only [if_true, hM]
theorem spanP_two (s : ByteArray) (l : List UInt8) (v : Int) (q : Nat) (hN : numP l = some (v, (bl s).drop q)) (h : atB s q 58 = true) (b : Int) (r : List UInt8) (hM : numP ((bl s).drop (q + 1)) = some (b, r)) : spanP l = some ((v, b), r) := by
  unfold spanP
  rw [hN, bl_drop_at s q 58 h]
  simp only [if_true, hM]
theorem Two.other {w : World} {b c : Nat} {t : TypeId} {x y : Value} (h : Two w b t x y) (o : Nat) (v : Value) (hne : b ≠ c) : Two (w.setCell ⟨c, o, none⟩ v) b t x y := h.kept ((KeepB.refl c w).setCell o v) hne

set_option maxHeartbeats 4000000 in
theorem setSpan_any (b : Nat) (s : ByteArray) (p : Nat) (w : World) (hs : s.size ≤ 1000000000) (hp : p ≤ s.size)
    (ht : Two w b 45 (.string s) (.int .i64 p)) :
    Calls Tryd.prog 23 #[.pointer (some ⟨b, 0, none⟩)] w (SpanPost s p b (spanP ((bl s).drop p)) w) := by
  generalize hR : spanP ((bl s).drop p) = R
  have HR := Lib.hid hR; clear hR
  have hne : w.heap.size ≠ b := by have := ht.lt; omega
  have hne' : b ≠ w.heap.size := by omega
  have HT := Lib.hid ht; clear ht
  cases hN : numP ((bl s).drop p) with
  | none =>
    obtain rfl : R = none := by rw [← HR.out]; unfold spanP; rw [hN]
    have HN := Lib.hid hN; clear hN
    go_enter Tryd.func23, Tryd.ntmps23
    go_wp2_with fail
    refine (setNumber_any b s p _ hs hp (HT.out.alloc _)).mono ?_
    rw [HN.out]
    rintro e w1 ⟨rfl, hk1⟩
    have htr := (Two.new w 41 (.int .i64 0) (.int .i64 0)).kept hk1 hne
    have HK1 := Lib.hid (((KeepB.refl b w).alloc _).trans hk1); clear hk1
    have c0 := htr.c0
    have c1 := htr.c1
    have f0 := htr.f0
    have f1 := htr.f1
    clear htr
    go_wp2_with fail
    refine bodyPost_ret (by simp [results, Tryd.results23, go_sem, c0, c1]; try rfl) rfl ?_
    exact ⟨⟨_, _, rfl⟩, (HK1.out.setNew ⟨w.heap.size, 0, none⟩ (Nat.le_refl _) _).setNew ⟨w.heap.size, 1, none⟩ (Nat.le_refl _) _⟩
  | some vl =>
    obtain ⟨v, l⟩ := vl
    have HN := Lib.hid hN; clear hN
    go_enter Tryd.func23, Tryd.ntmps23
    go_wp2_with fail
    refine (setNumber_any b s p _ hs hp (HT.out.alloc _)).mono ?_
    rw [HN.out]
    rintro e w1 ⟨rfl, hk1, q, rfl, hq1, hq2, ht1⟩
    have HTR1 := Lib.hid ((Two.new w 41 (.int .i64 0) (.int .i64 0)).kept hk1 hne)
    have HK1 := Lib.hid (((KeepB.refl b w).alloc _).trans hk1); clear hk1
    have HT1 := Lib.hid ht1; clear ht1
    cases h58 : atB s q 58
    · obtain rfl : R = some ((v, v), (bl s).drop q) := by rw [← HR.out]; exact spanP_one s _ v q HN.out h58
      have H58 := Lib.hid h58; clear h58
      go_wp2_with fail
      refine (take_no b s q 58 _ hs hq2 H58.out HT1.out).mono ?_
      rintro e w2 ⟨rfl, hk2, ht2⟩
      have htr := HTR1.out.kept hk2 hne
      have HK2 := Lib.hid (HK1.out.trans hk2); clear hk2
      have HT2 := Lib.hid ht2; clear ht2
      have c0 := htr.c0
      have c1 := htr.c1
      have f0 := htr.f0
      have f1 := htr.f1
      clear htr
      go_wp2_with fail
      refine bodyPost_ret (by simp [results, Tryd.results23, go_sem, c0, c1]; try rfl) rfl ?_
      exact ⟨rfl, (HK2.out.setNew ⟨w.heap.size, 0, none⟩ (Nat.le_refl _) _).setNew ⟨w.heap.size, 1, none⟩ (Nat.le_refl _) _, q, rfl, hq1, hq2, (HT2.out.other _ _ hne').other _ _ hne'⟩
    · have hql := atB_lt h58
      have HS2 := Lib.hid (spanP_two s _ v q HN.out h58)
      have HS3 := Lib.hid (spanP_two_none s _ v q HN.out h58)
      have H58 := Lib.hid h58; clear h58
      go_wp2_with fail
      refine (take_is b s q 58 _ hs H58.out HT1.out).mono ?_
      rintro e w2 ⟨rfl, hk2, ht2⟩
      have HTR2 := Lib.hid (HTR1.out.kept hk2 hne)
      have HK2 := Lib.hid (HK1.out.trans hk2); clear hk2
      have HT2 := Lib.hid ht2; clear ht2
      go_wp2_with fail
      refine (setNumber_any b s (q + 1) _ hs hql HT2.out).mono ?_
      cases hM : numP ((bl s).drop (q + 1)) with
      | none =>
        obtain rfl : R = none := by rw [← HR.out, HS3.out hM]
        clear hM
        rintro e w3 ⟨rfl, hk3⟩
        have htr := HTR2.out.kept hk3 hne
        have HK3 := Lib.hid (HK2.out.trans hk3); clear hk3
        have c0 := htr.c0
        have c1 := htr.c1
        have f0 := htr.f0
        have f1 := htr.f1
        clear htr
        go_wp2_with fail
        refine bodyPost_ret (by simp [results, Tryd.results23, go_sem, c0, c1]; try rfl) rfl ?_
        exact ⟨⟨_, _, rfl⟩, (HK3.out.setNew ⟨w.heap.size, 0, none⟩ (Nat.le_refl _) _).setNew ⟨w.heap.size, 1, none⟩ (Nat.le_refl _) _⟩
      | some vl =>
        obtain ⟨v', l'⟩ := vl
        obtain rfl : R = some ((v, v'), l') := by rw [← HR.out, HS2.out v' l' hM]
        clear hM
        rintro e w3 ⟨rfl, hk3, q', rfl, hq1', hq2', ht3⟩
        have htr := HTR2.out.kept hk3 hne
        have HK3 := Lib.hid (HK2.out.trans hk3); clear hk3
        have HT3 := Lib.hid ht3; clear ht3
        have c0 := htr.c0
        have c1 := htr.c1
        have f0 := htr.f0
        have f1 := htr.f1
        clear htr
        go_wp2_with fail
        refine bodyPost_ret (by simp [results, Tryd.results23, go_sem, c0, c1]; try rfl) rfl ?_
        exact ⟨rfl, (HK3.out.setNew ⟨w.heap.size, 0, none⟩ (Nat.le_refl _) _).setNew ⟨w.heap.size, 1, none⟩ (Nat.le_refl _) _, q', rfl, by omega, hq2', (HT3.out.other _ _ hne').other _ _ hne'⟩

end Go.Proofs.YthabmjadfomnkaaDoor
