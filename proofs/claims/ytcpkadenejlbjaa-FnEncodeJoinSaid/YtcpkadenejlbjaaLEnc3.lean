/- The walks of the laws FnEncodeEqual, FnEncodeJoin. -/
import Derived.Test.YtcpkadenejlbjaaLEnc2
import Derived.Deep.RegionWith
import Derived.IntWalk
namespace Go.Proofs.Ytcpkadenejlbjaa
open Go.RowKit
set_option linter.unusedVariables false

theorem enc_ends (s E : ByteArray) (h30 : s.size ≤ 30) (h0 : 1 ≤ s.size) (hE : bl E = encL (bl s)) : ∃ n : Nat, ∃ h : E.size = n + 2, n ≤ 40 ∧ (E[n]'(by omega) = 61 ↔ s.size % 3 = 1) ∧ (E[n + 1]'(by omega) = 61 ↔ s.size % 3 ≠ 0) := by
  obtain ⟨pre, x, y, hp, h1, h2⟩ := enc_last (bl s) (by intro e; have := bl_length s; rw [e] at this; simp at this; omega)
  have hl : E.size = pre.length + 2 := by rw [← bl_length, hE, hp]; simp
  have hz : E.size ≤ 40 := by rw [← bl_length, hE, encL_length, bl_length]; omega
  refine ⟨pre.length, hl, by omega, ?_, ?_⟩
  · have hx : E[pre.length]'(by omega) = x := by
      rw [← bl_get E pre.length (by omega)]
      simp only [hE, hp]
      rw [List.getElem_append_right (Nat.le_refl _)]; simp
    rw [hx, h2, bl_length]
  · have hy : E[pre.length + 1]'(by omega) = y := by
      rw [← bl_get E (pre.length + 1) (by omega)]
      simp only [hE, hp]
      rw [List.getElem_append_right (by omega)]; simp
    rw [hy, h1, bl_length]

theorem eq61 (x : UInt8) (P : Prop) (b : Bool) (hb : b = true ↔ P) (h : x = 61 ↔ P) : ((x.toNat : Int) == 61) = b := by
  rw [Bool.eq_iff_iff, hb, ← h, beq_iff_eq]
  constructor
  · intro e; exact UInt8.toNat_inj.1 (by have : (61 : UInt8).toNat = 61 := rfl; omega)
  · intro e; rw [e]; rfl

set_option maxHeartbeats 4000000 in
theorem encodeEqual_walk (a : Option Addr) (len cap : Nat) (zs : List Int) (w : World) (h : IsRow w a len cap zs) :
    Calls Try.prog 5 #[.slice a len cap] w fun e w' => e = .returned (.bool true) ∧ Below w.heap.size w w' := by
  by_cases hb : (1048576 : Int) < (len : Int)
  · go_enter Try.func5, Try.ntmps5
    go_wp2_with fail
    go_ret
    exact ⟨rfl, Below.refl _ _⟩
  have H := Lib.hid h; clear h
  go_enter Try.func5, Try.ntmps5
  go_wp2_with fail
  refine (drawBase64Encode_any a len cap zs _ H.out).mono ?_
  rintro e w1 ⟨s, hs, rfl, hb1⟩
  have HB1 := Lib.hid hb1; clear hb1
  have hs1 := HB1.out.size
  have HEB := Lib.hid (enc_facts s)
  have HEN := Lib.hid (enc_none s)
  generalize hE : encB s = E at HEB HEN
  have HE := Lib.hid hE; clear hE
  go_wp2_with fail
  refine (implEnc_any s _).mono ?_
  rw [HE.out]
  rintro e w2 ⟨rfl, hb2⟩
  have HB2 := Lib.hid (HB1.out.trans (hb2.mono hs1)); clear hb2
  have hs2 := HB2.out.size
  go_wp2_with fail
  refine (specEnc_any s _ (by omega)).mono ?_
  rw [HE.out]
  rintro e w3 ⟨rfl, hb3⟩
  have HB3 := Lib.hid (HB2.out.trans (hb3.mono hs2)); clear hb3
  have hs3 := HB3.out.size
  by_cases hz : s.size = 0 ∨ 30 < s.size
  · obtain rfl : E = ⟨#[]⟩ := by
      rcases hz with h0 | h30
      · obtain ⟨h1, h2⟩ := HEB.out (by omega)
        exact bl_inj (List.length_eq_zero_iff.1 (by rw [bl_length, h2, h0]))
      · exact HEN.out h30
    clear hz
    go_wp2_with fail
    go_ret
    exact ⟨rfl, HB3.out⟩
  · have h30 : s.size ≤ 30 := by omega
    have h1 : 1 ≤ s.size := by omega
    obtain ⟨hbl, hsz⟩ := HEB.out h30
    obtain ⟨n, hn, hn40, hA, hB⟩ := enc_ends s E h30 h1 hbl
    obtain ⟨e1, e2⟩ := not_empty (x := E) (by omega)
    have hlt0 : n < E.size := by omega
    have hlt1 : n + 1 < E.size := by omega
    have hEi : (E.size : Int) = (n : Int) + 2 := by omega
    have f1 : (((E[n + 1]).toNat : Int) == 61) = ((s.size : Int) % 3 != 0) := eq61 _ _ _ (by rw [bne_iff_ne]; omega) hB
    have f2 : (((E[n]).toNat : Int) == 61) = ((s.size : Int) % 3 == 1) := eq61 _ _ _ (by rw [beq_iff_eq]; omega) hA
    clear hbl hsz hz hA hB
    go_wp2_with fail
    go_ret
    refine ⟨?_, HB3.out⟩
    first | rfl | simp

theorem encB_le (s : ByteArray) : (encB s).size ≤ 40 := by
  unfold encB
  split
  · rw [size_mk, List.size_toArray, encL_length, bl_length]; omega
  · simp [size_mk]
theorem enc_join (s : ByteArray) (m : Nat) (hm : m % 3 = 0) (hms : m ≤ s.size) (h30 : s.size ≤ 30) : encB (s.extract 0 m) ++ encB (s.extract m s.size) = encB s := by
  have hl := bl_length s
  have h1 : (s.extract 0 m).size ≤ 30 := by simp; omega
  have h2 : (s.extract m s.size).size ≤ 30 := by simp; omega
  refine bl_inj ?_
  rw [bl_append, (enc_facts _ h1).1, (enc_facts _ h2).1, (enc_facts _ h30).1, bl_extract, bl_extract, List.drop_zero, show (bl s).take s.size = bl s from List.take_of_length_le (by omega)]
  rw [← encL_app _ _ (by rw [List.length_take, Nat.min_eq_left (by omega)]; exact hm), List.take_append_drop]

set_option maxHeartbeats 4000000 in
theorem encodeJoin_walk (a : Option Addr) (len cap : Nat) (zs : List Int) (a' : Option Addr) (len' cap' : Nat) (zs' : List Int) (w : World) (h : IsRow w a len cap zs) (h' : IsRow w a' len' cap' zs') :
    Calls Try.prog 6 #[.slice a len cap, .slice a' len' cap'] w fun e w' => e = .returned (.bool true) ∧ Below w.heap.size w w' := by
  by_cases hb : (1048576 : Int) < (len : Int)
  · have hd : decide ((1048576 : Int) < (len : Int)) = true := decide_eq_true hb
    go_enter Try.func6, Try.ntmps6
    go_wp2_with fail
    go_ret
    exact ⟨rfl, Below.refl _ _⟩
  have hd : decide ((1048576 : Int) < (len : Int)) = false := decide_eq_false hb
  by_cases hb' : (1048576 : Int) < (len' : Int)
  · have hd' : decide ((1048576 : Int) < (len' : Int)) = true := decide_eq_true hb'
    go_enter Try.func6, Try.ntmps6
    go_wp2_with fail
    go_ret
    exact ⟨rfl, Below.refl _ _⟩
  have hd' : decide ((1048576 : Int) < (len' : Int)) = false := decide_eq_false hb'
  have H := Lib.hid h; clear h h'
  go_enter Try.func6, Try.ntmps6
  go_wp2_with fail
  clear hd hd'
  refine (drawBase64Encode_any a len cap zs _ H.out).mono ?_
  rintro e w1 ⟨s, hs, rfl, hb1⟩
  have HB1 := Lib.hid hb1; clear hb1
  have hs1 := HB1.out.size
  have HJ := Lib.hid (enc_join s)
  generalize hE : encB s = E at HJ
  have HE := Lib.hid hE; clear hE
  go_wp2_with fail
  refine (implEnc_any s _).mono ?_
  rw [HE.out]
  rintro e w2 ⟨rfl, hb2⟩
  have HB2 := Lib.hid (HB1.out.trans (hb2.mono hs1)); clear hb2
  have hs2 := HB2.out.size
  go_wp2_with fail
  refine (specEnc_any s _ (by omega)).mono ?_
  rw [HE.out]
  rintro e w3 ⟨rfl, hb3⟩
  have HB3 := Lib.hid (HB2.out.trans (hb3.mono hs2)); clear hb3
  have hs3 := HB3.out.size
  by_cases h30 : 30 < s.size
  · have hi : (30 : Int) < (s.size : Int) := by omega
    have di : decide ((30 : Int) < (s.size : Int)) = true := decide_eq_true hi
    go_wp2_with fail
    go_ret
    exact ⟨rfl, HB3.out⟩
  · have hi : ¬ (30 : Int) < (s.size : Int) := by omega
    have di : decide ((30 : Int) < (s.size : Int)) = false := decide_eq_false hi
    obtain ⟨Q, hQ⟩ : ∃ Q : Nat, Q = s.size / 3 + 1 := ⟨_, rfl⟩
    have q1 : (s.size : Int) / 3 + 1 = (Q : Int) := by omega
    have hQ1 : (0 : Int) < (Q : Int) := by omega
    obtain ⟨K, hK⟩ : ∃ K : Nat, K = len' % Q := ⟨_, rfl⟩
    have hKlt : K < Q := by rw [hK]; exact Nat.mod_lt _ (by omega)
    have hr1 : (len' : Int) % (Q : Int) = (K : Int) := by rw [hK]; rfl
    have hr2 : (len' : Int).tmod (Q : Int) = (K : Int) := by rw [Int.tmod_eq_emod_of_nonneg (by omega)]; exact hr1
    clear hK
    have hq0 : ((Q : Int) == 0) = false := beq_eq_false_iff_ne.2 (by omega)
    have hm1 : (K : Int) * 3 ≤ (s.size : Int) := by omega
    have hm0 : (0 : Int) ≤ (K : Int) * 3 := by omega
    have hm2 : ((K : Int) * 3).toNat = K * 3 := by omega
    have HJJ := Lib.hid (HJ.out (K * 3) (by omega) (by omega) (by omega))
    clear hQ
    have hz1 := encB_le (s.extract 0 (K * 3))
    have hz2 := encB_le (s.extract (K * 3) s.size)
    generalize hE1 : encB (s.extract 0 (K * 3)) = E1 at HJJ hz1
    generalize hE2 : encB (s.extract (K * 3) s.size) = E2 at HJJ hz2
    have HE1 := Lib.hid hE1; clear hE1
    have HE2 := Lib.hid hE2; clear hE2
    have hjj : E1 ++ E2 = E := HJJ.out
    go_wp2_with fail
    go_region_with (first
      | (go_at_call 12; refine (implEnc_any _ w3.drew).mono ?_; (first | rw [HE1.out] | rw [HE2.out]); rintro e w4 ⟨rfl, hb4⟩)
      | (go_at_call 12; refine (implEnc_any _ w4).mono ?_; (first | rw [HE1.out] | rw [HE2.out]); rintro e w5 ⟨rfl, hb5⟩))
    all_goals
      have HB4 := Lib.hid ((Below.drewN' HB3.out 1).trans (hb4.mono (show w.heap.size ≤ w3.drew.heap.size from hs3))); clear hb4
      have hs4 := HB4.out.size
      have HB5 := Lib.hid (HB4.out.trans (hb5.mono hs4)); clear hb5
      clear hr1 hr2 hm0 hm1 hm2 q1
      go_wp2_with fail
      go_ret
      exact ⟨rfl, HB5.out⟩

end Go.Proofs.Ytcpkadenejlbjaa
