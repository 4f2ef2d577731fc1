/- Contracts: the reference's numbers in a text. -/
import Derived.Test.YthabmjadfomnkaaDoorSetPW
import Derived.Test.YthabmjadfomnkaaDoorCutW
namespace Go.Proofs.YthabmjadfomnkaaDoor
open Go.RowKit
set_option linter.unusedVariables false

theorem bl_one (x : ByteArray) (h : x.size = 1) : bl x = [x[0]] := by
  have := bl_drop_cons x 0 (by omega)
  rw [List.drop_zero, bl_drop_end x 1 (by omega)] at this
  exact this
theorem bl_two (x : ByteArray) (h : x.size = 2) : bl x = [x[0], x[1]] := by
  have h0 := bl_drop_cons x 0 (by omega)
  have h1 := bl_drop_cons x 1 (by omega)
  rw [List.drop_zero] at h0
  rw [bl_drop_end x 2 (by omega)] at h1
  rw [h0, h1]
theorem numW_end (x : ByteArray) (n : Int) (h1 : 1 ≤ x.size) (h2 : x.size ≤ 2) (h48 : x[0] ≠ 48) (hd : DigAt x 0 x.size n) : numW (bl x) = some n := by
  rcases hd with ⟨h, _⟩ | ⟨h, hd, hz, rfl⟩ | ⟨h, hd, he, hz, rfl⟩
  · omega
  · rw [bl_one x (by omega), numW_one, if_neg (by rintro e; rw [e] at hd; cases hd), hd, decide_eq_true h48]; rfl
  · rw [bl_two x (by omega), numW_two]
    simp only [Nat.zero_add] at he
    rw [hd, he, decide_eq_true h48]; rfl
theorem numW_bad (x : ByteArray) (j : Nat) (hj : j < x.size) (h2 : x.size ≤ 2) (hs : bl x ≠ [42]) (hd : dgB x[j] = false) : numW (bl x) = none := by
  by_cases h1 : x.size = 1
  · rw [bl_one x h1] at hs ⊢
    obtain rfl : j = 0 := by omega
    rw [numW_one, if_neg (fun e => hs (by rw [e])), hd]; rfl
  · rw [bl_two x (by omega), numW_two]
    obtain rfl | rfl : j = 0 ∨ j = 1 := by omega
    · rw [hd]; rfl
    · rw [hd]; simp
theorem numW_zero (x : ByteArray) (h1 : 1 ≤ x.size) (h2 : x.size ≤ 2) (h48 : x[0] = 48) : numW (bl x) = none := by
  by_cases h : x.size = 1
  · rw [bl_one x h, numW_one, h48]; rfl
  · rw [bl_two x (by omega), numW_two, h48]; simp
theorem numW_size (x : ByteArray) (h : x.size = 0 ∨ 2 < x.size) : numW (bl x) = none := by
  have hl := bl_length x
  match hb : bl x with
  | [] => rfl
  | [a] => rw [hb] at hl; simp at hl; omega
  | [a, b] => rw [hb] at hl; simp at hl; omega
  | a :: b :: c :: r => rfl
theorem toList_bl (x : ByteArray) : x.toList = bl x := ByteArray.toList_eq x

set_option maxHeartbeats 4000000 in
theorem l3Number_any (x : ByteArray) (w : World) (hx : x.size ≤ 1000000000) :
    Calls Tryd.prog 29 #[.string x] w fun e w' => e = .returned (.int .i64 ((numW (bl x)).getD (-1))) ∧ w = w' := by
  by_cases hstar : bl x = [42]
  · obtain rfl : x = ⟨#[42]⟩ := bl_inj hstar
    clear hstar
    go_enter Tryd.func29, Tryd.ntmps29
    go_wp2_with fail
    go_ret
    exact ⟨rfl, rfl⟩
  · have hst : (x.toList == [42]) = false := by rw [toList_bl]; simpa using hstar
    have HSTAR := Lib.hid hstar; clear hstar
    generalize hV : (numW (bl x)).getD (-1) = V
    have HV := Lib.hid hV; clear hV
    by_cases hsz : 1 ≤ x.size ∧ x.size ≤ 2
    · obtain ⟨hs1, hs2⟩ := hsz
      have d1 : decide ((1 : Int) ≤ (x.size : Int)) = true := decide_eq_true (by omega)
      have d2 : decide ((x.size : Int) ≤ 2) = true := decide_eq_true (by omega)
      by_cases h48 : x[0] = 48
      · obtain rfl : V = -1 := by rw [← HV.out, numW_zero x hs1 hs2 h48]; rfl
        have e48 : (((x[0]).toNat : Int) == 48) = true := by rw [h48]; rfl
        clear h48
        go_enter Tryd.func29, Tryd.ntmps29
        go_wp2_with fail
        refine (l6In_any _ _ _ _).mono ?_
        rintro e w1 ⟨rfl, rfl⟩
        rw [d1, d2]
        go_wp2_with fail
        go_ret
        exact ⟨rfl, rfl⟩
      · have e48 : (((x[0]).toNat : Int) == 48) = false := by
          rw [beq_eq_false_iff_ne]; intro h; exact h48 (UInt8.toNat_inj.1 (by have : (48 : UInt8).toNat = 48 := rfl; omega))
        have N48 := Lib.hid h48; clear h48
        go_enter Tryd.func29, Tryd.ntmps29
        go_wp2_with fail
        refine (l6In_any _ _ _ _).mono ?_
        rintro e w1 ⟨rfl, rfl⟩
        rw [d1, d2]
        go_wp2_with fail
        clear hst d1 d2 e48
        go_loopg [3, 4] x.size (fun k nv iv wr => ∃ (j : Nat) (n : Int), j ≤ x.size ∧ k = x.size - j ∧ DigAt x 0 j n ∧ nv = .int .i64 n ∧ iv = .int .i64 j ∧ w = wr)
        case atStart => exact ⟨0, 0, by omega, rfl, .inl ⟨rfl, rfl⟩, rfl, rfl, rfl⟩
        case round =>
          obtain ⟨j, n, hj, hk, hdig, rfl, rfl, rfl⟩ := hrel
          have hbd := hdig.bounds
          have HD := Lib.hid hdig; clear hdig
          have HK := Lib.hid hk; clear hk
          by_cases hlt : j < x.size
          · have hi : (j : Int) < (x.size : Int) := by omega
            cases hdg : dgB x[j]
            · obtain rfl : V = -1 := by rw [← HV.out, numW_bad x j hlt hs2 HSTAR.out hdg]; rfl
              have hno := dgB_no hdg
              clear hdg
              by_cases hlo : ((x[j]).toNat : Int) < 48
              · have d3 : decide (((x[j]).toNat : Int) < 48) = true := decide_eq_true hlo
                clear hno
                go_wp2_with fail
                go_ret
                exact ⟨rfl, rfl⟩
              · have hhi : (57 : Int) < ((x[j]).toNat : Int) := hno.resolve_left hlo
                have d3 : decide (((x[j]).toNat : Int) < 48) = false := decide_eq_false hlo
                have d4 : decide ((57 : Int) < ((x[j]).toNat : Int)) = true := decide_eq_true hhi
                clear hno
                go_wp2_with fail
                go_ret
                exact ⟨rfl, rfl⟩
            · have hfa := dgB_facts hdg
              have HN := Lib.hid (HD.out.next hlt (by omega) hdg)
              clear hdg
              obtain ⟨hf1, hf2⟩ := hfa
              have d3 : decide (((x[j]).toNat : Int) < 48) = false := decide_eq_false (by omega)
              have d4 : decide ((57 : Int) < ((x[j]).toNat : Int)) = false := decide_eq_false (by omega)
              have hf3 : ((x[j]).toNat : Int) - 48 ≤ 9 := by omega
              go_wp2_with fail
              go_roundg (x.size - (j + 1))
              case measure => rw [HK.out]; omega
              case rel => exact ⟨j + 1, _, by omega, rfl, HN.out, by congr 1; omega, by go_num, rfl⟩
          · obtain rfl : j = x.size := by omega
            have HNE := Lib.hid (show numW (bl x) = some n from numW_end x n hs1 hs2 N48.out HD.out)
            go_wp2_with fail
            go_ret
            exact ⟨by rw [← HV.out, HNE.out]; rfl, rfl⟩
    · obtain rfl : V = -1 := by rw [← HV.out, numW_size x (by omega)]; rfl
      have hl6 : (decide ((1 : Int) ≤ (x.size : Int)) && decide ((x.size : Int) ≤ 2)) = false := by
        rw [Bool.eq_false_iff]; intro h; simp at h; omega
      clear hsz
      go_enter Tryd.func29, Tryd.ntmps29
      go_wp2_with fail
      refine (l6In_any _ _ _ _).mono ?_
      rintro e w1 ⟨rfl, rfl⟩
      rw [hl6]
      go_wp2_with fail
      go_ret
      exact ⟨rfl, rfl⟩

end Go.Proofs.YthabmjadfomnkaaDoor
