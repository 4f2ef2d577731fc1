/- Contracts: base64Read. -/
import Derived.Test.YtpefhkdpfcbhkaaEncD
import Derived.Laws.BytesArg
import Derived.Laws.IdiomStrings
namespace Go.Proofs.Ytpefhkdpfcbhkaa
open Go.RowKit
set_option linter.unusedVariables false

theorem or_add6 (C X : Nat) (hC : C < 16777216) (hX : X < 64) : bits .or .i64 ((C : Int) * 64) (X : Int) = ((C * 64 + X : Nat) : Int) := by
  have h1 : ((C : Int) * 64) = ((C * 64 : Nat) : Int) := by rw [Int.natCast_mul]; rfl
  have h2 : C <<< 6 + X = C <<< 6 ||| X := Nat.shiftLeft_add_eq_or_of_lt (by omega) C
  have h3 : C <<< 6 = C * 64 := Nat.shiftLeft_eq C 6
  rw [h1, i64_or_nat (C * 64) X (by omega) (by omega), ← h3, ← h2]
theorem dig_take_yes (l : List UInt8) (j : Nat) (h : j < l.length) (hd : (dig (l.take j)).length = j) (hv : 0 ≤ vlI l[j]) : dig (l.take (j + 1)) = dig (l.take j) ++ [(vlI l[j]).toNat] := by
  induction l generalizing j with
  | nil => simp at h
  | cons c r ih =>
    cases j with
    | zero => simp only [List.take_succ_cons, List.take_zero, dig, List.getElem_cons_zero] at hv ⊢; rw [if_neg (by omega)]; rfl
    | succ j =>
      simp only [List.take_succ_cons, dig] at hd ⊢
      split at hd
      · simp at hd
      · rename_i hc
        rw [if_neg hc, if_neg hc, ih j (by simpa using h) (by simpa using hd) (by simpa using hv)]; simp
theorem dig_take_no (l : List UInt8) (j : Nat) (h : j < l.length) (hd : (dig (l.take j)).length = j) (hv : vlI l[j] < 0) : dig l = dig (l.take j) := by
  induction l generalizing j with
  | nil => simp at h
  | cons c r ih =>
    cases j with
    | zero => simp only [List.take_zero, dig, List.getElem_cons_zero] at hv ⊢; rw [if_pos hv]
    | succ j =>
      simp only [List.take_succ_cons, dig] at hd ⊢
      split at hd
      · simp at hd
      · rename_i hc
        rw [if_neg hc, if_neg hc, ih j (by simpa using h) (by simpa using hd) (by simpa using hv)]
theorem numD_snoc (ds : List Nat) (d : Nat) : numD (ds ++ [d]) = numD ds * 64 + d := by simp [numD]; omega
theorem dig_lt (l : List UInt8) : ∀ d ∈ dig l, d < 64 := by
  induction l with
  | nil => simp [dig]
  | cons c r ih =>
    unfold dig
    split
    · simp
    · intro d hd
      rcases List.mem_cons.1 hd with rfl | hd
      · have := vl_range c; omega
      · exact ih d hd
theorem numD_lt (ds : List Nat) (h : ∀ d ∈ ds, d < 64) (h4 : ds.length ≤ 4) : numD ds < 64 ^ ds.length := by
  match ds, h4 with
  | [], _ => simp [numD]
  | [a], _ => have := h a (by simp); simp [numD]; omega
  | [a, b], _ => have := h a (by simp); have := h b (by simp); simp [numD]; omega
  | [a, b, c], _ => have := h a (by simp); have := h b (by simp); have := h c (by simp); simp [numD]; omega
  | [a, b, c, d], _ => have := h a (by simp); have := h b (by simp); have := h c (by simp); have := h d (by simp); simp [numD]; omega
  | a :: b :: c :: d :: e :: r, h4 => simp only [List.length_cons] at h4; omega
theorem pow_bd (j : Nat) (h : j ≤ 4) : 64 ^ j ≤ 16777216 := by
  match j, h with
  | 0, _ => decide
  | 1, _ => decide
  | 2, _ => decide
  | 3, _ => decide
  | 4, _ => decide

theorem three_cells (M : Nat) (hM : M < 16777216) (w : World) (t : TypeId) (j : Nat) (hj : j < (bytes3 M).length) :
    (w.alloc (.cells #[.int .u8 ((M : Int) / 65536), .int .u8 ((M : Int) / 256 % 256), .int .u8 ((M : Int) % 256)] t)).cell? ((⟨w.heap.size, 0, none⟩ : Addr).add j) = some (.int .u8 ((bytes3 M)[j].toNat : Int)) := by
  have h0 : (UInt8.ofNat (M / 65536)).toNat = M / 65536 := by rw [UInt8.toNat_ofNat']; exact Nat.mod_eq_of_lt (by omega)
  have h1 : (UInt8.ofNat (M / 256 % 256)).toNat = M / 256 % 256 := by rw [UInt8.toNat_ofNat']; exact Nat.mod_eq_of_lt (by omega)
  have h2 : (UInt8.ofNat (M % 256)).toNat = M % 256 := by rw [UInt8.toNat_ofNat']; exact Nat.mod_eq_of_lt (by omega)
  match j, hj with
  | 0, _ => simp only [bytes3, List.getElem_cons_zero]; rw [h0]; simp [Addr.add]
  | 1, _ => simp only [bytes3, List.getElem_cons_succ, List.getElem_cons_zero]; rw [h1]; simp [Addr.add]
  | 2, _ => simp only [bytes3, List.getElem_cons_succ, List.getElem_cons_zero]; rw [h2]; simp [Addr.add]
  | j + 3, hj => exact absurd hj (by simp [bytes3])
theorem three_conv (M K : Nat) (hM : M < 16777216) (hK : (K : Int) ≤ 3) (w : World) (t : TypeId) :
    (convert 22 9 (.slice (some ⟨w.heap.size, 0, none⟩) K 3)).run Try.prog (w.alloc (.cells #[.int .u8 ((M : Int) / 65536), .int .u8 ((M : Int) / 256 % 256), .int .u8 ((M : Int) % 256)] t)) = .ok (.string ⟨((bytes3 M).take K).toArray⟩) (w.alloc (.cells #[.int .u8 ((M : Int) / 65536), .int .u8 ((M : Int) / 256 % 256), .int .u8 ((M : Int) % 256)] t)) := by
  have hl : ((bytes3 M).take K).length = K := by simp [bytes3]; omega
  have h := run_convert_bytes_back (w.alloc (.cells #[.int .u8 ((M : Int) / 65536), .int .u8 ((M : Int) / 256 % 256), .int .u8 ((M : Int) % 256)] t)) 22 9 5 ⟨w.heap.size, 0, none⟩ 3 ((bytes3 M).take K) Try.underlying22 Try.underlying5 Try.underlying9 (fun j hj => by
    rw [List.getElem_take]
    exact three_cells M hM w t j (by rw [List.length_take] at hj; omega))
  rw [hl] at h
  exact h
theorem shl_bd (C i j : Nat) (hC : C < 64 ^ j) (hi : i ≤ 4 - j) : C * 64 ^ i < 16777216 ∨ j > 4 := by
  by_cases hj : j ≤ 4
  · left
    have h1 : C * 64 ^ i < 64 ^ j * 64 ^ i := Nat.mul_lt_mul_of_pos_right hC (Nat.pow_pos (by omega))
    rw [← Nat.pow_add] at h1
    exact Nat.lt_of_lt_of_le h1 (pow_bd (j + i) (by omega))
  · right; omega

set_option maxHeartbeats 4000000 in
set_option maxRecDepth 8000 in
theorem base64Read_any (g : ByteArray) (w : World) (hg : g.size ≤ 4) :
    Calls Try.prog 36 #[.string g] w fun e w' => e = .returned (.string ⟨(rd (bl g)).toArray⟩) ∧ Below w.heap.size w w' := by
  generalize hR : (rd (bl g)).toArray = R
  have HR := Lib.hid hR; clear hR
  go_enter Try.func36, Try.ntmps36
  go_wp2_with fail
  go_loopg [3, 4] g.size (fun k bv iv wr => ∃ j : Nat, j ≤ g.size ∧ k = g.size - j ∧ iv = .int .i64 j ∧ (dig ((bl g).take j)).length = j ∧ bv = .int .i64 (numD (dig ((bl g).take j)) : Nat) ∧ w = wr)
  case atStart => exact ⟨0, by omega, rfl, rfl, by simp [dig], rfl, rfl⟩
  case round =>
    obtain ⟨j, hj, hk, rfl, hdl, rfl, rfl⟩ := hrel
    have HK := Lib.hid hk; clear hk
    have hC := numD_lt _ (dig_lt ((bl g).take j)) (by omega)
    rw [hdl] at hC
    have hC2 := pow_bd j (by omega)
    have HDL := Lib.hid hdl; clear hdl
    by_cases hlt : j < g.size
    · have hi : (j : Int) < (g.size : Int) := by omega
      have hvr := vl_range (g[j])
      have HDY := Lib.hid (dig_take_yes (bl g) j (by rw [bl_length]; exact hlt) HDL.out)
      have HDN := Lib.hid (dig_take_no (bl g) j (by rw [bl_length]; exact hlt) HDL.out)
      rw [bl_get g j hlt] at HDY HDN
      have HVL := Lib.hid (show Lib.indexByte sgnL ((((g[j]).toNat : Int)).toNat.toUInt8) = vlI g[j] by unfold vlI; congr 1; simp)
      go_wp2_with fail
      refine (Try.strings_IndexByte _ _ _).mono ?_
      rintro e w1 ⟨h1, h2⟩
      obtain rfl : w = w1 := h2.symm
      clear h2
      obtain rfl : e = .returned (.int .i64 (vlI g[j])) := h1.trans (congrArg (fun z => Ending.returned (.int .i64 z)) HVL.out)
      clear h1
      generalize hC0 : numD (dig ((bl g).take j)) = C at hC ⊢
      by_cases hneg : vlI g[j] < 0
      · have HDF := Lib.hid (HDN.out hneg)
        have hj4 : j ≤ 4 := by omega
        have HRR := Lib.hid (show R = ((bytes3 (C * 64 ^ (4 - j))).take (j * 6 / 8)).toArray by rw [← HR.out]; unfold rd; rw [HDF.out, HDL.out, hC0])
        clear hC0
        have hs0 : (0 : Int) ≤ 4 - (j : Int) := by omega
        go_wp2_with fail
        go_loopg [3, 25] (4 - j) (fun k bv iv wr => ∃ i : Nat, i ≤ 4 - j ∧ k = 4 - j - i ∧ bv = .int .i64 ((C * 64 ^ i : Nat) : Int) ∧ iv = .int .i64 i ∧ w = wr)
        case atStart => exact ⟨0, Nat.zero_le _, rfl, by simp, rfl, rfl⟩
        case round =>
          obtain ⟨i, hi4, hk2, rfl, rfl, rfl⟩ := hrel
          have HK2 := Lib.hid hk2; clear hk2
          have hD := shl_bd C i j hC hi4
          by_cases hlt2 : i < 4 - j
          · have hi2 : (i : Int) < 4 - (j : Int) := by omega
            have HPW := Lib.hid (show C * 64 ^ (i + 1) = C * 64 ^ i * 64 by rw [Nat.pow_succ, Nat.mul_assoc])
            have hD2 := shl_bd C (i + 1) j hC (by omega)
            rw [HPW.out] at hD2
            generalize C * 64 ^ i = D at *
            go_wp2_with fail
            go_roundg (4 - j - (i + 1))
            case measure => rw [HK2.out]; omega
            case rel => exact ⟨i + 1, by omega, rfl, by rw [HPW.out]; push_cast; rfl, by go_num, rfl⟩
          · obtain rfl : i = 4 - j := by omega
            have hi2 : ¬ ((4 - j : Nat) : Int) < 4 - (j : Int) := by omega
            generalize C * 64 ^ (4 - j) = M at *
            obtain ⟨K, hK⟩ : ∃ K : Nat, K = j * 6 / 8 := ⟨_, rfl⟩
            have hK8 : (j : Int) * 6 / 8 = (K : Int) := by omega
            have hK3 : (K : Int) ≤ 3 := by omega
            rw [← hK] at HRR
            clear hK
            have hM : M < 16777216 := hD.resolve_right (by omega)
            have hconv := three_conv M K hM hK3 w 69
            go_wp2_with fail
            go_ret
            exact ⟨by rw [HRR.out]; rfl, (Below.refl _ _).alloc (Nat.le_refl _) _⟩
      · obtain ⟨d, hd⟩ := Int.eq_ofNat_of_zero_le (show 0 ≤ vlI g[j] by omega)
        rw [hd] at hvr ⊢
        have hd64 : d < 64 := by omega
        have HOR := Lib.hid (or_add6 C d (by omega) hd64)
        have HN := Lib.hid (show numD (dig ((bl g).take (j + 1))) = C * 64 + d by rw [HDY.out (by omega), numD_snoc, hC0, hd]; simp)
        have HLN := Lib.hid (show (dig ((bl g).take (j + 1))).length = j + 1 by rw [HDY.out (by omega), List.length_append, HDL.out]; rfl)
        have hdn : ¬ (d : Int) < 0 := by omega
        clear hneg hd hC0
        go_wp2_with fail
        go_roundg (g.size - (j + 1))
        case measure => rw [HK.out]; omega
        case rel => exact ⟨j + 1, by omega, rfl, by go_num, HLN.out, by rw [HN.out, HOR.out], rfl⟩
    · obtain rfl : j = g.size := by omega
      have HDF := Lib.hid (show dig (bl g) = dig ((bl g).take g.size) by rw [List.take_of_length_le (by rw [bl_length]; exact Nat.le_refl _)])
      generalize hC0 : numD (dig ((bl g).take g.size)) = C at hC ⊢
      have hi : ¬ (g.size : Int) < (g.size : Int) := by omega
      have hj4 : g.size ≤ 4 := by omega
      have HRR := Lib.hid (show R = ((bytes3 (C * 64 ^ (4 - g.size))).take (g.size * 6 / 8)).toArray by rw [← HR.out]; unfold rd; rw [HDF.out, HDL.out, hC0])
      clear hC0
      have hs0 : (0 : Int) ≤ 4 - (g.size : Int) := by omega
      go_wp2_with fail
      go_loopg [3, 25] (4 - g.size) (fun k bv iv wr => ∃ i : Nat, i ≤ 4 - g.size ∧ k = 4 - g.size - i ∧ bv = .int .i64 ((C * 64 ^ i : Nat) : Int) ∧ iv = .int .i64 i ∧ w = wr)
      case atStart => exact ⟨0, Nat.zero_le _, rfl, by simp, rfl, rfl⟩
      case round =>
        obtain ⟨i, hi4, hk2, rfl, rfl, rfl⟩ := hrel
        have HK2 := Lib.hid hk2; clear hk2
        have hD := shl_bd C i g.size hC hi4
        by_cases hlt2 : i < 4 - g.size
        · have hi2 : (i : Int) < 4 - (g.size : Int) := by omega
          have HPW := Lib.hid (show C * 64 ^ (i + 1) = C * 64 ^ i * 64 by rw [Nat.pow_succ, Nat.mul_assoc])
          have hD2 := shl_bd C (i + 1) g.size hC (by omega)
          rw [HPW.out] at hD2
          generalize C * 64 ^ i = D at *
          go_wp2_with fail
          go_roundg (4 - g.size - (i + 1))
          case measure => rw [HK2.out]; omega
          case rel => exact ⟨i + 1, by omega, rfl, by rw [HPW.out]; push_cast; rfl, by go_num, rfl⟩
        · obtain rfl : i = 4 - g.size := by omega
          have hi2 : ¬ ((4 - g.size : Nat) : Int) < 4 - (g.size : Int) := by omega
          generalize C * 64 ^ (4 - g.size) = M at *
          obtain ⟨K, hK⟩ : ∃ K : Nat, K = g.size * 6 / 8 := ⟨_, rfl⟩
          have hK8 : (g.size : Int) * 6 / 8 = (K : Int) := by omega
          have hK3 : (K : Int) ≤ 3 := by omega
          rw [← hK] at HRR
          clear hK
          have hM : M < 16777216 := hD.resolve_right (by omega)
          have hconv := three_conv M K hM hK3 w 69
          go_wp2_with fail
          go_ret
          exact ⟨by rw [HRR.out]; rfl, (Below.refl _ _).alloc (Nat.le_refl _) _⟩

end Go.Proofs.Ytpefhkdpfcbhkaa
