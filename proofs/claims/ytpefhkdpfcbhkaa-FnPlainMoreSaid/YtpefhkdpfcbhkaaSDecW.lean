/- Contracts: the reference's l2Decode and Base64Decode. -/
import Derived.Test.YtpefhkdpfcbhkaaDec2W
import Derived.Test.YtpefhkdpfcbhkaaValW
namespace Go.Proofs.Ytpefhkdpfcbhkaa
open Go.RowKit
set_option linter.unusedVariables false

theorem cell_three_new (w : World) (a b c : Value) (t : TypeId) : ∀ j u, [a, b, c][j]? = some u → (w.alloc (.cells #[a, b, c] t)).cell? ((⟨w.heap.size, 0, none⟩ : Addr).add j) = some u := by
  intro j u hj
  match j, hj with
  | 0, hj => simp at hj; subst hj; simp [Addr.add]
  | 1, hj => simp at hj; subst hj; simp [Addr.add]
  | 2, hj => simp at hj; subst hj; simp [Addr.add]
/-- The number of the first i signs of four. -/
def nPart (s : ByteArray) (t : Nat) : Nat → Nat
  | 0 => 0
  | i + 1 => 64 * nPart s t i + (if h : t + i < s.size then vl0 s[t + i] else 0)
theorem nPart_lt (s : ByteArray) (t i : Nat) (h : i ≤ 4) : nPart s t i < 16777216 := by
  have key : ∀ k, (if h : t + k < s.size then vl0 s[t + k] else 0) < 64 := by
    intro k; split
    · exact vl0_lt _
    · omega
  have h0 := key 0; have h1 := key 1; have h2 := key 2; have h3 := key 3
  match i, h with
  | 0, _ => simp [nPart]
  | 1, _ => simp only [nPart]; omega
  | 2, _ => simp only [nPart]; omega
  | 3, _ => simp only [nPart]; omega
  | 4, _ => simp only [nPart]; omega
theorem nPart_four (s : ByteArray) (t : Nat) (h : t + 4 ≤ s.size) : nPart s t 4 = n4 s[t] s[t + 1] s[t + 2] s[t + 3] := by
  simp only [nPart, n4]
  rw [dif_pos (show t + 0 < s.size by omega), dif_pos (show t + 1 < s.size by omega), dif_pos (show t + 2 < s.size by omega), dif_pos (show t + 3 < s.size by omega)]
  simp only [Nat.mul_zero, Nat.zero_add, Nat.add_zero]
theorem nPart_succ (s : ByteArray) (t i : Nat) (h : t + i < s.size) : nPart s t (i + 1) = 64 * nPart s t i + vl0 s[t + i] := by simp only [nPart]; rw [dif_pos h]
theorem rawS_step (s : ByteArray) (t : Nat) (h4 : t % 4 = 0) (h : t + 4 ≤ s.size) : rawS ((bl s).take (t + 4)) = rawS ((bl s).take t) ++ bytes3 (nPart s t 4) := by
  have hl := bl_length s
  rw [List.take_add, rawS_app _ _ (by rw [List.length_take, Nat.min_eq_left (by omega)]; exact h4), nPart_four s t h]
  congr 1
  rw [List.drop_eq_getElem_cons (by omega), List.drop_eq_getElem_cons (by omega), List.drop_eq_getElem_cons (by omega), List.drop_eq_getElem_cons (by omega), bl_get s t (by omega), bl_get s (t + 1) (by omega), bl_get s (t + 1 + 1) (by omega), bl_get s (t + 1 + 1 + 1) (by omega)]
  simp only [List.take_succ_cons, List.take_zero]
  rw [rawS_four]
  simp [rawS]
theorem rawS_rest (s : ByteArray) (t : Nat) (h4 : t % 4 = 0) (ht : t ≤ s.size) (h : s.size < t + 4) : rawS (bl s) = rawS ((bl s).take t) := by
  have hl := bl_length s
  have : bl s = (bl s).take t ++ (bl s).drop t := (List.take_append_drop t (bl s)).symm
  rw [this, rawS_app _ _ (by rw [List.length_take, Nat.min_eq_left (by omega)]; exact h4)]
  have hd : rawS ((bl s).drop t) = [] := by
    have hlen : ((bl s).drop t).length < 4 := by rw [List.length_drop]; omega
    match hb : (bl s).drop t with
    | [] => rfl
    | [a] => rfl
    | [a, b] => rfl
    | [a, b, c] => rfl
    | a :: b :: c :: d :: r => rw [hb] at hlen; simp at hlen; omega
  rw [hd, List.append_nil, ← this]
theorem bytes3_cells (l : List UInt8) (M : Nat) (hM : M < 16777216) : Lib.byteCells (l ++ bytes3 M) = Lib.byteCells l ++ [.int .u8 ((M : Int) / 65536), .int .u8 ((M : Int) / 256 % 256), .int .u8 ((M : Int) % 256)] := by
  have h0 : (UInt8.ofNat (M / 65536)).toNat = M / 65536 := by rw [UInt8.toNat_ofNat']; exact Nat.mod_eq_of_lt (by omega)
  have h1 : (UInt8.ofNat (M / 256 % 256)).toNat = M / 256 % 256 := by rw [UInt8.toNat_ofNat']; exact Nat.mod_eq_of_lt (by omega)
  have h2 : (UInt8.ofNat (M % 256)).toNat = M % 256 := by rw [UInt8.toNat_ofNat']; exact Nat.mod_eq_of_lt (by omega)
  simp only [Lib.byteCells, List.map_append, bytes3, List.map_cons, List.map_nil, h0, h1, h2]
  rfl
theorem max_vl (c : UInt8) : (if vlI c < 0 then (0 : Int) else vlI c) = ((vl0 c : Nat) : Int) ∧ max (vlI c) 0 = ((vl0 c : Nat) : Int) := by
  have := vl_range c
  unfold vl0
  constructor
  · split <;> omega
  · omega

set_option maxHeartbeats 4000000 in
set_option maxRecDepth 8000 in
theorem l2Decode_any (s : ByteArray) (w : World) (hs : s.size ≤ 1000) :
    Calls Try.prog 39 #[.string s] w fun e w' => e = .returned (.string ⟨(rawS (bl s)).toArray⟩) ∧ Below w.heap.size w w' := by
  obtain ⟨i0, hi0, hz0, hz1, hz2⟩ := info_parts infoByte
  go_enter Try.func39, Try.ntmps39
  go_wp2_with fail
  go_loopg [3, 4] (s.size + 4) (fun k v iv wr => ∃ (t : Nat) (l : List UInt8), t % 4 = 0 ∧ t ≤ s.size ∧ k = s.size + 4 - t ∧ iv = .int .i64 t ∧ l = rawS ((bl s).take t) ∧ wr.ownsRow w.heap.size 5 1 v l.length (Lib.byteCells l) ∧ Below w.heap.size w wr)
  case atStart => exact ⟨0, [], rfl, Nat.zero_le _, rfl, rfl, by simp [rawS], World.ownsRow_lit _ #[] 0 (Nat.le_refl _) (Nat.zero_le _) rfl, (Below.refl _ _).alloc (Nat.le_refl _) _⟩
  case round =>
    obtain ⟨t, l, ht4, hts, hk, rfl, hl, hown, hbw⟩ := hrel
    have HK := Lib.hid hk; clear hk
    have hll : l.length ≤ 3000 := by rw [hl, rawS_length, List.length_take]; omega
    have HT4 := Lib.hid ht4; clear ht4
    have HL := Lib.hid hl; clear hl
    have hzw := hbw.size
    have HBW := Lib.hid hbw; clear hbw
    have HOW := Lib.hid hown; clear hown
    by_cases hlt : t + 4 ≤ s.size
    · have hi : (t : Int) + 4 ≤ (s.size : Int) := by omega
      have HST := Lib.hid (rawS_step s t HT4.out hlt)
      have hN4 := nPart_lt s t 4 (by omega)
      go_wp2_with fail
      go_loopg [5, 6] 4 (fun k nv kv wq => ∃ i : Nat, i ≤ 4 ∧ k = 4 - i ∧ nv = .int .i64 (nPart s t i : Nat) ∧ kv = .int .i64 ((t + i : Nat) : Int) ∧ wr = wq)
      case atStart => exact ⟨0, Nat.zero_le _, rfl, rfl, rfl, rfl⟩
      case round =>
        obtain ⟨i, hi4, hk2, rfl, rfl, rfl⟩ := hrel
        have HK2 := Lib.hid hk2; clear hk2
        have hNi := nPart_lt s t i hi4
        by_cases hlt2 : i < 4
        · have hti : t + i < s.size := by omega
          have HSU := Lib.hid (nPart_succ s t i hti)
          have hv := max_vl (s[t + i])
          have hv64 := vl0_lt (s[t + i])
          have HV := Lib.hid (show s[t + i] = s[t + i]'hti from rfl)
          generalize nPart s t i = C at *
          have hx : ((t + i : Nat) : Int) < (t : Int) + 4 := by omega
          have hx2 : ((t + i : Nat) : Int) < (s.size : Int) := by omega
          go_wp2_with fail
          refine (value_any (s[t + i]) _).mono ?_
          rintro e w2 ⟨rfl, rfl⟩
          clear HV
          go_wp2_with fail
          go_roundg (4 - (i + 1))
          case measure => rw [HK2.out]; omega
          case rel => exact ⟨i + 1, by omega, rfl, by rw [HSU.out]; push_cast; rfl, by go_num, rfl⟩
        · obtain rfl : i = 4 := by omega
          generalize nPart s t 4 = M at *
          have hx : ¬ ((t + 4 : Nat) : Int) < (t : Int) + 4 := by omega
          go_wp2_with (at_builtin; refine wpList_append_own _ rfl _ _ 22 rfl w.heap.size 5 i0 (.int .u8 0) 1 1 Try.underlying22 hi0 hz0 hz1 hz2 rfl (by decide) _ _ _ rfl (HOW.out.alloc _) ⟨wr.heap.size, 0, none⟩ 3 3 [.int .u8 ((M : Int) / 65536), .int .u8 ((M : Int) / 256 % 256), .int .u8 ((M : Int) % 256)] rfl rfl (cell_three_new _ _ _ _ _) (by simp [Value.oneCell']) (by unfold maxLen; omega) (by omega) (by simp; omega) ?_; intro v' w5 hown' hgrow _)
          have HO5 := Lib.hid hown'; clear hown'
          have HB5 := Lib.hid ((HBW.out.alloc hzw _).grown hgrow (by simp; omega) (fun k e => (HOW.out.lt k e).1)); clear hgrow
          have HBC := Lib.hid (bytes3_cells l M hNi)
          go_wp2_with fail
          go_roundg (s.size + 4 - (t + 4))
          case measure => rw [HK.out]; omega
          case rel => exact ⟨t + 4, l ++ bytes3 M, by have := HT4.out; omega, by omega, rfl, by go_num, by rw [HST.out, HL.out], by rw [HBC.out, List.length_append]; exact HO5.out, HB5.out⟩
    · have hi : ¬ (t : Int) + 4 ≤ (s.size : Int) := by omega
      have HLF := Lib.hid (show rawS (bl s) = l by rw [rawS_rest s t HT4.out hts (by omega), HL.out])
      have hconv := own_string HOW.out
      go_wp2_with fail
      go_ret
      exact ⟨by rw [HLF.out]; rfl, HBW.out⟩

/-- What one cut of the raw bytes gives. -/
def cutA (s : ByteArray) (c : Nat) : List UInt8 := (rawS (bl s)).take ((rawS (bl s)).length - c)
theorem cutA_ext (s : ByteArray) (c : Nat) : (⟨(rawS (bl s)).toArray⟩ : ByteArray).extract 0 ((rawS (bl s)).length - c) = ⟨(cutA s c).toArray⟩ := by
  refine bl_inj ?_
  rw [bl_extract]; rfl
theorem dec_some (s : ByteArray) (d : List UInt8) (h : decI (bl s) = some d) : decB s = ⟨d.toArray⟩ ∧ decOk s = true := by
  unfold decB decOk; rw [h]; exact ⟨rfl, rfl⟩

set_option maxHeartbeats 4000000 in
theorem specDec_short (s : ByteArray) (w : World) (hs : s.size ≤ 40) (hm : s.size % 4 = 0) :
    Calls Try.prog 22 #[.string s] w fun e w' => e = .returned (.tuple #[.string (decB s), .bool (decOk s)]) ∧ Below w.heap.size w w' := by
  have hi : ¬ (40 : Int) < (s.size : Int) := by omega
  have hd : decide ((40 : Int) < (s.size : Int)) = false := decide_eq_false hi
  have hm1 : (s.size : Int) % 4 = 0 := by omega
  have hm2 : (s.size : Int).tmod 4 = 0 := by rw [Int.tmod_eq_emod_of_nonneg (by omega)]; exact hm1
  have HX := Lib.hid (cutA_ext s)
  have HDS := Lib.hid (dec_some s)
  have HHIT := Lib.hid (fun c (h : encL (cutA s c) = bl s) => dec_hit (t := bl s) c (by rw [bl_length]; exact hs) h)
  have HMISS := Lib.hid (fun (h : ∀ c, c ≤ 2 → c ≤ (rawS (bl s)).length → encL (cutA s c) ≠ bl s) => dec_no s (dec_miss (h 0 (by omega) (by omega)) (fun h1 => h 1 (by omega) h1) (fun h2 => h 2 (by omega) h2)))
  have hnl := rawS_length (bl s)
  have hAL : (rawS (bl s)).length ≤ 30 := by rw [hnl, bl_length]; omega
  clear hnl
  go_enter Try.func22, Try.ntmps22
  go_wp2_with fail
  refine (l2Decode_any s _ (by omega)).mono ?_
  rintro e w1 ⟨rfl, hb1⟩
  have HB1 := Lib.hid hb1; clear hb1
  generalize hX : (⟨(rawS (bl s)).toArray⟩ : ByteArray) = X at *
  have hXs : X.size = (rawS (bl s)).length := by rw [← hX, size_mk, List.size_toArray]
  rw [← hXs] at HX hAL HMISS
  have HXS := Lib.hid hXs; clear hXs hX
  go_wp2_with fail
  go_loopg [5] 3 (fun k iv wr => ∃ c : Nat, c ≤ 3 ∧ k = 3 - c ∧ iv = .int .i64 c ∧ (∀ j, j < c → j ≤ X.size → encL (cutA s j) ≠ bl s) ∧ Below w.heap.size w wr)
  case atStart => exact ⟨0, by omega, rfl, rfl, fun j h => by omega, HB1.out⟩
  case round =>
    obtain ⟨c, hc, hk, rfl, hno, hbw⟩ := hrel
    have HK := Lib.hid hk; clear hk
    have HNO := Lib.hid hno; clear hno
    have hzw := hbw.size
    have HBW := Lib.hid hbw; clear hbw
    by_cases h2 : c ≤ 2
    · have d2 : decide ((c : Int) ≤ 2) = true := decide_eq_true (by omega)
      by_cases hx : c ≤ X.size
      · have hx' : (c : Int) ≤ (X.size : Int) := by omega
        have hz1' : (0 : Int) ≤ (X.size : Int) - (c : Int) := by omega
        have hz2' : (X.size : Int) - (c : Int) ≤ (X.size : Int) := by omega
        have hz3' : ((X.size : Int) - (c : Int)).toNat = X.size - c := by omega
        have hXC := HX.out c
        have hcl : (⟨(cutA s c).toArray⟩ : ByteArray).size ≤ 40 := by rw [← hXC]; simp; omega
        go_wp2_with fail
        refine (l2Encode_any ⟨(cutA s c).toArray⟩ _ (by omega)).mono ?_
        by_cases he : encL (cutA s c) = bl s
        · have hE : (⟨(encL (bl ⟨(cutA s c).toArray⟩)).toArray⟩ : ByteArray) = s := bl_inj he
          have HD := Lib.hid (HDS.out _ (HHIT.out c he))
          rw [hE]
          clear he hE
          rintro e w2 ⟨rfl, hb2⟩
          have HB2 := Lib.hid (HBW.out.trans (hb2.mono hzw)); clear hb2
          go_wp2_with fail
          go_ret2
          exact ⟨by rw [HD.out.1, HD.out.2]; rfl, HB2.out⟩
        · have hne : ((⟨(encL (bl ⟨(cutA s c).toArray⟩)).toArray⟩ : ByteArray).toList == s.toList) = false := by
            rw [beq_eq_false_iff_ne, ByteArray.toList_eq, ByteArray.toList_eq]
            exact fun e => he e
          have HE := Lib.hid he; clear he
          generalize (⟨(encL (bl ⟨(cutA s c).toArray⟩)).toArray⟩ : ByteArray) = E at *
          rintro e w2 ⟨rfl, hb2⟩
          have HB2 := Lib.hid (HBW.out.trans (hb2.mono hzw)); clear hb2
          clear hXC hcl
          go_wp2_with fail
          go_roundg (3 - (c + 1))
          case measure => rw [HK.out]; omega
          case rel =>
            refine ⟨c + 1, by omega, rfl, by go_num, fun j hj hjx => ?_, HB2.out⟩
            by_cases ej : j = c
            · rw [ej]; exact HE.out
            · exact HNO.out j (by omega) hjx
      · have hx' : ¬ (c : Int) ≤ (X.size : Int) := by omega
        have dx : decide ((c : Int) ≤ (X.size : Int)) = false := decide_eq_false hx'
        have HD := Lib.hid (HMISS.out (fun j hj hjx => HNO.out j (by omega) hjx))
        go_wp2_with fail
        go_ret2
        exact ⟨by rw [HD.out.1, HD.out.2]; rfl, HBW.out⟩
    · have d2 : decide ((c : Int) ≤ 2) = false := decide_eq_false (by omega)
      have HD := Lib.hid (HMISS.out (fun j hj hjx => HNO.out j (by omega) hjx))
      go_wp2_with fail
      go_ret2
      exact ⟨by rw [HD.out.1, HD.out.2]; rfl, HBW.out⟩

theorem specDec_any (s : ByteArray) (w : World) (hs : s.size ≤ 2000000) :
    Calls Try.prog 22 #[.string s] w fun e w' => e = .returned (.tuple #[.string (decB s), .bool (decOk s)]) ∧ Below w.heap.size w w' := by
  by_cases h : s.size ≤ 40
  · by_cases hm : s.size % 4 = 0
    · exact specDec_short s w h hm
    · have hd : decide ((40 : Int) < (s.size : Int)) = false := decide_eq_false (by omega)
      have hm1 : ¬ (s.size : Int) % 4 = 0 := by omega
      have hm2 : ((s.size : Int) % 4 != 0) = true := by simp; omega
      obtain ⟨h1, h2⟩ := dec_no s (dec_none_mod (by rw [bl_length]; exact hm))
      rw [h1, h2]
      clear h1 h2 hm
      go_enter Try.func22, Try.ntmps22
      go_wp2_with fail
      go_ret2
      exact ⟨rfl, Below.refl _ _⟩
  · have hi : (40 : Int) < (s.size : Int) := by omega
    have hd : decide ((40 : Int) < (s.size : Int)) = true := decide_eq_true hi
    obtain ⟨h1, h2⟩ := dec_no s (dec_none_long (by rw [bl_length]; omega))
    rw [h1, h2]
    clear h1 h2
    go_enter Try.func22, Try.ntmps22
    go_wp2_with fail
    go_ret2
    exact ⟨rfl, Below.refl _ _⟩

end Go.Proofs.Ytpefhkdpfcbhkaa
