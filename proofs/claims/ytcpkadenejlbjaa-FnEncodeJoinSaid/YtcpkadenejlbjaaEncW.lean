/- Contracts: base64Write. -/
import Derived.Test.YtcpkadenejlbjaaBldW
import Derived.Test.YtcpkadenejlbjaaB64W
import Derived.Test.YtcpkadenejlbjaaPlainBits
import Derived.Laws.Shifts
namespace Go.Proofs.Ytcpkadenejlbjaa
open Go.RowKit
set_option linter.unusedVariables false

/-- The i-th byte of a group, or 0. -/
def gv (s : ByteArray) (i : Nat) : Nat := if h : i < s.size then (s[i]).toNat else 0
theorem gv_lt (s : ByteArray) (i : Nat) : gv s i < 256 := by
  unfold gv
  split
  · exact UInt8.toNat_lt _
  · omega
theorem gv_in (s : ByteArray) (i : Nat) (h : i < s.size) : gv s i = (s[i]).toNat := by simp [gv, h]
theorem gv_out (s : ByteArray) (i : Nat) (h : ¬ i < s.size) : gv s i = 0 := by simp [gv, h]
theorem or_add (C X : Nat) (hC : C < 16777216) (hX : X < 256) : bits .or .i64 ((C : Int) * 256) (X : Int) = ((C * 256 + X : Nat) : Int) := by
  have h1 : ((C : Int) * 256) = ((C * 256 : Nat) : Int) := by rw [Int.natCast_mul]; rfl
  have h2 : C <<< 8 + X = C <<< 8 ||| X := Nat.shiftLeft_add_eq_or_of_lt (by omega) C
  have h3 : C <<< 8 = C * 256 := Nat.shiftLeft_eq C 8
  rw [h1, i64_or_nat (C * 256) X (by omega) (by omega), ← h3, ← h2]
/-- The number of the first j bytes. -/
def gbits (s : ByteArray) : Nat → Nat
  | 0 => 0
  | j + 1 => gbits s j * 256 + gv s j
theorem gbits_three (s : ByteArray) : gbits s 3 = gv s 0 * 65536 + gv s 1 * 256 + gv s 2 := by
  show ((0 * 256 + gv s 0) * 256 + gv s 1) * 256 + gv s 2 = _; omega
theorem gbits_lt (s : ByteArray) (j : Nat) (h : j ≤ 3) : gbits s j < 16777216 := by
  have h0 := gv_lt s 0; have h1 := gv_lt s 1; have h2 := gv_lt s 2
  match j, h with
  | 0, _ => show (0 : Nat) < _; omega
  | 1, _ => show 0 * 256 + gv s 0 < _; omega
  | 2, _ => show (0 * 256 + gv s 0) * 256 + gv s 1 < _; omega
  | 3, _ => rw [gbits_three]; omega
theorem gv_bl (s : ByteArray) (l : List UInt8) (h : bl s = l) (i : Nat) : gv s i = (l.getD i 0).toNat := by
  subst h
  by_cases hi : i < s.size
  · rw [gv_in s i hi, ← bl_get s i hi, List.getD_eq_getElem?_getD, List.getElem?_eq_getElem (by rw [bl_length]; exact hi)]; rfl
  · rw [gv_out s i hi, List.getD_eq_getElem?_getD, List.getElem?_eq_none (by rw [bl_length]; omega)]; rfl
/-- A group's signs, by its number. -/
theorem grp_bits (g : ByteArray) (h1 : 1 ≤ g.size) (h3 : g.size ≤ 3) : grp (bl g) = [sgn (gbits g 3 / 262144 % 64), sgn (gbits g 3 / 4096 % 64), if 2 ≤ g.size then sgn (gbits g 3 / 64 % 64) else 61, if 3 ≤ g.size then sgn (gbits g 3 % 64) else 61] := by
  have hl := bl_length g
  have hN := gbits_three g
  have hlt := gbits_lt g 3 (by omega)
  have e0 : gbits g 3 / 262144 % 64 = gbits g 3 / 262144 := by omega
  rw [e0]
  match hb : bl g with
  | [] => rw [hb] at hl; simp at hl; omega
  | [a] =>
    rw [hb] at hl; simp at hl
    rw [gv_bl g _ hb 0, gv_bl g _ hb 1, gv_bl g _ hb 2] at hN
    rw [if_neg (by omega), if_neg (by omega), show gbits g 3 = n24 a 0 0 by rw [hN]; unfold n24; simp; omega]; rfl
  | [a, b] =>
    rw [hb] at hl; simp at hl
    rw [gv_bl g _ hb 0, gv_bl g _ hb 1, gv_bl g _ hb 2] at hN
    rw [if_pos (by omega), if_neg (by omega), show gbits g 3 = n24 a b 0 by rw [hN]; unfold n24; simp; omega]; rfl
  | [a, b, c] =>
    rw [hb] at hl; simp at hl
    rw [gv_bl g _ hb 0, gv_bl g _ hb 1, gv_bl g _ hb 2] at hN
    rw [if_pos (by omega), if_pos (by omega), show gbits g 3 = n24 a b c by rw [hN]; unfold n24; simp; omega]; rfl
  | a :: b :: c :: d :: r => rw [hb] at hl; simp at hl; omega
theorem and_mod (X : Nat) (h : X < 16777216) : bits .and .i64 (X : Int) 63 = ((X % 64 : Nat) : Int) := by
  have := i64_and_nat X 63 (by omega) (by omega)
  rw [show ((63 : Nat) : Int) = 63 from rfl] at this
  rw [this, show X &&& 63 = X % 64 from Nat.and_two_pow_sub_one_eq_mod X 6]
theorem and_mod_div (X K : Nat) (h : X < 16777216) : bits .and .i64 ((X : Int) / (K : Int)) 63 = ((X / K % 64 : Nat) : Int) := by
  rw [show (X : Int) / (K : Int) = ((X / K : Nat) : Int) from rfl]
  exact and_mod (X / K) (Nat.lt_of_le_of_lt (Nat.div_le_self _ _) h)
theorem bytes_snoc (l m : List UInt8) (j : Nat) (x : UInt8) (c : Int) (hj : m[j]? = some x) (hc : c = (x.toNat : Int)) : Lib.byteCells (l ++ m.take j) ++ [.int .u8 c] = Lib.byteCells (l ++ m.take (j + 1)) := by
  subst hc
  obtain ⟨h, rfl⟩ := List.getElem?_eq_some_iff.1 hj
  rw [List.take_succ_eq_append_getElem h]
  simp only [Lib.byteCells, List.map_append, List.map_cons, List.map_nil, List.append_assoc]

set_option maxHeartbeats 4000000 in
set_option maxRecDepth 8000 in
theorem base64Write_any (B b : Nat) (l : List UInt8) (g : ByteArray) (w : World) (h : Lib.IsBuilder 34 5 B b (Lib.byteCells l) w) (hl : l.length ≤ 1000) (hg1 : 1 ≤ g.size) (hg3 : g.size ≤ 3) (hBw : B ≤ w.heap.size) :
    Calls Try.prog 20 #[.pointer (some ⟨b, 0, none⟩), .string g] w fun e w' => e = .returned (.tuple #[]) ∧ (Lib.IsBuilder 34 5 B b (Lib.byteCells (l ++ grp (bl g))) w' ∧ Below B w w' ∧ Lib.OthersKept 5 (some b) w w') := by
  have H := Lib.hid h; clear h
  have HGB := Lib.hid (grp_bits g hg1 hg3)
  go_enter Try.func20, Try.ntmps20
  go_wp2_with fail
  go_loopg [4, 7] 3 (fun k bv iv wr => ∃ j : Nat, j ≤ 3 ∧ k = 3 - j ∧ iv = .int .i64 j ∧ bv = .int .i64 (gbits g j : Nat) ∧ w = wr)
  case atStart => exact ⟨0, by omega, rfl, rfl, rfl, rfl⟩
  case round =>
    obtain ⟨j, hj, hk, rfl, rfl, rfl⟩ := hrel
    have HK := Lib.hid hk; clear hk
    have hbl := gbits_lt g j hj
    by_cases hlt : j < 3
    · have HBS := Lib.hid (show gbits g (j + 1) = gbits g j * 256 + gv g j from rfl)
      generalize gbits g j = C at hbl HBS ⊢
      have hi : (j : Int) < 3 := by omega
      by_cases hin : j < g.size
      · have hin' : (j : Int) < (g.size : Int) := by omega
        have hx := UInt8.toNat_lt (g[j])
        have hx2 : ((g[j]).toNat : Int) ≤ 255 := by omega
        have HGV := Lib.hid (gv_in g j hin)
        have HOR := Lib.hid (or_add C (g[j]).toNat (by omega) hx)
        go_wp2_with fail
        go_roundg (3 - (j + 1))
        case measure => rw [HK.out]; omega
        case rel => exact ⟨j + 1, by omega, rfl, by go_num, by rw [HBS.out, HGV.out]; first | rw [HOR.out] | (rw [IntWalk.wrap64_in _ ⟨by omega, by omega⟩, HOR.out]), rfl⟩
      · have hin' : ¬ (j : Int) < (g.size : Int) := by omega
        have HGV := Lib.hid (gv_out g j hin)
        go_wp2_with fail
        go_roundg (3 - (j + 1))
        case measure => rw [HK.out]; omega
        case rel => exact ⟨j + 1, by omega, rfl, by go_num, by rw [HBS.out, HGV.out, Nat.add_zero]; rfl, rfl⟩
    · obtain rfl : j = 3 := by omega
      generalize gbits g 3 = C at hbl HGB ⊢
      go_wp2_with fail
      go_loopg [23] 4 (fun k iv wq => ∃ j : Nat, j ≤ 4 ∧ k = 4 - j ∧ iv = .int .i64 j ∧ Lib.IsBuilder 34 5 B b (Lib.byteCells (l ++ (grp (bl g)).take j)) wq ∧ Below B w wq ∧ Lib.OthersKept 5 (some b) w wq)
      case atStart => exact ⟨0, by omega, rfl, rfl, by simpa using H.out, Below.refl _ _, Lib.OthersKept.refl _ _ _⟩
      case round =>
        obtain ⟨j, hj, hk, rfl, hbd, hbw, hok⟩ := hrel
        have HK2 := Lib.hid hk; clear hk
        have HBD := Lib.hid hbd; clear hbd
        have hBq : B ≤ wr.heap.size := Nat.le_trans hBw hbw.size
        have HBW := Lib.hid hbw; clear hbw
        have HOK := Lib.hid hok; clear hok
        have hlen : (Lib.byteCells (l ++ (grp (bl g)).take j)).length ≤ 1000000 := by
          have h4 : (grp (bl g)).length = 4 := by rw [HGB.out]; rfl
          simp only [Lib.byteCells, List.length_map, List.length_append, List.length_take, h4]; omega
        by_cases hlt2 : j < 4
        · have hi2 : (j : Int) < 4 := by omega
          by_cases hgt : g.size < j
          · have hgt' : (g.size : Int) < (j : Int) := by omega
            have HX := Lib.hid (show (grp (bl g))[j]? = some 61 by
              rw [HGB.out]
              obtain rfl | rfl : j = 2 ∨ j = 3 := by omega
              · simp <;> omega
              · simp <;> omega)
            go_wp2_with fail
            refine (writeByte_any B b _ _ _ HBD.out hlen hBq).mono ?_
            rintro e w5 ⟨rfl, hbd5, hb5, hok5⟩
            have HBD5 := Lib.hid hbd5; clear hbd5
            have HB5 := Lib.hid (HBW.out.trans hb5); clear hb5
            have HOK5 := Lib.hid (HOK.out.trans hok5); clear hok5
            go_wp2_with fail
            go_roundg (4 - (j + 1))
            case measure => rw [HK2.out]; omega
            case rel => exact ⟨j + 1, by omega, rfl, by go_num, .inr (by rw [← bytes_snoc l (grp (bl g)) j 61 61 HX.out rfl]; exact HBD5.out), HB5.out, HOK5.out⟩
          · match j, hlt2 with
            | 0, _ =>
              have d : decide ((g.size : Int) < 0) = false := decide_eq_false (by omega)
              have hand : bits .and .i64 ((C : Int) / 262144) 63 = ((C / 262144 % 64 : Nat) : Int) := and_mod_div C 262144 hbl
              have hdl : ((C / 262144 % 64 : Nat) : Int) < 64 := by omega
              have HX := Lib.hid (show (grp (bl g))[0]? = some (sgn (C / 262144 % 64)) by rw [HGB.out]; simp)
              generalize C / 262144 % 64 = DD at *
              go_wp2_with fail
              refine (writeByte_any B b _ _ _ HBD.out hlen hBq).mono ?_
              rintro e w5 ⟨rfl, hbd5, hb5, hok5⟩
              have HBD5 := Lib.hid hbd5; clear hbd5
              have HB5 := Lib.hid (HBW.out.trans hb5); clear hb5
              have HOK5 := Lib.hid (HOK.out.trans hok5); clear hok5
              go_wp2_with fail
              go_roundg (4 - (0 + 1))
              case measure => rw [HK2.out]; omega
              case rel => exact ⟨0 + 1, by omega, rfl, by go_num, .inr (by rw [← bytes_snoc l (grp (bl g)) 0 (sgn DD) _ HX.out (by rw [← sgn_get DD (by rw [sgnL_length]; omega)])]; exact HBD5.out), HB5.out, HOK5.out⟩
            | 1, _ =>
              have d : decide ((g.size : Int) < 1) = false := decide_eq_false (by omega)
              have hand : bits .and .i64 ((C : Int) / 4096) 63 = ((C / 4096 % 64 : Nat) : Int) := and_mod_div C 4096 hbl
              have hdl : ((C / 4096 % 64 : Nat) : Int) < 64 := by omega
              have HX := Lib.hid (show (grp (bl g))[1]? = some (sgn (C / 4096 % 64)) by rw [HGB.out]; simp)
              generalize C / 4096 % 64 = DD at *
              go_wp2_with fail
              refine (writeByte_any B b _ _ _ HBD.out hlen hBq).mono ?_
              rintro e w5 ⟨rfl, hbd5, hb5, hok5⟩
              have HBD5 := Lib.hid hbd5; clear hbd5
              have HB5 := Lib.hid (HBW.out.trans hb5); clear hb5
              have HOK5 := Lib.hid (HOK.out.trans hok5); clear hok5
              go_wp2_with fail
              go_roundg (4 - (1 + 1))
              case measure => rw [HK2.out]; omega
              case rel => exact ⟨1 + 1, by omega, rfl, by go_num, .inr (by rw [← bytes_snoc l (grp (bl g)) 1 (sgn DD) _ HX.out (by rw [← sgn_get DD (by rw [sgnL_length]; omega)])]; exact HBD5.out), HB5.out, HOK5.out⟩
            | 2, _ =>
              have d : decide ((g.size : Int) < 2) = false := decide_eq_false (by omega)
              have hand : bits .and .i64 ((C : Int) / 64) 63 = ((C / 64 % 64 : Nat) : Int) := and_mod_div C 64 hbl
              have hdl : ((C / 64 % 64 : Nat) : Int) < 64 := by omega
              have HX := Lib.hid (show (grp (bl g))[2]? = some (sgn (C / 64 % 64)) by rw [HGB.out]; simp <;> omega)
              generalize C / 64 % 64 = DD at *
              go_wp2_with fail
              refine (writeByte_any B b _ _ _ HBD.out hlen hBq).mono ?_
              rintro e w5 ⟨rfl, hbd5, hb5, hok5⟩
              have HBD5 := Lib.hid hbd5; clear hbd5
              have HB5 := Lib.hid (HBW.out.trans hb5); clear hb5
              have HOK5 := Lib.hid (HOK.out.trans hok5); clear hok5
              go_wp2_with fail
              go_roundg (4 - (2 + 1))
              case measure => rw [HK2.out]; omega
              case rel => exact ⟨2 + 1, by omega, rfl, by go_num, .inr (by rw [← bytes_snoc l (grp (bl g)) 2 (sgn DD) _ HX.out (by rw [← sgn_get DD (by rw [sgnL_length]; omega)])]; exact HBD5.out), HB5.out, HOK5.out⟩
            | 3, _ =>
              have d : decide ((g.size : Int) < 3) = false := decide_eq_false (by omega)
              have hand : bits .and .i64 (C : Int) 63 = ((C % 64 : Nat) : Int) := and_mod C hbl
              have hdl : ((C % 64 : Nat) : Int) < 64 := by omega
              have HX := Lib.hid (show (grp (bl g))[3]? = some (sgn (C % 64)) by rw [HGB.out]; simp <;> omega)
              generalize C % 64 = DD at *
              go_wp2_with fail
              refine (writeByte_any B b _ _ _ HBD.out hlen hBq).mono ?_
              rintro e w5 ⟨rfl, hbd5, hb5, hok5⟩
              have HBD5 := Lib.hid hbd5; clear hbd5
              have HB5 := Lib.hid (HBW.out.trans hb5); clear hb5
              have HOK5 := Lib.hid (HOK.out.trans hok5); clear hok5
              go_wp2_with fail
              go_roundg (4 - (3 + 1))
              case measure => rw [HK2.out]; omega
              case rel => exact ⟨3 + 1, by omega, rfl, by go_num, .inr (by rw [← bytes_snoc l (grp (bl g)) 3 (sgn DD) _ HX.out (by rw [← sgn_get DD (by rw [sgnL_length]; omega)])]; exact HBD5.out), HB5.out, HOK5.out⟩
        · obtain rfl : j = 4 := by omega
          have HT := Lib.hid (show (grp (bl g)).take 4 = grp (bl g) by rw [HGB.out]; rfl)
          go_wp2_with fail
          go_end0
          exact ⟨rfl, by rw [← HT.out]; exact HBD.out, HBW.out, HOK.out⟩

end Go.Proofs.Ytcpkadenejlbjaa
