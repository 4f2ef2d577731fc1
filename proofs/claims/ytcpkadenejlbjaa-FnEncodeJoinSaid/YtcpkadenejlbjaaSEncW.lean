/- Contracts: the reference's l2Encode. -/
import Derived.Test.YtcpkadenejlbjaaB64W
import Derived.Test.YtcpkadenejlbjaaBldW
import Derived.Laws.IdiomStrings
import Derived.Laws.BytesArg
namespace Go.Proofs.Ytcpkadenejlbjaa
open Go.RowKit
set_option linter.unusedVariables false

theorem letter_int (n : Int) (w : World) (h0 : 0 ≤ n) (h1 : n < 64) :
    Calls Try.prog 28 #[.int .i64 n] w fun e w' => e = .returned (.int .u8 ((sgn n.toNat).toNat : Int)) ∧ w = w' := by
  obtain ⟨k, rfl⟩ := Int.eq_ofNat_of_zero_le h0
  exact letter_any k w (by omega)
theorem cell_four_new (w : World) (a b c d : Value) (t : TypeId) : ∀ j u, [a, b, c, d][j]? = some u → (w.alloc (.cells #[a, b, c, d] t)).cell? ((⟨w.heap.size, 0, none⟩ : Addr).add j) = some u := by
  intro j u hj
  match j, hj with
  | 0, hj => simp at hj; subst hj; simp [Addr.add]
  | 1, hj => simp at hj; subst hj; simp [Addr.add]
  | 2, hj => simp at hj; subst hj; simp [Addr.add]
  | 3, hj => simp at hj; subst hj; simp [Addr.add]

theorem own_shape {w : World} {base : Nat} {e : TypeId} {v : Value} {n : Nat} {xs : List Value} (h : w.ownsRow base e 1 v (n + 4) xs) : ∃ g cap, v = .slice (some ⟨g, 0, none⟩) (n + 4) cap ∧ cap ≤ maxLen := by
  rcases h.2 with ⟨_, h0⟩ | ⟨g, cap, cur, hv, _, _, _, hm, _⟩
  · omega
  · exact ⟨g, cap, hv, hm⟩
theorem set_tail3 (xs : List Value) (a b c d x : Value) (n : Nat) (h : xs.length = n) : (xs ++ [a, b, c, d]).set (n + 3) x = xs ++ [a, b, c, x] := by
  subst h; rw [List.set_append_right _ _ (by omega)]; simp
theorem set_tail2 (xs : List Value) (a b c d x : Value) (n : Nat) (h : xs.length = n) : (xs ++ [a, b, c, d]).set (n + 2) x = xs ++ [a, b, x, d] := by
  subst h; rw [List.set_append_right _ _ (by omega)]; simp
theorem enc_step (s : ByteArray) (t : Nat) (h3 : t % 3 = 0) (h : t < s.size) : encL ((bl s).take (t + 3)) = encL ((bl s).take t) ++ grp (((bl s).drop t).take 3) := by
  have hl := bl_length s
  rw [List.take_add, encL_app _ _ (by rw [List.length_take]; omega), encL_grp (((bl s).drop t).take 3) (by rw [List.length_take]; omega)]
theorem grp_of3 (s : ByteArray) (t : Nat) (h : t + 2 < s.size) : ((bl s).drop t).take 3 = [s[t], s[t + 1], s[t + 2]] := by
  have hl := bl_length s
  rw [List.drop_eq_getElem_cons (by omega), List.drop_eq_getElem_cons (by omega), List.drop_eq_getElem_cons (by omega), bl_get s t (by omega), bl_get s (t + 1) (by omega), bl_get s (t + 1 + 1) (by omega)]
  rfl
theorem grp_of2 (s : ByteArray) (t : Nat) (h : t + 2 = s.size) : ((bl s).drop t).take 3 = [s[t], s[t + 1]] := by
  have hl := bl_length s
  rw [List.drop_eq_getElem_cons (by omega), List.drop_eq_getElem_cons (by omega), List.drop_of_length_le (by omega), bl_get s t (by omega), bl_get s (t + 1) (by omega)]
  rfl
theorem grp_of1 (s : ByteArray) (t : Nat) (h : t + 1 = s.size) : ((bl s).drop t).take 3 = [s[t]] := by
  have hl := bl_length s
  rw [List.drop_eq_getElem_cons (by omega), List.drop_of_length_le (by omega), bl_get s t (by omega)]
  rfl

set_option maxHeartbeats 4000000 in
set_option maxRecDepth 100000 in
theorem l2Encode_any (s : ByteArray) (w : World) (hs : s.size ≤ 100000) :
    Calls Try.prog 18 #[.string s] w fun e w' => e = .returned (.string ⟨(encL (bl s)).toArray⟩) ∧ Below w.heap.size w w' := by
  obtain ⟨i0, hi0, hz0, hz1, hz2⟩ := info_parts infoByte
  go_enter Try.func18, Try.ntmps18
  go_wp2_with fail
  go_loopg [3, 4] (s.size + 2) (fun k v iv wr => ∃ (t : Nat) (l : List UInt8), t % 3 = 0 ∧ t ≤ s.size + 2 ∧ k = s.size + 2 - t ∧ iv = .int .i64 t ∧ l = encL ((bl s).take t) ∧ wr.ownsRow w.heap.size 5 1 v l.length (Lib.byteCells l) ∧ Below w.heap.size w wr)
  case atStart => exact ⟨0, [], rfl, by omega, rfl, rfl, by simp [encL], World.ownsRow_lit _ #[] 0 (Nat.le_refl _) (Nat.zero_le _) rfl, (Below.refl _ _).alloc (Nat.le_refl _) _⟩
  case round =>
    obtain ⟨t, l, ht3, hts, hk, rfl, hl, hown, hbw⟩ := hrel
    have HK := Lib.hid hk; clear hk
    have hll : l.length ≤ 400000 := by rw [hl, encL_length, List.length_take]; omega
    have HT3 := Lib.hid ht3; clear ht3
    have HL := Lib.hid hl; clear hl
    have hzw := hbw.size
    have HBW := Lib.hid hbw; clear hbw
    have HOW := Lib.hid hown; clear hown
    by_cases hlt : t < s.size
    · have hi : (t : Int) < (s.size : Int) := by omega
      have HST := Lib.hid (enc_step s t HT3.out hlt)
      have hA := UInt8.toNat_lt (s[t])
      have hA' : ((s[t]).toNat : Int) ≤ 255 := by omega
      by_cases h1 : t + 1 < s.size
      · have hi1 : (t : Int) + 1 < (s.size : Int) := by omega
        have hg1 : ¬ (s.size : Int) ≤ (t : Int) + 1 := by omega
        have hB := UInt8.toNat_lt (s[t + 1])
        have hB' : ((s[t + 1]).toNat : Int) ≤ 255 := by omega
        by_cases h2 : t + 2 < s.size
        · have hi2 : (t : Int) + 2 < (s.size : Int) := by omega
          have hC := UInt8.toNat_lt (s[t + 2])
          have hC' : ((s[t + 2]).toNat : Int) ≤ 255 := by omega
          have HGR := Lib.hid (congrArg grp (grp_of3 s t h2))
          go_wp2_with (first | (go_at_call 28; refine (letter_int _ _ (by omega) (by omega)).mono ?_; rintro e w' ⟨rfl, rfl⟩) | (at_builtin; refine wpList_append_own _ rfl _ _ 24 rfl w.heap.size 5 i0 (.int .u8 0) 1 1 Try.underlying24 hi0 hz0 hz1 hz2 rfl (by decide) _ _ _ rfl (HOW.out.alloc _) ⟨wr.heap.size, 0, none⟩ 4 4 [.int .u8 ((sgn ((65536 * (s[t]).toNat + 256 * (s[t + 1]).toNat + (s[t + 2]).toNat) / 262144)).toNat : Int), .int .u8 ((sgn ((65536 * (s[t]).toNat + 256 * (s[t + 1]).toNat + (s[t + 2]).toNat) / 4096 % 64)).toNat : Int), .int .u8 ((sgn ((65536 * (s[t]).toNat + 256 * (s[t + 1]).toNat + (s[t + 2]).toNat) / 64 % 64)).toNat : Int), .int .u8 ((sgn ((65536 * (s[t]).toNat + 256 * (s[t + 1]).toNat + (s[t + 2]).toNat) % 64)).toNat : Int)] rfl rfl (cell_four_new _ _ _ _ _ _) (by simp [Value.oneCell']) (by unfold maxLen; omega) (by omega) (by simp; omega) ?_; intro v' w5 hown' hgrow _; obtain ⟨g5, cap5, rfl, hcap5⟩ := own_shape hown'; have HG5 := Lib.hid ((HBW.out.alloc hzw _).grown hgrow (by simp; omega) (fun k e => (HOW.out.lt k e).1)); clear hgrow; have HB5 := Lib.hid (World.ownsRow.lt hown' g5 rfl).1; have HO5 := Lib.hid hown'; clear hown'))
          go_wp2_with fail
          go_roundg (s.size + 2 - (t + 3))
          case measure => rw [HK.out]; omega
          case rel => exact ⟨t + 3, _, by have := HT3.out; omega, by omega, rfl, by go_num, rfl, by rw [HST.out, HGR.out, ← HL.out]; simpa [Lib.byteCells, grp, n24] using HO5.out, HG5.out⟩
        · have hi2 : ¬ (t : Int) + 2 < (s.size : Int) := by omega
          have HGR := Lib.hid (congrArg grp (grp_of2 s t (by omega)))
          go_wp2_with (first | (go_at_call 28; refine (letter_int _ _ (by omega) (by omega)).mono ?_; rintro e w' ⟨rfl, rfl⟩) | (at_builtin; refine wpList_append_own _ rfl _ _ 24 rfl w.heap.size 5 i0 (.int .u8 0) 1 1 Try.underlying24 hi0 hz0 hz1 hz2 rfl (by decide) _ _ _ rfl (HOW.out.alloc _) ⟨wr.heap.size, 0, none⟩ 4 4 [.int .u8 ((sgn ((65536 * (s[t]).toNat + 256 * (s[t + 1]).toNat) / 262144)).toNat : Int), .int .u8 ((sgn ((65536 * (s[t]).toNat + 256 * (s[t + 1]).toNat) / 4096 % 64)).toNat : Int), .int .u8 ((sgn ((65536 * (s[t]).toNat + 256 * (s[t + 1]).toNat) / 64 % 64)).toNat : Int), .int .u8 ((sgn ((65536 * (s[t]).toNat + 256 * (s[t + 1]).toNat) % 64)).toNat : Int)] rfl rfl (cell_four_new _ _ _ _ _ _) (by simp [Value.oneCell']) (by unfold maxLen; omega) (by omega) (by simp; omega) ?_; intro v' w5 hown' hgrow _; obtain ⟨g5, cap5, rfl, hcap5⟩ := own_shape hown'; have HG5 := Lib.hid ((HBW.out.alloc hzw _).grown hgrow (by simp; omega) (fun k e => (HOW.out.lt k e).1)); clear hgrow; have HB5 := Lib.hid (World.ownsRow.lt hown' g5 rfl).1; have c3 := World.ownsRow.cellAt hown' (l.length + 3) (by omega); have f3 := World.ownsRow.frozenAt hown' (l.length + 3); rw [List.getElem?_append_right (by simp [Lib.byteCells])] at c3; simp [Lib.byteCells] at c3; have HS3 := Lib.hid (World.ownsRow.stored hown' (l.length + 3) (.int .u8 61)); have HO5 := Lib.hid hown'; clear hown'))
          go_wp2_with fail
          have HS4 := Lib.hid HS3.out.1
          rw [set_tail3 _ _ _ _ _ _ _ (Lib.byteCells_length l)] at HS4
          go_roundg (s.size + 2 - (t + 3))
          case measure => rw [HK.out]; omega
          case rel => exact ⟨t + 3, _, by have := HT3.out; omega, by omega, rfl, by go_num, rfl, by rw [HST.out, HGR.out, ← HL.out]; simpa [Lib.byteCells, grp, n24] using HS4.out, HG5.out.setCell (p := ⟨g5, l.length + 3, none⟩) HB5.out _⟩
      · have hi1 : ¬ (t : Int) + 1 < (s.size : Int) := by omega
        have hi2 : ¬ (t : Int) + 2 < (s.size : Int) := by omega
        have HGR := Lib.hid (congrArg grp (grp_of1 s t (by omega)))
        go_wp2_with (first | (go_at_call 28; refine (letter_int _ _ (by omega) (by omega)).mono ?_; rintro e w' ⟨rfl, rfl⟩) | (at_builtin; refine wpList_append_own _ rfl _ _ 24 rfl w.heap.size 5 i0 (.int .u8 0) 1 1 Try.underlying24 hi0 hz0 hz1 hz2 rfl (by decide) _ _ _ rfl (HOW.out.alloc _) ⟨wr.heap.size, 0, none⟩ 4 4 [.int .u8 ((sgn ((65536 * (s[t]).toNat) / 262144)).toNat : Int), .int .u8 ((sgn ((65536 * (s[t]).toNat) / 4096 % 64)).toNat : Int), .int .u8 ((sgn ((65536 * (s[t]).toNat) / 64 % 64)).toNat : Int), .int .u8 ((sgn ((65536 * (s[t]).toNat) % 64)).toNat : Int)] rfl rfl (cell_four_new _ _ _ _ _ _) (by simp [Value.oneCell']) (by unfold maxLen; omega) (by omega) (by simp; omega) ?_; intro v' w5 hown' hgrow _; obtain ⟨g5, cap5, rfl, hcap5⟩ := own_shape hown'; have HG5 := Lib.hid ((HBW.out.alloc hzw _).grown hgrow (by simp; omega) (fun k e => (HOW.out.lt k e).1)); clear hgrow; have HB5 := Lib.hid (World.ownsRow.lt hown' g5 rfl).1; have c3 := World.ownsRow.cellAt hown' (l.length + 3) (by omega); have f3 := World.ownsRow.frozenAt hown' (l.length + 3); have c2 := World.ownsRow.cellAt hown' (l.length + 2) (by omega); have f2 := World.ownsRow.frozenAt hown' (l.length + 2); rw [List.getElem?_append_right (by simp [Lib.byteCells])] at c3 c2; simp [Lib.byteCells] at c3 c2; have HS2 := Lib.hid (World.ownsRow.stored (World.ownsRow.stored hown' (l.length + 2) (.int .u8 61)).1 (l.length + 3) (.int .u8 61)); have HO5 := Lib.hid hown'; clear hown'))
        go_wp2_with fail
        have HS4 := Lib.hid HS2.out.1
        rw [set_tail2 _ _ _ _ _ _ _ (Lib.byteCells_length l), set_tail3 _ _ _ _ _ _ _ (Lib.byteCells_length l)] at HS4
        go_roundg (s.size + 2 - (t + 3))
        case measure => rw [HK.out]; omega
        case rel => exact ⟨t + 3, _, by have := HT3.out; omega, by omega, rfl, by go_num, rfl, by rw [HST.out, HGR.out, ← HL.out]; simpa [Lib.byteCells, grp, n24] using HS4.out, (HG5.out.setCell (p := ⟨g5, l.length + 2, none⟩) HB5.out _).setCell (p := ⟨g5, l.length + 3, none⟩) HB5.out _⟩
    · have hi : ¬ (t : Int) < (s.size : Int) := by omega
      have HLF := Lib.hid (show l = encL (bl s) by rw [HL.out, List.take_of_length_le (by rw [bl_length]; omega)])
      have hconv : (convert 24 9 u3).run Try.prog wr = .ok (.string ⟨l.toArray⟩) wr := by
        rcases HOW.out.2 with ⟨hv, h0⟩ | ⟨g, cap, cur, hv, _⟩
        · obtain rfl : l = [] := List.length_eq_zero_iff.1 h0
          rw [hv]
          exact run_convert_bytes_nil wr 24 5 Try.underlying24 Try.underlying5 0 0 9 Try.underlying9
        · rw [hv]
          refine run_convert_bytes_back wr 24 9 5 ⟨g, 0, none⟩ cap l Try.underlying24 Try.underlying5 Try.underlying9 (fun j hj => ?_)
          exact HOW.out.cells (g := g) (by rw [hv]; rfl) j _ (by simp [Lib.byteCells, hj])
      go_wp2_with fail
      go_ret
      exact ⟨by rw [← HLF.out]; rfl, HBW.out⟩
end Go.Proofs.Ytcpkadenejlbjaa
