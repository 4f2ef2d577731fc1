/- Contracts: the reference's Base64Encode; bytes drawn. -/
import Derived.Test.YtcpkadenejlbjaaEnc2W
import Derived.Test.YtcpkadenejlbjaaSEncW
import Derived.Test.YtcpkadenejlbjaaDraws
namespace Go.Proofs.Ytcpkadenejlbjaa
open Go.RowKit
set_option linter.unusedVariables false

theorem size_mk (a : Array UInt8) : ByteArray.size ⟨a⟩ = a.size := rfl
theorem specEnc_any (s : ByteArray) (w : World) (hs : s.size ≤ 2000000) :
    Calls Try.prog 11 #[.string s] w fun e w' => e = .returned (.string (encB s)) ∧ Below w.heap.size w w' := by
  unfold encB
  by_cases h : s.size ≤ 30
  · have hi : ¬ (30 : Int) < (s.size : Int) := by omega
    rw [if_pos h]
    go_enter Try.func11, Try.ntmps11
    go_wp2_with fail
    refine (l2Encode_any s _ (by omega)).mono ?_
    rintro e w1 ⟨rfl, hb1⟩
    have HB1 := Lib.hid hb1; clear hb1
    go_wp2_with fail
    go_ret
    exact ⟨rfl, HB1.out⟩
  · have hi : (30 : Int) < (s.size : Int) := by omega
    rw [if_neg h]
    go_enter Try.func11, Try.ntmps11
    go_wp2_with fail
    go_ret
    exact ⟨rfl, Below.refl _ _⟩
theorem grown_keepB {b : Nat} {w0 w w' : World} {row : Option Nat} (hg : w.grownBy w' row) (hr : ∀ k, row = some k → w0.heap.size ≤ k) (hk : KeepB b w0 w) : KeepB b w0 w' :=
  ⟨hg.os.trans hk.os, hg.tape.trans hk.tape, hg.output.trans hk.output, Nat.le_trans hk.size hg.size, fun k h1 h2 =>
    (hg.block k (Nat.lt_of_lt_of_le h1 hk.size) (fun e => by have := hr k e.symm; omega)).trans (hk.block k h1 h2)⟩
theorem RdAt.keptG {w w' : World} {b m : Nat} {row : Option Nat} (h : RdAt w b m) (hg : w.grownBy w' row) (hr : ∀ k, row = some k → b < k) : RdAt w' b m := by
  obtain ⟨a, len, cap, p, h, hp, hl, hz⟩ := h
  refine ⟨a, len, cap, p, (hg.block b h.lt (fun e => by have := hr b e.symm; omega)).trans h, hp, hl, ?_⟩
  rcases hz with hz | ⟨blk, off, rfl, hb, hc⟩
  · exact .inl hz
  · refine .inr ⟨blk, off, rfl, hb, fun i hi => ?_⟩
    obtain ⟨z, hz, hc⟩ := hc i hi
    exact ⟨z, hz, World.grownBy.cell hg hc (fun e => by have := hr _ e.symm; simp at this; omega)⟩
theorem mul_small (n m : Int) (h1 : 0 ≤ n) (h2 : n < 16) (h3 : 0 ≤ m) (h4 : m < 18) : ∃ P : Nat, n * m = (P : Int) ∧ P ≤ 255 := by
  have a : 0 ≤ n * m := Int.mul_nonneg h1 h3
  have b : n * m ≤ 15 * 17 := Int.mul_le_mul (by omega) (by omega) h3 (by omega)
  exact ⟨(n * m).toNat, by omega, by omega⟩
theorem own_string {w : World} {base : Nat} {v : Value} {l : List UInt8} (h : w.ownsRow base 5 1 v l.length (Lib.byteCells l)) : (convert 24 9 v).run Try.prog w = .ok (.string ⟨l.toArray⟩) w := by
  rcases h.2 with ⟨hv, h0⟩ | ⟨g, cap, cur, hv, _⟩
  · obtain rfl : l = [] := List.length_eq_zero_iff.1 h0
    rw [hv]
    exact run_convert_bytes_nil w 24 5 Try.underlying24 Try.underlying5 0 0 9 Try.underlying9
  · rw [hv]
    refine run_convert_bytes_back w 24 9 5 ⟨g, 0, none⟩ cap l Try.underlying24 Try.underlying5 Try.underlying9 (fun j hj => ?_)
    exact h.cells (g := g) (by rw [hv]; rfl) j _ (by simp [Lib.byteCells, hj])

set_option maxHeartbeats 4000000 in
theorem drawBytes_any (b m : Nat) (w : World) (hm : m ≤ 800000) (hr : RdAt w b m) :
    Calls Try.prog 22 #[.pointer (some ⟨b, 0, none⟩)] w (DrewStr 40 b (m + 200) w) := by
  obtain ⟨i0, hi0, hz0, hz1, hz2⟩ := info_parts infoByte
  have hbl := hr.lt
  have HR := Lib.hid hr; clear hr
  go_enter Try.func22, Try.ntmps22
  go_wp2_with fail
  refine (pick_any b m _ _ (by omega) (by omega) (HR.out.alloc _)).mono ?_
  rintro e w1 ⟨r, hr0, hr1, rfl, hk1, hr'⟩
  have HO1 := Lib.hid ((World.ownsRow_lit (base := w.heap.size) (e := 5) (size := 1) w #[] 0 (Nat.le_refl _) (Nat.zero_le _) rfl).kept hk1 (.inr (by simp [Value.ownBlock]; omega)))
  have HK1 := Lib.hid (((KeepB.refl b w).alloc _).trans hk1); clear hk1
  have HR' := Lib.hid hr'; clear hr'
  go_wp2_with fail
  refine (pick_any b (m + 1) _ _ (by omega) (by omega) HR'.out).mono ?_
  rintro e w2 ⟨r2, hr20, hr21, rfl, hk2, hr2⟩
  have HO2 := Lib.hid (HO1.out.kept hk2 (.inr (by simp [Value.ownBlock]; omega)))
  have HK2 := Lib.hid (HK1.out.trans hk2); clear hk2
  have HR2 := Lib.hid hr2; clear hr2
  cases h0 : (r2 == 0)
  · have HO3 := HO2
    have HK3 := HK2
    have HR3 := HR2
    have hr1' : r ≤ 32 := by omega
    clear hr1
    go_wp2_with fail
    go_loopg [3, 5] 32 (fun k v iv wr => ∃ (j : Nat) (l : List UInt8), (j : Int) ≤ r ∧ k = 32 - j ∧ iv = .int .i64 j ∧ l.length = j ∧ wr.ownsRow w.heap.size 5 1 v l.length (Lib.byteCells l) ∧ KeepB b w wr ∧ RdAt wr b (m + 3 + j * 2))
    case atStart => exact ⟨0, [], by omega, rfl, rfl, rfl, HO3.out, HK3.out, HR3.out.mono (by omega)⟩
    case round =>
      obtain ⟨j, l, hj, hk, rfl, hxl, hown, hkeep, hrd⟩ := hrel
      have hxj : l.length ≤ j := by omega
      have HK := Lib.hid hk; clear hk
      have HXL := Lib.hid hxl; clear hxl
      have HOW := Lib.hid hown; clear hown
      have hwz := hkeep.size
      have HKE := Lib.hid hkeep; clear hkeep
      have hbr := hrd.lt
      have HRD := Lib.hid hrd; clear hrd
      have HNB := Lib.hid (show u3.ownBlock = none ∨ u3.ownBlock ≠ some b from .inr fun e => by have := (HOW.out.lt b e).1; omega)
      by_cases hlt : (j : Int) < r
      · go_wp2_with fail
        refine (pick_any b _ _ _ (by omega) (by omega) HRD.out).mono ?_
        rintro e w4 ⟨n, hn0, hn1, rfl, hk4, hr4⟩
        have HO4 := Lib.hid (HOW.out.kept hk4 HNB.out)
        have HK4 := Lib.hid (HKE.out.trans hk4); clear hk4
        have HR4 := Lib.hid hr4; clear hr4
        go_wp2_with fail
        refine (pick_any b _ _ _ (by omega) (by omega) HR4.out).mono ?_
        rintro e w5 ⟨n', hn0', hn1', rfl, hk5, hr5⟩
        have HO5 := Lib.hid (HO4.out.kept hk5 HNB.out)
        have HK5 := Lib.hid (HK4.out.trans hk5); clear hk5
        have HR5 := Lib.hid hr5; clear hr5
        have hz5 := HK5.out.size
        obtain ⟨P, hP, hP2⟩ := mul_small n n' hn0 hn1 hn0' hn1'
        have hP3 : (P : Int) ≤ 255 := by omega
        go_wp2_with (at_builtin; refine wpList_append_own _ rfl _ _ 24 rfl w.heap.size 5 i0 (.int .u8 0) 1 1 Try.underlying24 hi0 hz0 hz1 hz2 rfl (by decide) _ _ _ rfl (HO5.out.alloc _) ⟨w5.heap.size, 0, none⟩ 1 1 [.int .u8 (P : Int)] rfl rfl (cell_one_new _ _ _) (by simp [Value.oneCell']) (by unfold maxLen; omega) (by omega) (by simp; omega) ?_; intro v' w6 hown' hgrow _; clear hP)
        have HO' := Lib.hid hown'; clear hown'
        have HG := Lib.hid hgrow; clear hgrow
        go_wp2_with fail
        go_roundg (32 - (j + 1))
        case measure => rw [HK.out]; omega
        case rel =>
          refine ⟨j + 1, l ++ [UInt8.ofNat P], by omega, rfl, by go_num, by simp [HXL.out], ?_, ?_, ?_⟩
          · have : Lib.byteCells (l ++ [UInt8.ofNat P]) = Lib.byteCells l ++ [.int .u8 (P : Int)] := by
              simp only [Lib.byteCells, List.map_append, List.map_cons, List.map_nil]
              rw [show (UInt8.ofNat P).toNat = P by rw [UInt8.toNat_ofNat']; exact Nat.mod_eq_of_lt (by omega)]
            rw [this]
            simpa using HO'.out
          · exact grown_keepB HG.out (fun k e => (HO5.out.lt k e).1) (HK5.out.alloc _)
          · exact ((HR5.out.alloc _).keptG HG.out (fun k e => by have := (HO5.out.lt k e).1; omega)).mono (by omega)
      · have hconv := own_string HOW.out
        go_wp2_with fail
        go_ret
        exact ⟨_, by rw [size_mk]; simp; omega, rfl, HKE.out, HRD.out.mono (by omega)⟩
  · go_wp2_with fail
    refine (pick_any b (m + 2) _ _ (by omega) (by omega) HR2.out).mono ?_
    rintro e w3 ⟨q, hq0, hq1, rfl, hk3, hr3⟩
    have HO3 := Lib.hid (HO2.out.kept hk3 (.inr (by simp [Value.ownBlock]; omega)))
    have HK3 := Lib.hid (HK2.out.trans hk3); clear hk3
    have HR3 := Lib.hid hr3; clear hr3
    go_wp2_with fail
    clear hr0 hr1
    have hr0 : 0 ≤ 28 + q := by omega
    have hr1' : 28 + q ≤ 32 := by omega
    clear hq0 hq1
    generalize 28 + q = r at *
    go_loopg [3, 5] 32 (fun k v iv wr => ∃ (j : Nat) (l : List UInt8), (j : Int) ≤ r ∧ k = 32 - j ∧ iv = .int .i64 j ∧ l.length = j ∧ wr.ownsRow w.heap.size 5 1 v l.length (Lib.byteCells l) ∧ KeepB b w wr ∧ RdAt wr b (m + 3 + j * 2))
    case atStart => exact ⟨0, [], by omega, rfl, rfl, rfl, HO3.out, HK3.out, HR3.out.mono (by omega)⟩
    case round =>
      obtain ⟨j, l, hj, hk, rfl, hxl, hown, hkeep, hrd⟩ := hrel
      have hxj : l.length ≤ j := by omega
      have HK := Lib.hid hk; clear hk
      have HXL := Lib.hid hxl; clear hxl
      have HOW := Lib.hid hown; clear hown
      have hwz := hkeep.size
      have HKE := Lib.hid hkeep; clear hkeep
      have hbr := hrd.lt
      have HRD := Lib.hid hrd; clear hrd
      have HNB := Lib.hid (show u3.ownBlock = none ∨ u3.ownBlock ≠ some b from .inr fun e => by have := (HOW.out.lt b e).1; omega)
      by_cases hlt : (j : Int) < r
      · go_wp2_with fail
        refine (pick_any b _ _ _ (by omega) (by omega) HRD.out).mono ?_
        rintro e w4 ⟨n, hn0, hn1, rfl, hk4, hr4⟩
        have HO4 := Lib.hid (HOW.out.kept hk4 HNB.out)
        have HK4 := Lib.hid (HKE.out.trans hk4); clear hk4
        have HR4 := Lib.hid hr4; clear hr4
        go_wp2_with fail
        refine (pick_any b _ _ _ (by omega) (by omega) HR4.out).mono ?_
        rintro e w5 ⟨n', hn0', hn1', rfl, hk5, hr5⟩
        have HO5 := Lib.hid (HO4.out.kept hk5 HNB.out)
        have HK5 := Lib.hid (HK4.out.trans hk5); clear hk5
        have HR5 := Lib.hid hr5; clear hr5
        have hz5 := HK5.out.size
        obtain ⟨P, hP, hP2⟩ := mul_small n n' hn0 hn1 hn0' hn1'
        have hP3 : (P : Int) ≤ 255 := by omega
        go_wp2_with (at_builtin; refine wpList_append_own _ rfl _ _ 24 rfl w.heap.size 5 i0 (.int .u8 0) 1 1 Try.underlying24 hi0 hz0 hz1 hz2 rfl (by decide) _ _ _ rfl (HO5.out.alloc _) ⟨w5.heap.size, 0, none⟩ 1 1 [.int .u8 (P : Int)] rfl rfl (cell_one_new _ _ _) (by simp [Value.oneCell']) (by unfold maxLen; omega) (by omega) (by simp; omega) ?_; intro v' w6 hown' hgrow _; clear hP)
        have HO' := Lib.hid hown'; clear hown'
        have HG := Lib.hid hgrow; clear hgrow
        go_wp2_with fail
        go_roundg (32 - (j + 1))
        case measure => rw [HK.out]; omega
        case rel =>
          refine ⟨j + 1, l ++ [UInt8.ofNat P], by omega, rfl, by go_num, by simp [HXL.out], ?_, ?_, ?_⟩
          · have : Lib.byteCells (l ++ [UInt8.ofNat P]) = Lib.byteCells l ++ [.int .u8 (P : Int)] := by
              simp only [Lib.byteCells, List.map_append, List.map_cons, List.map_nil]
              rw [show (UInt8.ofNat P).toNat = P by rw [UInt8.toNat_ofNat']; exact Nat.mod_eq_of_lt (by omega)]
            rw [this]
            simpa using HO'.out
          · exact grown_keepB HG.out (fun k e => (HO5.out.lt k e).1) (HK5.out.alloc _)
          · exact ((HR5.out.alloc _).keptG HG.out (fun k e => by have := (HO5.out.lt k e).1; omega)).mono (by omega)
      · have hconv := own_string HOW.out
        go_wp2_with fail
        go_ret
        exact ⟨_, by rw [size_mk]; simp; omega, rfl, HKE.out, HRD.out.mono (by omega)⟩

end Go.Proofs.Ytcpkadenejlbjaa
