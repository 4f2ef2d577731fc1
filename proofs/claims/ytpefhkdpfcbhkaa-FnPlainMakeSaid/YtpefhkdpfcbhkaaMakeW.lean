/- Contracts: PlainMake, the program's and the reference's; drawn names. -/
import Derived.Test.YtpefhkdpfcbhkaaEncD
import Derived.Test.YtpefhkdpfcbhkaaPlainP
namespace Go.Proofs.Ytpefhkdpfcbhkaa
open Go.RowKit
set_option linter.unusedVariables false

/-- The bytes of a proof, as they are put together. -/
def plB (u p : ByteArray) : ByteArray := ⟨#[0]⟩ ++ u ++ ⟨#[0]⟩ ++ p
theorem plB_bl (u p : ByteArray) : bl (plB u p) = plainB (bl u) (bl p) := by
  unfold plB plainB
  simp only [bl_append]
  simp [bl_mk]
theorem plB_size (u p : ByteArray) : (plB u p).size = u.size + p.size + 2 := by
  rw [← bl_length, plB_bl, plainB_len, bl_length, bl_length]
/-- A proof's text, or nothing. -/
def mkB (u p : ByteArray) : ByteArray := if nameB u && nameB p then ⟨(encL (plainB (bl u) (bl p))).toArray⟩ else ⟨#[]⟩
theorem name_le8 {u : ByteArray} (h : nameB u = true) : u.size ≤ 8 := ((nameB_iff u).1 h).2.1

set_option maxHeartbeats 1000000 in
theorem implPM_any (u p : ByteArray) (w : World) (hu : u.size ≤ 2000000) (hp : p.size ≤ 2000000) :
    Calls Try.prog 8 #[.string u, .string p] w fun e w' => e = .returned (.string (mkB u p)) ∧ Below w.heap.size w w' := by
  unfold mkB
  cases hnu : nameB u
  · have HU := Lib.hid hnu; clear hnu
    go_enter Try.func8, Try.ntmps8
    go_wp2_with fail
    refine (implName_any u _ (by omega)).mono ?_
    rw [HU.out]
    rintro e w1 ⟨rfl, hb1⟩
    have HB1 := Lib.hid hb1; clear hb1
    go_wp2_with fail
    go_ret
    exact ⟨rfl, HB1.out⟩
  · have HU := Lib.hid hnu; clear hnu
    cases hnp : nameB p
    · have HP := Lib.hid hnp; clear hnp
      go_enter Try.func8, Try.ntmps8
      go_wp2_with fail
      refine (implName_any u _ (by omega)).mono ?_
      rw [HU.out]
      rintro e w1 ⟨rfl, hb1⟩
      have HB1 := Lib.hid hb1; clear hb1
      have hs1 := HB1.out.size
      go_wp2_with fail
      refine (implName_any p _ (by omega)).mono ?_
      rw [HP.out]
      rintro e w2 ⟨rfl, hb2⟩
      have HB2 := Lib.hid (HB1.out.trans (hb2.mono hs1)); clear hb2
      go_wp2_with fail
      go_ret
      exact ⟨rfl, HB2.out⟩
    · have HP := Lib.hid hnp; clear hnp
      have h1 := name_le8 HU.out
      have h2 := name_le8 HP.out
      have hsz := plB_size u p
      have HE := Lib.hid (plB_bl u p)
      have hX : ⟨#[0]⟩ ++ u ++ ⟨#[0]⟩ ++ p = plB u p := rfl
      have hle : (plB u p).size ≤ 30 := by omega
      clear hsz
      go_enter Try.func8, Try.ntmps8
      go_wp2_with fail
      refine (implName_any u _ (by omega)).mono ?_
      rw [HU.out]
      rintro e w1 ⟨rfl, hb1⟩
      have HB1 := Lib.hid hb1; clear hb1
      have hs1 := HB1.out.size
      go_wp2_with fail
      refine (implName_any p _ (by omega)).mono ?_
      rw [HP.out]
      rintro e w2 ⟨rfl, hb2⟩
      have HB2 := Lib.hid (HB1.out.trans (hb2.mono hs1)); clear hb2
      have hs2 := HB2.out.size
      go_wp2_with fail
      refine (implEnc_yes (plB u p) _ hle).mono ?_
      rw [HE.out]
      rintro e w3 ⟨rfl, hb3⟩
      have HB3 := Lib.hid (HB2.out.trans (hb3.mono hs2)); clear hb3
      go_wp2_with fail
      go_ret
      exact ⟨rfl, HB3.out⟩

set_option maxHeartbeats 1000000 in
theorem specPM_any (u p : ByteArray) (w : World) (hu : u.size ≤ 2000000) (hp : p.size ≤ 2000000) :
    Calls Try.prog 9 #[.string u, .string p] w fun e w' => e = .returned (.string (mkB u p)) ∧ Below w.heap.size w w' := by
  unfold mkB
  cases hnu : nameB u
  · have HU := Lib.hid hnu; clear hnu
    go_enter Try.func9, Try.ntmps9
    go_wp2_with fail
    refine (specName_any u _ (by omega)).mono ?_
    rw [HU.out]
    rintro e w1 ⟨rfl, rfl⟩
    go_wp2_with fail
    go_ret
    exact ⟨rfl, Below.refl _ _⟩
  · have HU := Lib.hid hnu; clear hnu
    cases hnp : nameB p
    · have HP := Lib.hid hnp; clear hnp
      go_enter Try.func9, Try.ntmps9
      go_wp2_with fail
      refine (specName_any u _ (by omega)).mono ?_
      rw [HU.out]
      rintro e w1 ⟨rfl, rfl⟩
      go_wp2_with fail
      refine (specName_any p _ (by omega)).mono ?_
      rw [HP.out]
      rintro e w2 ⟨rfl, rfl⟩
      go_wp2_with fail
      go_ret
      exact ⟨rfl, Below.refl _ _⟩
    · have HP := Lib.hid hnp; clear hnp
      have h1 := name_le8 HU.out
      have h2 := name_le8 HP.out
      have hsz := plB_size u p
      have HE := Lib.hid (plB_bl u p)
      have hX : ⟨#[0]⟩ ++ u ++ ⟨#[0]⟩ ++ p = plB u p := rfl
      have hle : (plB u p).size ≤ 30 := by omega
      clear hsz
      go_enter Try.func9, Try.ntmps9
      go_wp2_with fail
      refine (specName_any u _ (by omega)).mono ?_
      rw [HU.out]
      rintro e w1 ⟨rfl, rfl⟩
      go_wp2_with fail
      refine (specName_any p _ (by omega)).mono ?_
      rw [HP.out]
      rintro e w2 ⟨rfl, rfl⟩
      go_wp2_with fail
      refine (l2Encode_any (plB u p) _ (by omega)).mono ?_
      rw [HE.out]
      rintro e w3 ⟨rfl, hb3⟩
      have HB3 := Lib.hid hb3; clear hb3
      go_wp2_with fail
      go_ret
      exact ⟨rfl, HB3.out⟩

/-- Two drawn names. -/
def Gave2Str (n : Nat) (w : World) (e : Ending) (w' : World) : Prop := ∃ a b : ByteArray, a.size ≤ n ∧ b.size ≤ n ∧ e = .returned (.tuple #[.string a, .string b]) ∧ Below w.heap.size w w'
theorem drawPlainMake_any (a : Option Addr) (len cap : Nat) (zs : List Int) (w : World) (h : IsRow w a len cap zs) :
    Calls Try.prog 7 #[.slice a len cap] w (Gave2Str 20 w) := by
  have H := Lib.hid h; clear h
  go_enter Try.func7, Try.ntmps7
  go_wp2_with fail
  refine (open_any a len cap zs _ H.out).mono ?_
  rintro e w1 ⟨rfl, hb, hr⟩
  have HB := Lib.hid hb; clear hb
  have hs1 := HB.out.size
  have HR := Lib.hid hr; clear hr
  go_wp2_with fail
  refine (drawName_any _ 0 _ (by omega) HR.out).mono ?_
  rintro e w2 ⟨s, hs, rfl, hk, hr2⟩
  have HB2 := Lib.hid (HB.out.trans (hk.below (Nat.le_refl _) hs1)); clear hk
  have hs2 := HB2.out.size
  have HR2 := Lib.hid hr2; clear hr2
  go_wp2_with fail
  refine (drawName_any _ 2 _ (by omega) HR2.out).mono ?_
  rintro e w3 ⟨t, ht, rfl, hk, hr3⟩
  have HB3 := Lib.hid (HB2.out.trans (hk.below (Nat.le_refl _) hs2)); clear hk hr3
  go_wp2_with fail
  go_ret2
  exact ⟨s, t, hs, ht, rfl, HB3.out⟩

end Go.Proofs.Ytpefhkdpfcbhkaa
