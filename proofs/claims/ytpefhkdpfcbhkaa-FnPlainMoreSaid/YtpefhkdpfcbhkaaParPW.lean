/- Contracts: PlainParse, the program's and the reference's. -/
import Derived.Test.YtpefhkdpfcbhkaaSDecW
import Derived.Test.YtpefhkdpfcbhkaaMakeW
import Derived.Test.YtpefhkdpfcbhkaaCutW
namespace Go.Proofs.Ytpefhkdpfcbhkaa
open Go.RowKit
set_option linter.unusedVariables false

/-- What PlainParse reads. -/
def ppL (s : ByteArray) : Option (List UInt8 × List UInt8) := match decI (bl s) with | none => none | some d => plainP d
def ppU (s : ByteArray) : ByteArray := match ppL s with | none => ⟨#[]⟩ | some x => ⟨x.1.toArray⟩
def ppV (s : ByteArray) : ByteArray := match ppL s with | none => ⟨#[]⟩ | some x => ⟨x.2.toArray⟩
def ppOk (s : ByteArray) : Bool := (ppL s).isSome
/-- Three answers. -/
def GaveP (u v : ByteArray) (b : Bool) (w : World) (e : Ending) (w' : World) : Prop := e = .returned (.tuple #[.string u, .string v, .bool b]) ∧ Below w.heap.size w w'
theorem pp_none {s : ByteArray} (h : ppL s = none) : ppU s = ⟨#[]⟩ ∧ ppV s = ⟨#[]⟩ ∧ ppOk s = false := by
  unfold ppU ppV ppOk; rw [h]; exact ⟨rfl, rfl, rfl⟩
theorem pp_some (s : ByteArray) (u v : List UInt8) (h : ppL s = some (u, v)) : ppU s = ⟨u.toArray⟩ ∧ ppV s = ⟨v.toArray⟩ ∧ ppOk s = true := by
  unfold ppU ppV ppOk; rw [h]; exact ⟨rfl, rfl, rfl⟩
theorem pp_dec (s : ByteArray) : (decOk s = false ∧ ppL s = none) ∨ (decOk s = true ∧ (decB s).size ≤ 30 ∧ ppL s = plainP (bl (decB s))) := by
  cases hd : decI (bl s) with
  | none => exact .inl ⟨(dec_no s hd).2, by unfold ppL; rw [hd]⟩
  | some d =>
    obtain ⟨h1, h2⟩ := dec_some s d hd
    refine .inr ⟨h2, by rw [h1, size_mk, List.size_toArray]; exact (dec_len hd).1, ?_⟩
    rw [h1]; unfold ppL; rw [hd]; rfl
theorem nameB_mk (l : List UInt8) : nameB ⟨l.toArray⟩ = nameL l := nameB_list _
theorem cut_small (l : List UInt8) : (Lib.cut l [0]).1.length ≤ l.length ∧ (Lib.cut l [0]).2.1.length ≤ l.length := by
  unfold Lib.cut
  split
  · refine ⟨?_, ?_⟩
    · simp only [List.length_take]; omega
    · simp only [List.length_drop]; omega
  · simp

theorem ne_empty' {x : ByteArray} (h : 1 ≤ x.size) : x.toList.isEmpty = false ∧ ¬ x.toList = [] := by
  have : ¬ x.toList = [] := by
    rw [ByteArray.toList_eq]; intro e
    have := congrArg List.length e
    rw [show x.data.toList.length = x.size from bl_length x, List.length_nil] at this
    omega
  exact ⟨by simpa using this, this⟩

set_option maxHeartbeats 4000000 in
theorem implPP_any (s : ByteArray) (w : World) (hs : s.size ≤ 2000000) (m : Int) (hm : w.cell? ⟨0, 0, none⟩ = some (.int .i64 m)) :
    Calls Try.prog 10 #[.string s] w (GaveP (ppU s) (ppV s) (ppOk s) w) := by
  have HM := Lib.hid hm
  have h0w : 0 < w.heap.size := World.block_lt_of_cell? w _ hm
  clear hm
  have HPN := Lib.hid (@pp_none s)
  have HPS := Lib.hid (pp_some s)
  have HPD := Lib.hid (pp_dec s)
  generalize hU : ppU s = U at HPN HPS ⊢
  generalize hV : ppV s = V at HPN HPS ⊢
  generalize hO : ppOk s = O at HPN HPS ⊢
  clear hU hV hO
  generalize ppL s = R at *
  generalize hD : decB s = D at HPD
  generalize hDO : decOk s = DO at HPD
  have HD := Lib.hid hD; clear hD
  have HDO := Lib.hid hDO; clear hDO
  go_enter Try.func10, Try.ntmps10
  go_wp2_with fail
  refine (implDec_any s _ hs).mono ?_
  rw [HD.out, HDO.out]
  rintro e w1 ⟨rfl, hb1⟩
  have HM1 := Lib.hid ((hb1.cell (p := ⟨0, 0, none⟩) h0w).trans HM.out)
  have HB1 := Lib.hid hb1; clear hb1
  have hs1 := HB1.out.size
  rcases HPD.out with ⟨rfl, hR⟩ | ⟨rfl, hD30, hR⟩
  · obtain ⟨rfl, rfl, rfl⟩ := HPN.out hR
    clear hR
    go_wp2_with fail
    go_ret3
    exact ⟨rfl, HB1.out⟩
  · have HR := Lib.hid hR; clear hR
    have hDl : (bl D).length ≤ 30 := by rw [bl_length]; exact hD30
    go_wp2_with fail
    refine (Try.strings_CutPrefix D _ _).mono ?_
    rintro e w2 ⟨h2, h2'⟩
    obtain rfl : w1 = w2 := h2'.symm
    clear h2'
    obtain rfl : e = .returned (.tuple #[.string ⟨(Lib.trimPrefix (bl D) [0]).toArray⟩, .bool (Lib.hasPrefix (bl D) [0])]) := h2
    have HNP := Lib.hid (plainP_no (bl D))
    have HPP := Lib.hid (show plainP (bl D) = _ from rfl)
    unfold plainP at HPP
    cases hp : Lib.hasPrefix (bl D) [0]
    · obtain ⟨rfl, rfl, rfl⟩ := HPN.out (by rw [HR.out]; exact HNP.out hp)
      clear hp
      go_wp2_with fail
      go_ret3
      exact ⟨rfl, HB1.out⟩
    · have hTl : (Lib.trimPrefix (bl D) [0]).length ≤ 30 := by
        unfold Lib.trimPrefix; rw [hp]; simp; omega
      have hcs := cut_small (Lib.trimPrefix (bl D) [0])
      have HRP := Lib.hid (show R = if (Lib.cut (Lib.trimPrefix (bl D) [0]) [0]).2.2 && nameL (Lib.cut (Lib.trimPrefix (bl D) [0]) [0]).1 && nameL (Lib.cut (Lib.trimPrefix (bl D) [0]) [0]).2.1 then some ((Lib.cut (Lib.trimPrefix (bl D) [0]) [0]).1, (Lib.cut (Lib.trimPrefix (bl D) [0]) [0]).2.1) else none by
        rw [HR.out]; unfold plainP; rw [hp, Bool.true_and])
      clear hp
      generalize Lib.trimPrefix (bl D) [0] = T at *
      have HTB := Lib.hid (show (⟨T.toArray⟩ : ByteArray).data.toList = T from rfl)
      have hTs : (⟨T.toArray⟩ : ByteArray).size < 4294967281 := by rw [size_mk, List.size_toArray]; omega
      go_wp2_with fail
      refine (Try.strings_Cut ⟨T.toArray⟩ _ m _ hTs HM1.out).mono ?_
      rintro e w3 ⟨h3, n, hw3⟩
      obtain rfl : e = .returned (.tuple #[.string ⟨(Lib.cut T [0]).1.toArray⟩, .string ⟨(Lib.cut T [0]).2.1.toArray⟩, .bool (Lib.cut T [0]).2.2]) := h3
      subst hw3
      clear hTs
      generalize Lib.cut T [0] = c at *
      obtain ⟨u, p, ok⟩ := c
      simp only at hcs HRP
      have HB3 := Lib.hid (Below.drewN' HB1.out n)
      have hs3 := HB3.out.size
      generalize w1.drewN n = w3 at *
      have hus : (⟨u.toArray⟩ : ByteArray).size ≤ 1000000000 := by rw [size_mk, List.size_toArray]; omega
      have hps : (⟨p.toArray⟩ : ByteArray).size ≤ 1000000000 := by rw [size_mk, List.size_toArray]; omega
      have HNU := Lib.hid (nameB_mk u)
      have HNP2 := Lib.hid (nameB_mk p)
      dsimp only
      cases ok
      · obtain ⟨rfl, rfl, rfl⟩ := HPN.out (by rw [HRP.out]; rfl)
        go_wp2_with fail
        go_ret3
        exact ⟨rfl, HB3.out⟩
      · cases hnu : nameL u
        · obtain ⟨rfl, rfl, rfl⟩ := HPN.out (by rw [HRP.out, hnu]; rfl)
          have HX := Lib.hid hnu; clear hnu
          go_wp2_with fail
          refine (implName_any ⟨u.toArray⟩ _ hus).mono ?_
          rw [HNU.out, HX.out]
          rintro e w4 ⟨rfl, hb4⟩
          have HB4 := Lib.hid (HB3.out.trans (hb4.mono hs3)); clear hb4
          go_wp2_with fail
          go_ret3
          exact ⟨rfl, HB4.out⟩
        · have HX := Lib.hid hnu
          cases hnp : nameL p
          · obtain ⟨rfl, rfl, rfl⟩ := HPN.out (by rw [HRP.out, hnu, hnp]; rfl)
            have HY := Lib.hid hnp; clear hnp hnu
            go_wp2_with fail
            refine (implName_any ⟨u.toArray⟩ _ hus).mono ?_
            rw [HNU.out, HX.out]
            rintro e w4 ⟨rfl, hb4⟩
            have HB4 := Lib.hid (HB3.out.trans (hb4.mono hs3)); clear hb4
            have hs4 := HB4.out.size
            go_wp2_with fail
            refine (implName_any ⟨p.toArray⟩ _ hps).mono ?_
            rw [HNP2.out, HY.out]
            rintro e w5 ⟨rfl, hb5⟩
            have HB5 := Lib.hid (HB4.out.trans (hb5.mono hs4)); clear hb5
            go_wp2_with fail
            go_ret3
            exact ⟨rfl, HB5.out⟩
          · obtain ⟨rfl, rfl, rfl⟩ := HPS.out u p (by rw [HRP.out, hnu, hnp]; rfl)
            have HY := Lib.hid hnp; clear hnp hnu
            go_wp2_with fail
            refine (implName_any ⟨u.toArray⟩ _ hus).mono ?_
            rw [HNU.out, HX.out]
            rintro e w4 ⟨rfl, hb4⟩
            have HB4 := Lib.hid (HB3.out.trans (hb4.mono hs3)); clear hb4
            have hs4 := HB4.out.size
            go_wp2_with fail
            refine (implName_any ⟨p.toArray⟩ _ hps).mono ?_
            rw [HNP2.out, HY.out]
            rintro e w5 ⟨rfl, hb5⟩
            have HB5 := Lib.hid (HB4.out.trans (hb5.mono hs4)); clear hb5
            go_wp2_with fail
            go_ret3
            exact ⟨rfl, HB5.out⟩

theorem plainS_len (ps : List ByteArray) (l : List UInt8) (h : ps.map bl = cutL 0 l) (h3 : ps.length ≠ 3) : plainS l = none := by
  unfold plainS
  rw [← h]
  match ps, h3 with
  | [], _ => rfl
  | [a], _ => rfl
  | [a, b], _ => rfl
  | [a, b, c], h3 => exact absurd rfl h3
  | a :: b :: c :: d :: r, _ => rfl
theorem plainS_three (a u p : ByteArray) (l : List UInt8) (h : [a, u, p].map bl = cutL 0 l) : plainS l = if (bl a).isEmpty && nameB u && nameB p then some (bl u, bl p) else none := by
  unfold plainS
  rw [← h, nameB_list, nameB_list]; rfl

set_option maxHeartbeats 4000000 in
theorem specPP_any (s : ByteArray) (w : World) (hs : s.size ≤ 2000000) :
    Calls Try.prog 11 #[.string s] w (GaveP (ppU s) (ppV s) (ppOk s) w) := by
  have HPN := Lib.hid (@pp_none s)
  have HPS := Lib.hid (pp_some s)
  have HPD := Lib.hid (pp_dec s)
  have HD0 := Lib.hid (show decOk s = false → decB s = ⟨#[]⟩ from fun h => by
    cases hd : decI (bl s) with
    | none => exact (dec_no s hd).1
    | some d => rw [(dec_some s d hd).2] at h; cases h)
  generalize hU : ppU s = U at HPN HPS ⊢
  generalize hV : ppV s = V at HPN HPS ⊢
  generalize hO : ppOk s = O at HPN HPS ⊢
  clear hU hV hO
  generalize ppL s = R at *
  generalize hD : decB s = D at HPD HD0
  generalize hDO : decOk s = DO at HPD HD0
  have HD := Lib.hid hD; clear hD
  have HDO := Lib.hid hDO; clear hDO
  have hDz : D.size ≤ 30 := by
    rcases HPD.out with ⟨h, _⟩ | ⟨_, h, _⟩
    · rw [HD0.out h]; rw [size_mk]; simp
    · exact h
  go_enter Try.func11, Try.ntmps11
  go_wp2_with fail
  refine (specDec_any s _ hs).mono ?_
  rw [HD.out, HDO.out]
  rintro e w1 ⟨rfl, hb1⟩
  have HB1 := Lib.hid hb1; clear hb1
  have hs1 := HB1.out.size
  go_wp2_with fail
  refine (cut_any D 0 _ (by omega)).mono ?_
  have HCL := Lib.hid (cut_list D 0)
  have HSZ := Lib.hid (cut_sizes D 0 0 0)
  generalize cut D 0 0 0 = ps at HCL HSZ ⊢
  rintro e w2 ⟨pv, rfl, hps, hb2⟩
  have HB2 := Lib.hid (HB1.out.trans (hb2.mono hs1)); clear hb2
  have hs2 := HB2.out.size
  obtain ⟨pg, pcap, rfl, hp1, hp2, hpg, hpc⟩ := hps
  unfold maxLen at hp2
  have HPC := Lib.hid hpc; clear hpc
  rcases HPD.out with ⟨rfl, hR⟩ | ⟨rfl, hD30, hR⟩
  · obtain ⟨rfl, rfl, rfl⟩ := HPN.out hR
    clear hR
    go_wp2_with fail
    go_ret3
    exact ⟨rfl, HB2.out⟩
  · rw [plain_eq] at hR
    have HR := Lib.hid hR; clear hR
    by_cases h3 : ps.length = 3
    · match ps, h3 with
      | [a, u, p], _ =>
        have HRP := Lib.hid (show R = if (bl a).isEmpty && nameB u && nameB p then some (bl u, bl p) else none by rw [HR.out]; exact plainS_three a u p _ HCL.out)
        have c0 := HPC.out 0 (by simp)
        have c1 := HPC.out 1 (by simp)
        have c2 := HPC.out 2 (by simp)
        have hus : u.size ≤ 1000000000 := by have := HSZ.out u (by simp); omega
        have hps : p.size ≤ 1000000000 := by have := HSZ.out p (by simp); omega
        simp only [List.getElem_cons_zero, List.getElem_cons_succ] at c0 c1 c2
        clear hp1
        by_cases ha : a.size = 0
        · obtain rfl : a = ⟨#[]⟩ := bl_inj (List.length_eq_zero_iff.1 (by rw [bl_length]; exact ha))
          clear ha
          cases hnu : nameB u
          · obtain ⟨rfl, rfl, rfl⟩ := HPN.out (by rw [HRP.out, hnu]; rfl)
            have HX := Lib.hid hnu; clear hnu
            go_wp2_with fail
            refine (specName_any u _ hus).mono ?_
            rw [HX.out]
            rintro e w4 ⟨rfl, rfl⟩
            go_wp2_with fail
            go_ret3
            exact ⟨rfl, HB2.out⟩
          · cases hnp : nameB p
            · obtain ⟨rfl, rfl, rfl⟩ := HPN.out (by rw [HRP.out, hnu, hnp]; rfl)
              have HX := Lib.hid hnu; clear hnu
              have HY := Lib.hid hnp; clear hnp
              go_wp2_with fail
              refine (specName_any u _ hus).mono ?_
              rw [HX.out]
              rintro e w4 ⟨rfl, rfl⟩
              go_wp2_with fail
              refine (specName_any p _ hps).mono ?_
              rw [HY.out]
              rintro e w4 ⟨rfl, rfl⟩
              go_wp2_with fail
              go_ret3
              exact ⟨rfl, HB2.out⟩
            · obtain ⟨hU, hV, rfl⟩ := HPS.out (bl u) (bl p) (by rw [HRP.out, hnu, hnp]; rfl)
              obtain rfl : U = u := hU
              obtain rfl : V = p := hV
              have HX := Lib.hid hnu; clear hnu
              have HY := Lib.hid hnp; clear hnp
              go_wp2_with fail
              refine (specName_any U _ hus).mono ?_
              rw [HX.out]
              rintro e w4 ⟨rfl, rfl⟩
              go_wp2_with fail
              refine (specName_any V _ hps).mono ?_
              rw [HY.out]
              rintro e w4 ⟨rfl, rfl⟩
              go_wp2_with fail
              go_quiet (fail)
              go_wp2_with fail
              go_ret3
              exact ⟨rfl, Below.drewN' HB2.out nq⟩
        · obtain ⟨e1, e2⟩ := ne_empty' (x := a) (by omega)
          have hae : (bl a).isEmpty = false := by
            cases hb : bl a with
            | nil => have := bl_length a; rw [hb] at this; simp at this; omega
            | cons x r => rfl
          obtain ⟨rfl, rfl, rfl⟩ := HPN.out (by rw [HRP.out, hae]; rfl)
          clear hae ha
          go_wp2_with fail
          go_ret3
          exact ⟨rfl, HB2.out⟩
    · have hne : ((ps.length : Int) != 3) = true := bne_iff_ne.2 (by omega)
      obtain ⟨rfl, rfl, rfl⟩ := HPN.out (by rw [HR.out]; exact plainS_len ps _ HCL.out h3)
      clear h3
      go_wp2_with fail
      go_ret3
      exact ⟨rfl, HB2.out⟩

end Go.Proofs.Ytpefhkdpfcbhkaa
