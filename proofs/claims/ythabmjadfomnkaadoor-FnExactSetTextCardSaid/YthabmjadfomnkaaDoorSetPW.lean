/- Contracts: the program's SetParse. -/
import Derived.Test.YthabmjadfomnkaaDoorSpanW
namespace Go.Proofs.YthabmjadfomnkaaDoor
open Go.RowKit
set_option linter.unusedVariables false

/-- A set handed back. -/
def GaveSet (r : Option (List Sp)) (w : World) (e : Ending) (w' : World) : Prop := ∃ v, e = .returned (.tuple #[v, .bool r.isSome]) ∧ w'.ownsRow w.heap.size 41 2 v (r.getD []).length (spCells (r.getD [])) ∧ Below w.heap.size w w'
theorem setP_none (n : Nat) (l : List UInt8) (h : spanP l = none) : setP (n + 1) l = none := by
  unfold setP; rw [h]
theorem setP_end (n : Nat) (l : List UInt8) (x : Sp) (h : spanP l = some (x, [])) : setP (n + 1) l = some [x] := by
  unfold setP; rw [h]
theorem setP_more (n : Nat) (l r : List UInt8) (x : Sp) (h : spanP l = some (x, 44 :: r)) : setP (n + 1) l = (setP n r).map (x :: ·) := by
  rw [setP, h]
  simp only [if_true]
  cases setP n r <;> rfl
theorem setP_bad (n : Nat) (l r : List UInt8) (x : Sp) (c : UInt8) (h : spanP l = some (x, c :: r)) (hc : c ≠ 44) : setP (n + 1) l = none := by
  unfold setP; rw [h]; simp only [if_neg hc]
theorem own_slice {w : World} {base size : Nat} {e : TypeId} {v : Value} {n : Nat} {xs : List Value} (h : w.ownsRow base e size v n xs) : ∃ a cap, v = .slice a n cap ∧ cap ≤ maxLen ∧ n ≤ cap := by
  rcases h.2 with ⟨rfl, rfl⟩ | ⟨g, cap, cur, rfl, _, _, hn, hm, _⟩
  · exact ⟨none, 0, rfl, Nat.zero_le _, Nat.le_refl _⟩
  · exact ⟨_, cap, rfl, hm, hn⟩
theorem own_drewN {w : World} {base size : Nat} {e : TypeId} {v : Value} {n : Nat} {xs : List Value} (h : w.ownsRow base e size v n xs) (k : Nat) : (w.drewN k).ownsRow base e size v n xs := by
  unfold World.ownsRow; rw [(drewN_heap w k).1]; exact h
theorem own_mono {w : World} {base base' size : Nat} {e : TypeId} {v : Value} {n : Nat} {xs : List Value} (h : w.ownsRow base e size v n xs) (hb : base' ≤ base) : w.ownsRow base' e size v n xs := by
  refine ⟨h.1, h.2.imp id ?_⟩
  rintro ⟨g, cap, cur, h1, h2, h3⟩
  exact ⟨g, cap, cur, h1, Nat.le_trans hb h2, h3⟩
theorem own_new (w : World) (k base size : Nat) (e : TypeId) (hk : w.heap.size = k) (hb : base ≤ k) : (w.alloc (.cells #[] e)).ownsRow base e size (.slice (some ⟨k, 0, none⟩) 0 0) 0 [] := by
  subst hk
  exact World.ownsRow_lit w #[] 0 hb (Nat.zero_le _) (by simp)
theorem Two.keptG {w w' : World} {b : Nat} {t : TypeId} {x y : Value} {row : Option Nat} (h : Two w b t x y) (hg : w.grownBy w' row) (hr : some b ≠ row) : Two w' b t x y :=
  (hg.block b h.lt hr).trans h
theorem map_app {xs : List Sp} {x : Sp} {o : Option (List Sp)} : (o.map (x :: ·)).map (xs ++ ·) = o.map ((xs ++ [x]) ++ ·) := by
  cases o <;> simp

set_option maxHeartbeats 4000000 in
theorem implSP_any (s : ByteArray) (w : World) (hs : s.size ≤ 1000000000) :
    Calls Tryd.prog 9 #[.string s] w (GaveSet (setT (bl s)) w) := by
  obtain ⟨i0, hi0, hz0, hz1, hz2⟩ := info_parts infoSpan
  generalize hR : setT (bl s) = R
  have HR := Lib.hid hR; clear hR
  go_enter Tryd.func9, Tryd.ntmps9
  go_wp2_with fail
  go_loopg [5] 6 (fun k v wr => ∃ (xs : List Sp) (q : Nat), xs.length ≤ 6 ∧ k = 6 - xs.length ∧ q ≤ s.size ∧ R = (setP (6 - xs.length) ((bl s).drop q)).map (xs ++ ·) ∧ wr.ownsRow (w.heap.size + 1) 41 2 v xs.length (spCells xs) ∧ Below w.heap.size w wr ∧ Two wr w.heap.size 45 (.string s) (.int .i64 q))
  case atStart =>
    refine ⟨[], 0, by simp, rfl, Nat.zero_le _, ?_, own_new _ _ _ _ _ (World.size_alloc w _) (Nat.le_refl _), ((Below.refl _ _).alloc (Nat.le_refl _) _).alloc (by simp) _, (Two.new w _ _ _).alloc _⟩
    rw [← HR.out]
    show setP 6 (bl s) = _
    simp
  case round =>
    obtain ⟨xs, q, hxl, hk, hq, hrq, hown, hbw, htw⟩ := hrel
    have HK := Lib.hid hk; clear hk
    have hzw := hbw.size
    have HBW := Lib.hid hbw; clear hbw
    have HTW := Lib.hid htw; clear htw
    obtain ⟨sa, scap, rfl, hcm, hcl⟩ := own_slice hown
    unfold maxLen at hcm
    have HOW := Lib.hid hown; clear hown
    have HNB := Lib.hid (show (Value.slice sa xs.length scap).ownBlock = none ∨ (Value.slice sa xs.length scap).ownBlock ≠ some w.heap.size from .inr fun e => by have := (HOW.out.lt _ e).1; omega)
    by_cases hlt : xs.length < 6
    · have hi : (xs.length : Int) < 6 := by omega
      have HRQ := Lib.hid (show R = (setP ((5 - xs.length) + 1) ((bl s).drop q)).map (xs ++ ·) by rw [hrq, show 6 - xs.length = (5 - xs.length) + 1 by omega]); clear hrq
      go_wp2_with fail
      refine (setSpan_any w.heap.size s q _ hs hq HTW.out).mono ?_
      cases hsp : spanP ((bl s).drop q) with
      | none =>
        obtain rfl : R = none := by rw [HRQ.out, setP_none _ _ hsp]; rfl
        clear hsp
        rintro e w2 ⟨⟨x, y, rfl⟩, hk2⟩
        have HB2 := Lib.hid (HBW.out.trans (hk2.below (Nat.le_refl _) hzw)); clear hk2
        have hz2' := HB2.out.size
        go_wp2_with fail
        go_ret2
        exact ⟨_, rfl, own_new _ _ _ _ _ (World.size_alloc w2 _) (by omega), ((HB2.out.alloc hz2' _).alloc (by simp; omega) _)⟩
      | some xl =>
        obtain ⟨⟨x1, x2⟩, l⟩ := xl
        rintro e w2 ⟨rfl, hk2, q', rfl, hq1, hq2, ht2⟩
        have HSP := Lib.hid hsp; clear hsp
        have HO2 := Lib.hid ((HOW.out.kept hk2 HNB.out).alloc (.cells #[.int .i64 x1, .int .i64 x2] 41))
        have HB2 := Lib.hid (HBW.out.trans (hk2.below (Nat.le_refl _) hzw)); clear hk2
        have hz2' := HB2.out.size
        have hlt2 := ht2.lt
        have HT2 := Lib.hid ht2; clear ht2
        dsimp only
        go_wp2_with (at_builtin; refine wpList_append_own _ rfl _ _ 23 rfl (w.heap.size + 1) 41 i0 (.agg #[.int .i64 0, .int .i64 0]) 2 16 Tryd.underlying23 hi0 hz0 hz1 hz2 rfl (by decide) _ _ _ rfl (HO2.out.alloc _) ⟨w2.heap.size + 1, 0, none⟩ 1 1 [.int .i64 x1, .int .i64 x2] rfl rfl (cell_two_new' _ _ (by simp) _ _ _) (by simp [Value.oneCell']) (by unfold maxLen; omega) (by omega) (by simp; omega) ?_; intro v' w5 hown' hgrow _)
        have HO5 := Lib.hid hown'; clear hown'
        have HT5 := Lib.hid (((HT2.out.alloc _).alloc _).keptG hgrow (fun e => by have := (HO2.out.lt _ e.symm).1; omega))
        have HB5 := Lib.hid (((HB2.out.alloc hz2' _).alloc (by simp; omega) _).grown hgrow (by simp; omega) (fun k e => by have := (HO2.out.lt k e).1; omega)); clear hgrow
        have hz5 := HB5.out.size
        by_cases he : q' = s.size
        · obtain rfl : R = some (xs ++ [(x1, x2)]) := by
            rw [HRQ.out, setP_end _ _ (x1, x2) (by rw [HSP.out, bl_drop_end s q' (by omega)])]; rfl
          go_wp2_with fail
          refine (done_yes w.heap.size s q' _ hs he HT5.out.c0 HT5.out.c1).mono ?_
          rintro e w6 ⟨rfl, n, rfl⟩
          go_wp2_with fail
          go_ret2
          refine ⟨v', rfl, ?_, Below.drewN' HB5.out n⟩
          show (w5.drewN n).ownsRow w.heap.size _ 2 v' (xs ++ [(x1, x2)]).length (spCells (xs ++ [(x1, x2)]))
          rw [spCells_snoc, List.length_append]
          exact own_drewN (own_mono HO5.out (Nat.le_succ _)) n
        · have hq3 : q' < s.size := by omega
          clear he
          go_wp2_with fail
          refine (done_no w.heap.size s q' _ hs hq3 HT5.out.c0 HT5.out.c1).mono ?_
          rintro e w6 ⟨rfl, n, rfl⟩
          cases h44 : atB s q' 44
          · obtain rfl : R = none := by
              have := h44
              rw [atB_iff s q' 44 hq3, decide_eq_false_iff_not] at this
              rw [HRQ.out, setP_bad _ _ ((bl s).drop (q' + 1)) (x1, x2) s[q'] (by rw [HSP.out, bl_drop_cons s q' hq3]) this]; rfl
            have H44 := Lib.hid h44; clear h44
            go_wp2_with fail
            refine (take_no w.heap.size s q' 44 _ hs hq2 H44.out (HT5.out.drewN n)).mono ?_
            rintro e w7 ⟨rfl, hk7, ht7⟩
            have HB7 := Lib.hid ((Below.drewN' HB5.out n).trans (hk7.below (Nat.le_refl _) (by rw [(drewN_heap w5 n).1]; omega))); clear hk7 ht7
            have hz7 := HB7.out.size
            go_wp2_with fail
            go_ret2
            exact ⟨_, rfl, own_new _ _ _ _ _ rfl hz7, HB7.out.alloc hz7 _⟩
          · have HRM := Lib.hid (show R = (setP (6 - (xs ++ [(x1, x2)]).length) ((bl s).drop (q' + 1))).map ((xs ++ [(x1, x2)]) ++ ·) by
              rw [HRQ.out, setP_more _ _ ((bl s).drop (q' + 1)) (x1, x2) (by rw [HSP.out, bl_drop_at s q' 44 h44]), map_app]
              rw [List.length_append, List.length_cons, List.length_nil, show 6 - (xs.length + (0 + 1)) = 5 - xs.length by omega])
            have H44 := Lib.hid h44; clear h44
            go_wp2_with fail
            refine (take_is w.heap.size s q' 44 _ hs H44.out (HT5.out.drewN n)).mono ?_
            rintro e w7 ⟨rfl, hk7, ht7⟩
            have HO7 := Lib.hid ((own_drewN HO5.out n).kept hk7 (.inr fun e => by have := (HO5.out.lt _ e).1; omega))
            have HB7 := Lib.hid ((Below.drewN' HB5.out n).trans (hk7.below (Nat.le_refl _) (by rw [(drewN_heap w5 n).1]; omega))); clear hk7
            have HT7 := Lib.hid ht7; clear ht7
            go_wp2_with fail
            go_roundg (6 - (xs.length + 1))
            case measure => rw [HK.out]; omega
            case rel => exact ⟨xs ++ [(x1, x2)], q' + 1, by simp; omega, by simp, hq3, HRM.out, by rw [spCells_snoc, List.length_append]; exact HO7.out, HB7.out, HT7.out⟩
    · obtain rfl : R = none := by rw [hrq, show 6 - xs.length = 0 by omega]; rfl
      clear hrq
      go_wp2_with fail
      go_ret2
      exact ⟨_, rfl, own_new _ _ _ _ _ rfl hzw, HBW.out.alloc hzw _⟩

end Go.Proofs.YthabmjadfomnkaaDoor
