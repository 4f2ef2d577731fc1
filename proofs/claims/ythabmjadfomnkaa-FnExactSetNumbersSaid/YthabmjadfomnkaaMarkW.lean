/- Contracts: marks in spans, and whether they are held. -/
import Derived.Test.YthabmjadfomnkaaCopyW
namespace Go.Proofs.Ythabmjadfomnkaa
open Go.RowKit
set_option linter.unusedVariables false

/-- The marks of n spans from k on. -/
def markL (n : Nat) (k : Int) : List Sp := (List.range n).map fun i : Nat => (k + 2 * (i : Int), k + 2 * (i : Int) + 1)
theorem markL_length (n : Nat) (k : Int) : (markL n k).length = n := by simp [markL]
theorem markL_get (n : Nat) (k : Int) (i : Nat) (h : i < (markL n k).length) : (markL n k)[i] = (k + 2 * (i : Int), k + 2 * (i : Int) + 1) := by simp [markL]
theorem own_some {w : World} {base size n cap : Nat} {e : TypeId} {a : Option Addr} {xs : List Value} (h : w.ownsRow base e size (.slice a n cap) n xs) (hn : 0 < n) : ∃ g, a = some ⟨g, 0, none⟩ ∧ base ≤ g := by
  rcases h.2 with ⟨_, h0⟩ | ⟨g, cap, cur, hv, hb, _⟩
  · omega
  · cases hv; exact ⟨g, rfl, hb⟩
theorem grown_refl (w : World) (row : Option Nat) : w.grownBy w row := ⟨rfl, rfl, rfl, Nat.le_refl _, fun _ _ _ => rfl⟩

set_option maxHeartbeats 4000000 in
theorem markSpanS_any (v : Value) (xs : List Sp) (k : Int) (base : Nat) (w : World) (h : w.ownsRow base 32 2 v xs.length (spCells xs)) (hk0 : 0 ≤ k) (hk1 : k ≤ 1000) (hn : xs.length ≤ 1048576) :
    Calls Try.prog 31 #[v, .int .i64 k] w fun e w' => e = .returned (.int .i64 (k + 2 * (xs.length : Int))) ∧ w'.ownsRow base 32 2 v xs.length (spCells (markL xs.length k)) ∧ w.grownBy w' v.ownBlock := by
  obtain ⟨a, cap, rfl, hcm, hlc⟩ := own_slice h
  unfold maxLen at hcm
  have H := Lib.hid h; clear h
  generalize hN : xs.length = n at *
  go_enter Try.func31, Try.ntmps31
  go_wp2_with fail
  go_loopg [1, 5] n (fun kk kv iv wr => ∃ (j : Nat) (cs : List Value), j ≤ n ∧ kk = n - j ∧ kv = .int .i64 (k + 2 * (j : Int)) ∧ iv = .int .i64 j ∧ wr.ownsRow base 32 2 (.slice a n cap) n cs ∧ (∀ i, i < j → cs[i * 2]? = some (.int .i64 (k + 2 * (i : Int))) ∧ cs[i * 2 + 1]? = some (.int .i64 (k + 2 * (i : Int) + 1))) ∧ w.grownBy wr (Value.slice a n cap).ownBlock)
  case atStart => exact ⟨0, _, Nat.zero_le _, rfl, by simp, rfl, H.out, fun i h => by omega, grown_refl _ _⟩
  case round =>
    obtain ⟨j, cs, hj, hk, rfl, rfl, hown, hcs, hgr⟩ := hrel
    have HK := Lib.hid hk; clear hk
    have HCS := Lib.hid hcs; clear hcs
    have HGR := Lib.hid hgr; clear hgr
    have hcl := hown.1
    have HCL := Lib.hid hcl; clear hcl
    have HOW := Lib.hid hown; clear hown
    by_cases hlt : j < n
    · have hi : (j : Int) < (n : Int) := by omega
      obtain ⟨g, rfl, hg⟩ := own_some HOW.out (by omega)
      have d0 := World.ownsRow.cellAt HOW.out (j * 2) (by omega)
      have d1 := World.ownsRow.cellAt HOW.out (j * 2 + 1) (by omega)
      rw [List.getElem?_eq_getElem (by rw [HCL.out]; omega)] at d0 d1
      have f0 := World.ownsRow.frozenAt HOW.out (j * 2)
      have f1 := World.ownsRow.frozenAt HOW.out (j * 2 + 1)
      generalize cs[j * 2]'_ = y0 at d0
      generalize cs[j * 2 + 1]'_ = y1 at d1
      have HS1 := Lib.hid (World.ownsRow.stored HOW.out (j * 2) (.int .i64 (k + 2 * (j : Int))))
      have HS2 := Lib.hid (World.ownsRow.stored HS1.out.1 (j * 2 + 1) (.int .i64 (k + 2 * (j : Int) + 1)))
      have HSP := Lib.hid (set_pair cs xs n j (.int .i64 (k + 2 * (j : Int))) (.int .i64 (k + 2 * (j : Int) + 1)) HCL.out hlt)
      go_wp2_with fail
      go_roundg (n - (j + 1))
      case measure => rw [HK.out]; omega
      case rel =>
        refine ⟨j + 1, _, by omega, rfl, by congr 1; omega, by go_num, HS2.out.1, fun i hij => ?_, ?_⟩
        · by_cases e : i = j
          · subst e
            exact ⟨HSP.out.1, HSP.out.2.1⟩
          · have h1 := HSP.out.2.2 i (by omega)
            have h2 := HCS.out i (by omega)
            exact ⟨h1.1.trans h2.1, h1.2.trans h2.2⟩
        · exact World.grownBy.trans (World.grownBy.trans HGR.out HS1.out.2) HS2.out.2
    · obtain rfl : j = n := by omega
      have HFIN := Lib.hid (cells_spans cs (markL j k) (by rw [markL_length]; exact HCL.out) (fun i hi => by
        rw [markL_get]; exact HCS.out i (by rw [markL_length] at hi; exact hi)))
      go_wp2_with fail
      go_ret
      refine ⟨rfl, ?_, HGR.out⟩
      rw [← HFIN.out]
      exact HOW.out

set_option maxHeartbeats 4000000 in
theorem heldSpanS_any (v : Value) (n : Nat) (k : Int) (w : World) (h : SpansAt w v (markL n k)) (hk0 : 0 ≤ k) (hk1 : k ≤ 1000) (hn : n ≤ 1048576) :
    Calls Try.prog 32 #[v, .int .i64 k] w fun e w' => e = .returned (.int .i64 (k + 2 * (n : Int))) ∧ w = w' := by
  obtain ⟨a, cap, rfl, hlc, hcm, hrow⟩ := h
  unfold maxLen at hcm
  have HROW := Lib.hid hrow; clear hrow
  have hl := markL_length n k
  rw [hl] at hlc ⊢
  have HL := Lib.hid hl; clear hl
  go_enter Try.func32, Try.ntmps32
  go_wp2_with fail
  go_loopg [1, 5] n (fun kk kv iv wr => ∃ j : Nat, j ≤ n ∧ kk = n - j ∧ kv = .int .i64 (k + 2 * (j : Int)) ∧ iv = .int .i64 j ∧ w = wr)
  case atStart => exact ⟨0, Nat.zero_le _, rfl, by simp, rfl, rfl⟩
  case round =>
    obtain ⟨j, hj, hk, rfl, rfl, rfl⟩ := hrel
    have HK := Lib.hid hk; clear hk
    by_cases hlt : j < n
    · have hi : (j : Int) < (n : Int) := by omega
      obtain ⟨g, off, rfl, hg, hcell⟩ := HROW.out.resolve_left (by intro e; have := HL.out; rw [e] at this; simp at this; omega)
      have hj' : j < (markL n k).length := by rw [HL.out]; exact hlt
      have c0 := (hcell j hj').1
      have c1 := (hcell j hj').2
      rw [markL_get] at c0 c1
      simp only at c0 c1
      clear hcell
      go_wp2_with fail
      go_roundg (n - (j + 1))
      case measure => rw [HK.out]; omega
      case rel => exact ⟨j + 1, by omega, rfl, by congr 1; omega, by go_num, rfl⟩
    · obtain rfl : j = n := by omega
      go_wp2_with fail
      go_ret
      exact ⟨rfl, rfl⟩

end Go.Proofs.Ythabmjadfomnkaa
