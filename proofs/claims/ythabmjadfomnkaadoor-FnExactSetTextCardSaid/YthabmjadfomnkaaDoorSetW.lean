/- Contracts: rows of spans; SetValid, the program's and the reference's. -/
import Derived.Test.YthabmjadfomnkaaDoorPlainS2
import Derived.Test.YthabmjadfomnkaaDoorNames
import Derived.OwnWalk
import Derived.Laws.OwnMore
import Derived.Maps.AppendAt
import Derived.RangeFuncBox
namespace Go.Proofs.YthabmjadfomnkaaDoor
open Go.RowKit
set_option linter.unusedVariables false

/-- The cells of spans. -/
def spCells (xs : List Sp) : List Value := xs.flatMap fun x => [.int .i64 x.1, .int .i64 x.2]
theorem spCells_length (xs : List Sp) : (spCells xs).length = xs.length * 2 := by
  induction xs with
  | nil => rfl
  | cons x r ih => simp only [spCells, List.flatMap_cons, List.length_append, List.length_cons, List.length_nil] at ih ⊢; omega
theorem spCells_get (xs : List Sp) (i : Nat) (h : i < xs.length) : (spCells xs)[i * 2]? = some (.int .i64 xs[i].1) ∧ (spCells xs)[i * 2 + 1]? = some (.int .i64 xs[i].2) := by
  induction xs generalizing i with
  | nil => simp at h
  | cons x r ih =>
    cases i with
    | zero => simp [spCells]
    | succ i =>
      have := ih i (by simpa using h)
      simp only [spCells, List.flatMap_cons, List.cons_append, List.nil_append, List.getElem_cons_succ] at this ⊢
      rw [show (i + 1) * 2 = i * 2 + 1 + 1 by omega]
      simp only [List.getElem?_cons_succ]
      exact this
theorem spCells_snoc (xs : List Sp) (x : Sp) : spCells (xs ++ [x]) = spCells xs ++ [.int .i64 x.1, .int .i64 x.2] := by simp [spCells]
/-- A slice value reads as spans. -/
def SpansAt (w : World) (v : Value) (xs : List Sp) : Prop := ∃ a cap, v = .slice a xs.length cap ∧ xs.length ≤ cap ∧ cap ≤ maxLen ∧
  (xs = [] ∨ ∃ g off, a = some ⟨g, off, none⟩ ∧ g < w.heap.size ∧ ∀ i (h : i < xs.length), w.cell? ⟨g, off + i * 2, none⟩ = some (.int .i64 xs[i].1) ∧ w.cell? ⟨g, off + i * 2 + 1, none⟩ = some (.int .i64 xs[i].2))
theorem SpansAt.below {w w' : World} {v : Value} {xs : List Sp} (h : SpansAt w v xs) (hb : Below w.heap.size w w') : SpansAt w' v xs := by
  obtain ⟨a, cap, rfl, h1, h2, h3⟩ := h
  refine ⟨a, cap, rfl, h1, h2, h3.imp id ?_⟩
  rintro ⟨g, off, rfl, hg, hc⟩
  exact ⟨g, off, rfl, Nat.lt_of_lt_of_le hg hb.size, fun i hi => ⟨(hb.cell (p := ⟨g, _, none⟩) hg).trans (hc i hi).1, (hb.cell (p := ⟨g, _, none⟩) hg).trans (hc i hi).2⟩⟩
theorem SpansAt.alloc {w : World} {v : Value} {xs : List Sp} (h : SpansAt w v xs) (o : Obj) : SpansAt (w.alloc o) v xs := h.below ((Below.refl _ _).alloc (Nat.le_refl _) o)

theorem numValid_any (n : Int) (w : World) :
    Calls Tryd.prog 33 #[.int .i64 n] w fun e w' => e = .returned (.bool (decide (0 ≤ n) && decide (n ≤ 99))) ∧ w = w' := by
  by_cases h1 : 0 ≤ n
  · by_cases h2 : n ≤ 99
    · go_enter Tryd.func33, Tryd.ntmps33
      go_wp2
      go_ret
      exact ⟨by simp [*], rfl⟩
    · go_enter Tryd.func33, Tryd.ntmps33
      go_wp2
      go_ret
      exact ⟨by simp [*], rfl⟩
  · have h3 : decide (0 ≤ n) = false := by simpa using h1
    go_enter Tryd.func33, Tryd.ntmps33
    go_wp2
    go_ret
    exact ⟨by simp [*], rfl⟩

theorem setV_iff (xs : List Sp) : setV xs = (xs.all okSp && (decide (1 ≤ xs.length) && decide (xs.length ≤ 6))) := rfl
theorem all_bad {xs : List Sp} {j : Nat} (h : j < xs.length) (hb : okSp xs[j] = false) : xs.all okSp = false :=
  List.all_eq_false.2 ⟨xs[j], List.getElem_mem _, by simp [hb]⟩

set_option maxHeartbeats 1000000 in
/-- The program's SetValid. -/
theorem implSV_any (v : Value) (xs : List Sp) (w : World) (hv : SpansAt w v xs) :
    Calls Tryd.prog 18 #[v] w fun e w' => e = .returned (.bool (setV xs)) ∧ Below w.heap.size w w' := by
  obtain ⟨a, cap, rfl, hlc, hcm, hrow⟩ := hv
  unfold maxLen at hcm
  have HS := Lib.hid (setV_iff xs)
  generalize setV xs = B at HS ⊢
  by_cases hl : xs.length < 1 ∨ 6 < xs.length
  · obtain rfl : B = false := by
      rw [HS.out]
      rcases hl with h | h
      · rw [show decide (1 ≤ xs.length) = false from decide_eq_false (by omega)]; simp
      · rw [show decide (xs.length ≤ 6) = false from decide_eq_false (by omega)]; simp
    rcases hl with h | h
    · have h1 : (xs.length : Int) < 1 := by omega
      clear hrow
      go_enter Tryd.func18, Tryd.ntmps18
      go_wp2_with fail
      go_ret
      exact ⟨rfl, Below.refl _ _⟩
    · have h1 : decide ((xs.length : Int) < 1) = false := by simp; omega
      have h2 : (6 : Int) < (xs.length : Int) := by omega
      clear hrow
      go_enter Tryd.func18, Tryd.ntmps18
      go_wp2_with fail
      go_ret
      exact ⟨rfl, Below.refl _ _⟩
  · have h1 : decide ((xs.length : Int) < 1) = false := by simp; omega
    have h2 : ¬ (6 : Int) < (xs.length : Int) := by omega
    have hne : xs ≠ [] := by rintro rfl; simp at hl
    have HBV : Hid (B = xs.all okSp) := by
      show B = xs.all okSp
      rw [HS.out, show decide (1 ≤ xs.length) = true from decide_eq_true (by omega), show decide (xs.length ≤ 6) = true from decide_eq_true (by omega)]; simp
    obtain ⟨g, off, rfl, hg, hcell⟩ := hrow.resolve_left hne
    have HCELL := Lib.hid hcell; clear hcell
    clear hne hrow
    go_enter Tryd.func18, Tryd.ntmps18
    go_wp2_with fail
    go_loopg [15] xs.length (fun k iv wr => ∃ j : Nat, j ≤ xs.length ∧ k = xs.length - j ∧ iv = .int .i64 j ∧ (xs.take j).all okSp = true ∧ Below w.heap.size w wr)
    case atStart => exact ⟨0, Nat.zero_le _, rfl, rfl, rfl, Below.refl _ _⟩
    case round =>
      obtain ⟨j, hj, hk, rfl, hall, hbw⟩ := hrel
      have HK := Lib.hid hk; clear hk
      have HALL := Lib.hid hall; clear hall
      have hzw := hbw.size
      have HBW := Lib.hid hbw; clear hbw
      by_cases hlt : j < xs.length
      · have hi : (j : Int) < (xs.length : Int) := by omega
        have c0 := (HBW.out.cell (p := ⟨g, off + j * 2, none⟩) hg).trans (HCELL.out j hlt).1
        have c1 := (HBW.out.cell (p := ⟨g, off + j * 2 + 1, none⟩) hg).trans (HCELL.out j hlt).2
        have HT := Lib.hid (List.take_succ_eq_append_getElem hlt)
        have HBD := Lib.hid (all_bad hlt)
        generalize xs[j] = x at c0 c1 HT HBD
        obtain ⟨x1, x2⟩ := x
        simp only at c0 c1
        have HOK := Lib.hid (show okSp (x1, x2) = ((decide (0 ≤ x1) && decide (x1 ≤ 99)) && (decide (0 ≤ x2) && decide (x2 ≤ 99))) from rfl)
        go_wp2_with fail
        refine (numValid_any x1 _).mono ?_
        rintro e w1 ⟨rfl, rfl⟩
        cases hv1 : (decide (0 ≤ x1) && decide (x1 ≤ 99))
        · have hb := HBD.out (by rw [HOK.out, hv1]; rfl)
          obtain rfl : B = false := by rw [HBV.out, hb]
          clear hb hv1
          go_wp2_with fail
          go_ret
          exact ⟨rfl, HBW.out.alloc hzw _⟩
        · have HV1 := Lib.hid hv1; clear hv1
          go_wp2_with fail
          refine (numValid_any x2 _).mono ?_
          rintro e w1 ⟨rfl, rfl⟩
          cases hv2 : (decide (0 ≤ x2) && decide (x2 ≤ 99))
          · have hb := HBD.out (by rw [HOK.out, hv2, HV1.out]; rfl)
            obtain rfl : B = false := by rw [HBV.out, hb]
            clear hb hv2
            go_wp2_with fail
            go_ret
            exact ⟨rfl, HBW.out.alloc hzw _⟩
          · have HV2 := Lib.hid hv2; clear hv2
            go_wp2_with fail
            go_roundg (xs.length - (j + 1))
            case measure => rw [HK.out]; omega
            case rel => exact ⟨j + 1, by omega, rfl, by go_num, by rw [HT.out, List.all_append, HALL.out, List.all_cons, HOK.out, HV1.out, HV2.out]; rfl, HBW.out.alloc hzw _⟩
      · obtain rfl : j = xs.length := by omega
        obtain rfl : B = true := by rw [HBV.out]; have := HALL.out; rwa [List.take_length] at this
        go_wp2_with fail
        go_ret
        exact ⟨rfl, HBW.out⟩
end Go.Proofs.YthabmjadfomnkaaDoor
