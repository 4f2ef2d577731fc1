/- A slice of spans that came in reads as a list of spans. -/
import Derived.Test.YthabmjadfomnkaaDoorSetW
import Derived.Deep.SlicePairs
import Derived.ChangeArms
namespace Go.Proofs.YthabmjadfomnkaaDoor
open Go.ChangeShapes Go.WideShapes Go.RowKit
set_option linter.unusedVariables false

def intV : Value → Int
  | .int _ n => n
  | _ => 0
theorem open_spans {H : Type} {enc : TypeId × Value → H} {W : World} {a : Option Addr} {len cap fuel : Nat} {x : DataW H × List MemPlace}
    (h : DataW.trod enc Tryd.prog W 0 (fun _ => true) true fuel 31 (Value.slice a len cap).cells.toList = some x) : ∃ xs, SpansAt W (.slice a len cap) xs := by
  rcases Go.Deep.open_slice_pairs Tryd.underlying31 Tryd.underlying56 (by kernel_rfl) rfl rfl (by kernel_rfl) (by kernel_rfl) h with ⟨hc, _⟩ | ⟨ad, l, c, m, k, V0, V1, D0, D1, P0, P1, hc, _, hl, hm, hmm, _, hall⟩
  · simp [Value.cells] at hc
    obtain ⟨rfl, rfl, rfl⟩ := hc
    exact ⟨[], none, 0, rfl, Nat.le_refl _, Nat.zero_le _, .inl rfl⟩
  · simp [Value.cells] at hc
    obtain ⟨rfl, rfl, rfl⟩ := hc
    simp only [if_true] at hmm
    subst hmm
    have e0 : ∀ i, i < m → V0 i = .int .i64 (intV (V0 i)) := fun i hi => by
      obtain ⟨z, h1, _⟩ := DataW.trod_int Tryd.underlying3 (hall i hi).2.2.1
      simp only [List.cons.injEq, and_true] at h1
      rw [h1]; rfl
    have e1 : ∀ i, i < m → V1 i = .int .i64 (intV (V1 i)) := fun i hi => by
      obtain ⟨z, h1, _⟩ := DataW.trod_int Tryd.underlying3 (hall i hi).2.2.2
      simp only [List.cons.injEq, and_true] at h1
      rw [h1]; rfl
    obtain ⟨b, off, spot⟩ := ad
    refine ⟨(List.range len).map fun i => (intV (V0 i), intV (V1 i)), some ⟨b, off, spot⟩, m, by simp, by simpa using hl, hm, ?_⟩
    by_cases h0 : len = 0
    · left; subst h0; rfl
    · right
      have hs : spot = none := by simpa [Addr.add] using World.cell?_spot (hall 0 (by omega)).1
      subst hs
      refine ⟨b, off, rfl, World.block_lt_of_cell? W _ (hall 0 (by omega)).1, fun i hi => ?_⟩
      have hi' : i < m := by simp at hi; omega
      have c0 := (hall i hi').1
      have c1 := (hall i hi').2.1
      rw [add_plain] at c0 c1
      rw [e0 i hi'] at c0
      rw [e1 i hi'] at c1
      rw [← Nat.add_assoc] at c1
      simp only [List.getElem_map, List.getElem_range]
      exact ⟨c0, c1⟩

end Go.Proofs.YthabmjadfomnkaaDoor
