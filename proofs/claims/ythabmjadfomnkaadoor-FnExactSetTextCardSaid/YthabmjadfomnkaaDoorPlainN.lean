/- Plain laws of names. -/
import Derived.Test.YthabmjadfomnkaaDoorPlainA
namespace Go.Proofs.YthabmjadfomnkaaDoor

theorem spanN_all (s : ByteArray) (n p : Nat) (hn : n = s.size - p) (hp : p ≤ s.size) : spanN s n p = s.size ↔ ∀ i (h : i < s.size), p ≤ i → nb s[i] = true := by
  induction n generalizing p with
  | zero =>
    obtain rfl : p = s.size := by omega
    simp only [spanN, true_iff]
    intro i h h'; omega
  | succ n ih =>
    have hlt : p < s.size := by omega
    unfold spanN
    rw [dif_pos hlt]
    cases hb : nb s[p]
    · simp only [Bool.false_eq_true, if_false]
      constructor
      · intro h; omega
      · intro h; have := h p hlt (Nat.le_refl _); rw [hb] at this; cases this
    · simp only [if_true]
      rw [ih (p + 1) (by omega) (by omega)]
      constructor
      · intro h i hi hpi
        by_cases e : i = p
        · subst e; exact hb
        · exact h i hi (by omega)
      · intro h i hi hpi; exact h i hi (by omega)
theorem nameB_iff (s : ByteArray) : nameB s = true ↔ 1 ≤ s.size ∧ s.size ≤ 8 ∧ ∀ i (h : i < s.size), nb s[i] = true := by
  unfold nameB szOk nend
  rw [Bool.and_eq_true, decide_eq_true_iff, spanN_all s _ 0 rfl (Nat.zero_le _)]
  simp
  constructor
  · rintro ⟨h1, h2, h3⟩; exact ⟨h2, h3, h1⟩
  · rintro ⟨h1, h2, h3⟩; exact ⟨h3, h1, h2⟩
theorem nameB_false (s : ByteArray) (h : ¬ (1 ≤ s.size ∧ s.size ≤ 8 ∧ ∀ i (h : i < s.size), nb s[i] = true)) : nameB s = false := by
  rw [← nameB_iff] at h; simpa using h
theorem nameB_empty : nameB ⟨#[]⟩ = false := nameB_false _ (fun h => absurd h.1 (by decide))
theorem nameB_snoc (s t : ByteArray) (hs : nameB s = true) (ht : t.size = 1) (hb : ∀ i (h : i < t.size), nb t[i] = true) : nameB (s ++ t) = decide (s.size < 8) := by
  rw [nameB_iff] at hs
  obtain ⟨h1, h2, h3⟩ := hs
  by_cases h : s.size < 8
  · rw [decide_eq_true h, nameB_iff]
    refine ⟨by simp; omega, by simp; omega, fun i hi => ?_⟩
    simp at hi
    by_cases e : i < s.size
    · rw [ByteArray.getElem_append_left e]; exact h3 i e
    · rw [ByteArray.getElem_append_right (by omega)]; exact hb _ (by omega)
  · rw [decide_eq_false h]
    exact nameB_false _ (by simp; omega)
theorem nameB_part (s : ByteArray) (i j : Nat) (hs : nameB s = true) (h : i < j) (hj : j ≤ s.size) : nameB (s.extract i j) = true := by
  rw [nameB_iff] at hs ⊢
  obtain ⟨h1, h2, h3⟩ := hs
  refine ⟨by simp; omega, by simp; omega, fun k hk => ?_⟩
  rw [ByteArray.getElem_extract hk]
  exact h3 _ _

end Go.Proofs.YthabmjadfomnkaaDoor
