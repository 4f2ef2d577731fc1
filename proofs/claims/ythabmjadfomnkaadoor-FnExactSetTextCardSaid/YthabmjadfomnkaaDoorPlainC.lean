/- Plain laws: texts cut at a byte; domains. No walk in here. -/
import Derived.Test.YthabmjadfomnkaaDoorCur
import Derived.Test.YthabmjadfomnkaaDoorPlainN
namespace Go.Proofs.YthabmjadfomnkaaDoor

/-- The parts of a text between the bytes c (n rounds to come; the part began at f; the next byte is i). -/
def cutN (s : ByteArray) (c : UInt8) : Nat → Nat → Nat → List ByteArray
  | 0, f, _ => [s.extract f s.size]
  | n + 1, f, i => if atB s i c then s.extract f i :: cutN s c n (i + 1) (i + 1) else cutN s c n f (i + 1)
def cut (s : ByteArray) (c : UInt8) (f i : Nat) : List ByteArray := cutN s c (s.size - i) f i

theorem atB_lt {s : ByteArray} {i : Nat} {c : UInt8} (h : atB s i c = true) : i < s.size := by
  unfold atB at h
  split at h
  · assumption
  · cases h
theorem atB_iff (s : ByteArray) (i : Nat) (c : UInt8) (h : i < s.size) : atB s i c = decide (s[i] = c) := by simp [atB, h]
theorem cut_end (s : ByteArray) (c : UInt8) (f i : Nat) (h : s.size ≤ i) : cut s c f i = [s.extract f s.size] := by
  unfold cut
  rw [show s.size - i = 0 by omega]; rfl
theorem cut_hit (s : ByteArray) (c : UInt8) (f i : Nat) (h : atB s i c = true) : cut s c f i = s.extract f i :: cut s c (i + 1) (i + 1) := by
  have := atB_lt h
  unfold cut
  rw [show s.size - i = (s.size - (i + 1)) + 1 by omega]
  simp [cutN, h]
theorem cut_miss (s : ByteArray) (c : UInt8) (f i : Nat) (hi : i < s.size) (h : atB s i c = false) : cut s c f i = cut s c f (i + 1) := by
  unfold cut
  rw [show s.size - i = (s.size - (i + 1)) + 1 by omega]
  simp [cutN, h]
theorem cutN_len (s : ByteArray) (c : UInt8) (n f i : Nat) : 1 ≤ (cutN s c n f i).length ∧ (cutN s c n f i).length ≤ n + 1 := by
  induction n generalizing f i with
  | zero => simp [cutN]
  | succ n ih =>
    unfold cutN
    split
    · have := ih (i + 1) (i + 1); simp only [List.length_cons]; omega
    · have := ih f (i + 1); omega
theorem cut_len (s : ByteArray) (c : UInt8) (f i : Nat) : 1 ≤ (cut s c f i).length ∧ (cut s c f i).length ≤ s.size - i + 1 := cutN_len s c _ f i
theorem cut_skip (s : ByteArray) (c : UInt8) (f i j : Nat) (hij : i ≤ j) (hj : j ≤ s.size) (h : ∀ k, i ≤ k → k < j → atB s k c = false) : cut s c f i = cut s c f j := by
  induction j with
  | zero => rw [show i = 0 by omega]
  | succ j ih =>
    by_cases e : i = j + 1
    · rw [e]
    · rw [ih (by omega) (by omega) (fun k h1 h2 => h k h1 (by omega)), cut_miss s c f j (by omega) (h j (by omega) (by omega))]
theorem cutN_sizes (s : ByteArray) (c : UInt8) (n f i : Nat) : ∀ x ∈ cutN s c n f i, x.size ≤ s.size := by
  induction n generalizing f i with
  | zero => intro x hx; simp [cutN] at hx; subst hx; simp
  | succ n ih =>
    unfold cutN
    split
    · intro x hx
      simp only [List.mem_cons] at hx
      rcases hx with rfl | hx
      · simp; omega
      · exact ih _ _ x hx
    · exact ih _ _
theorem cut_sizes (s : ByteArray) (c : UInt8) (f i : Nat) : ∀ x ∈ cut s c f i, x.size ≤ s.size := cutN_sizes s c _ f i

/-- The bytes up to nend are bytes of a name, and what follows is none. -/
theorem spanN_in (s : ByteArray) (n p : Nat) : ∀ k (h : k < s.size), p ≤ k → k < spanN s n p → nb s[k] = true := by
  induction n generalizing p with
  | zero => intro k h h1 h2; simp only [spanN] at h2; omega
  | succ n ih =>
    intro k h h1 h2
    unfold spanN at h2
    split at h2
    · rename_i hp
      split at h2
      · rename_i hb
        by_cases e : k = p
        · subst e; exact hb
        · exact ih (p + 1) k h (by omega) h2
      · omega
    · omega
theorem nend_in (s : ByteArray) (p k : Nat) (h : k < s.size) (h1 : p ≤ k) (h2 : k < nend s p) : nb s[k] = true := spanN_in s _ p k h h1 h2
theorem spanN_out (s : ByteArray) (n p : Nat) (hn : s.size ≤ p + n) : ∀ h : spanN s n p < s.size, nb (s[spanN s n p]'h) = false := by
  induction n generalizing p with
  | zero => intro h; simp only [spanN] at h; omega
  | succ n ih =>
    intro h
    by_cases hp : p < s.size
    · cases hb : nb s[p]
      · have e : spanN s (n + 1) p = p := by simp [spanN, hp, hb]
        simp only [e]; exact hb
      · have e : spanN s (n + 1) p = spanN s n (p + 1) := by simp [spanN, hp, hb]
        simp only [e] at h ⊢
        exact ih (p + 1) (by omega) h
    · have e : spanN s (n + 1) p = p := by simp [spanN, hp]
      rw [e] at h; omega
theorem nend_out (s : ByteArray) (p : Nat) (h : nend s p < s.size) : nb (s[nend s p]'h) = false := spanN_out s _ p (by omega) h
theorem szOk_shift (p q : Nat) : szOk p q = szOk 0 (q - p) := by simp [szOk]
theorem nameB_span (s : ByteArray) (p : Nat) (hp : p ≤ s.size) : nameB (s.extract p (nend s p)) = szOk p (nend s p) := by
  have hle := nend_le s p hp
  have hsz : (s.extract p (nend s p)).size = nend s p - p := by simp; omega
  cases h : szOk p (nend s p)
  · apply nameB_false
    rintro ⟨h1, h2, _⟩
    rw [hsz] at h1 h2
    simp [szOk] at h
    omega
  · rw [nameB_iff]
    simp [szOk] at h
    refine ⟨by omega, by omega, fun i hi => ?_⟩
    rw [ByteArray.getElem_extract hi]
    exact nend_in s p _ _ (by omega) (by omega)
theorem nameB_bad (s : ByteArray) (p q e : Nat) (h1 : p ≤ e) (h2 : e < q) (hq : q ≤ s.size) (hb : nb (s[e]'(by omega)) = false) : nameB (s.extract p q) = false := by
  apply nameB_false
  rintro ⟨_, _, h⟩
  have := h (e - p) (by simp; omega)
  rw [ByteArray.getElem_extract] at this
  simp only [show p + (e - p) = e by omega] at this
  rw [hb] at this; cases this
/-- A byte that is no byte of a name does not stand in a span. -/
theorem nend_notAt (s : ByteArray) (c : UInt8) (hc : nb c = false) (p k : Nat) (hp : p ≤ s.size) (h1 : p ≤ k) (h2 : k < nend s p) : atB s k c = false := by
  have hle := nend_le s p hp
  have hk : k < s.size := by omega
  rw [atB_iff s k c hk, decide_eq_false_iff_not]
  intro e
  have := nend_in s p k hk h1 h2
  rw [e, hc] at this; cases this
/-- Behind a byte that is none of a name, the first part is no name. -/
theorem cut_head_bad' (s : ByteArray) (c : UInt8) (f e n : Nat) (hf : f ≤ e) (hlt : e < s.size) (hb : nb s[e] = false) : ∀ i, n = s.size - i → e < i → i ≤ s.size → ∃ x l, cut s c f i = x :: l ∧ nameB x = false := by
  induction n with
  | zero =>
    intro i hn he hi
    rw [cut_end s c f i (by omega)]
    exact ⟨_, _, rfl, nameB_bad s f s.size e hf (by omega) (Nat.le_refl _) hb⟩
  | succ n ih =>
    intro i hn he hi
    cases h : atB s i c
    · rw [cut_miss s c f i (by omega) h]
      exact ih (i + 1) (by omega) (by omega) (by omega)
    · rw [cut_hit s c f i h]
      exact ⟨_, _, rfl, nameB_bad s f i e hf he hi hb⟩
theorem cut_head_bad (s : ByteArray) (c : UInt8) (f e i : Nat) (hf : f ≤ e) (he : e < i) (hi : i ≤ s.size) (hb : nb (s[e]'(by omega)) = false) : ∃ x l, cut s c f i = x :: l ∧ nameB x = false :=
  cut_head_bad' s c f e _ hf (by omega) hb i rfl he hi

/-- Where names with dots between them end (n further names at the most). -/
def domTo (s : ByteArray) : Nat → Nat → Option Nat
  | 0, q => some q
  | n + 1, q => if atB s q 46 then (if szOk (q + 1) (nend s (q + 1)) then domTo s n (nend s (q + 1)) else none) else some q
def domP (s : ByteArray) (n p : Nat) : Option Nat := if szOk p (nend s p) then domTo s n (nend s p) else none
/-- A domain, as the program reads it. -/
def domB (s : ByteArray) : Bool := match domP s 2 0 with | none => false | some q => decide (q ≤ 20) && decide (q = s.size)
/-- A domain, as the reference reads it. -/
def domS (s : ByteArray) : Bool := (cut s 46 0 0).all nameB && decide ((cut s 46 0 0).length ≤ 3) && decide (s.size ≤ 20)

def endsB (s : ByteArray) (r : Option Nat) : Bool := match r with | none => false | some q => decide (q = s.size)
theorem dom_cut (s : ByteArray) (n p : Nat) (hp : p ≤ s.size) : ((cut s 46 p p).all nameB && decide ((cut s 46 p p).length ≤ n + 1)) = endsB s (domP s n p) := by
  have hle := nend_le s p hp
  have hsk : cut s 46 p p = cut s 46 p (nend s p) := cut_skip s 46 p p (nend s p) hle.1 hle.2 (fun k h1 h2 => nend_notAt s 46 (by decide) p k hp h1 h2)
  have hsp := nameB_span s p hp
  unfold domP
  rw [hsk]
  by_cases hend : nend s p = s.size
  · have hat : atB s s.size 46 = false := by simp [atB]
    rw [hend] at hsp ⊢
    rw [cut_end s 46 p s.size (Nat.le_refl _)]
    cases hz : szOk p s.size
    · rw [hz] at hsp; simp [hsp, endsB]
    · rw [hz] at hsp
      cases n <;> simp [hsp, domTo, hat, endsB]
  · have hlt : nend s p < s.size := by omega
    have hout := nend_out s p hlt
    cases hat : atB s (nend s p) 46
    · obtain ⟨x, l, hx, hxb⟩ : ∃ x l, cut s 46 p (nend s p) = x :: l ∧ nameB x = false := by
        rw [cut_miss s 46 p (nend s p) hlt hat]
        exact cut_head_bad s 46 p (nend s p) (nend s p + 1) hle.1 (by omega) (by omega) hout
      rw [hx]
      cases hz : szOk p (nend s p)
      · simp [hxb, endsB]
      · cases n <;> simp [hxb, domTo, hat, endsB, hend]
    · rw [cut_hit s 46 p (nend s p) hat]
      cases hz : szOk p (nend s p)
      · rw [hz] at hsp; simp [hsp, endsB]
      · rw [hz] at hsp
        cases n with
        | zero =>
          have := cut_len s 46 (nend s p + 1) (nend s p + 1)
          simp only [if_true, domTo, endsB, List.length_cons]
          rw [show decide ((cut s 46 (nend s p + 1) (nend s p + 1)).length + 1 ≤ 0 + 1) = false from decide_eq_false (by omega), Bool.and_false]
          simp [hend]
        | succ n =>
          have ih := dom_cut s n (nend s p + 1) (by omega)
          simp only [if_true, domTo, hat, List.all_cons, hsp, Bool.true_and, List.length_cons]
          rw [show decide ((cut s 46 (nend s p + 1) (nend s p + 1)).length + 1 ≤ n + 1 + 1) = decide ((cut s 46 (nend s p + 1) (nend s p + 1)).length ≤ n + 1) by simp]
          rw [ih]; rfl
theorem domS_eq (s : ByteArray) : domS s = domB s := by
  have h := dom_cut s 2 0 (Nat.zero_le _)
  unfold domS domB
  rw [h]
  cases hd : domP s 2 0 with
  | none => simp [endsB]
  | some q =>
    simp only [endsB]
    by_cases e : q = s.size
    · subst e; simp
    · simp [e]

end Go.Proofs.YthabmjadfomnkaaDoor
