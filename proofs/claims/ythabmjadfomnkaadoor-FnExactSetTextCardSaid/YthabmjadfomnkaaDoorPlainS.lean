/- Plain laws: texts of sets. No program in sight. -/
import Derived.Test.YthabmjadfomnkaaDoorPlainL
namespace Go.Proofs.YthabmjadfomnkaaDoor

def dgB (c : UInt8) : Bool := decide (48 ≤ c.toNat) && decide (c.toNat ≤ 57)
def dgV (c : UInt8) : Int := (c.toNat : Int) - 48
/-- The number of a word. -/
def numW : List UInt8 → Option Int
  | [c] => if c = 42 then some 0 else if dgB c && decide (c ≠ 48) then some (dgV c) else none
  | [c, d] => if dgB c && decide (c ≠ 48) && dgB d then some (10 * dgV c + dgV d) else none
  | _ => none
/-- A number at the beginning of a text, and what follows. -/
def numP : List UInt8 → Option (Int × List UInt8)
  | [] => none
  | c :: r => if c = 42 then some (0, r) else if dgB c && decide (c ≠ 48) then (match r with
      | [] => some (dgV c, [])
      | d :: r' => if dgB d then some (10 * dgV c + dgV d, r') else some (dgV c, d :: r')) else none
theorem numP_cons (c : UInt8) (r : List UInt8) : numP (c :: r) = if c = 42 then some (0, r) else if dgB c && decide (c ≠ 48) then (match r with
      | [] => some (dgV c, [])
      | d :: r' => if dgB d then some (10 * dgV c + dgV d, r') else some (dgV c, d :: r')) else none := rfl
theorem numW_one (c : UInt8) : numW [c] = if c = 42 then some 0 else if dgB c && decide (c ≠ 48) then some (dgV c) else none := rfl
theorem numW_two (c d : UInt8) : numW [c, d] = if dgB c && decide (c ≠ 48) && dgB d then some (10 * dgV c + dgV d) else none := rfl
/-- A text that does not begin with a digit. -/
def noDg (l : List UInt8) : Prop := ∀ c r, l = c :: r → dgB c = false
theorem dg42 : dgB 42 = false := by decide
theorem numP_word {l r : List UInt8} {v : Int} (h : numP l = some (v, r)) : ∃ w, l = w ++ r ∧ numW w = some v := by
  cases l with
  | nil => simp [numP] at h
  | cons c l =>
    rw [numP_cons] at h
    split at h
    · rename_i hc
      simp only [Option.some.injEq, Prod.mk.injEq] at h
      obtain ⟨rfl, rfl⟩ := h
      exact ⟨[c], rfl, by rw [numW_one, if_pos hc]⟩
    · rename_i hc
      split at h
      · rename_i hd
        cases l with
        | nil =>
          simp only [Option.some.injEq, Prod.mk.injEq] at h
          obtain ⟨rfl, rfl⟩ := h
          exact ⟨[c], rfl, by rw [numW_one, if_neg hc, if_pos hd]⟩
        | cons d l =>
          simp only at h
          split at h
          · rename_i hdd
            simp only [Option.some.injEq, Prod.mk.injEq] at h
            obtain ⟨rfl, rfl⟩ := h
            exact ⟨[c, d], rfl, by rw [numW_two, hd, hdd]; rfl⟩
          · simp only [Option.some.injEq, Prod.mk.injEq] at h
            obtain ⟨rfl, rfl⟩ := h
            exact ⟨[c], rfl, by rw [numW_one, if_neg hc, if_pos hd]⟩
      · cases h
theorem numW_P {w r : List UInt8} {v : Int} (h : numW w = some v) (hr : noDg r) : numP (w ++ r) = some (v, r) := by
  match w, h with
  | [], h => simp [numW] at h
  | [c], h =>
    rw [numW_one] at h
    simp only [List.singleton_append]
    rw [numP_cons]
    split at h
    · rename_i hc; simp only [Option.some.injEq] at h; subst h; rw [if_pos hc]
    · rename_i hc
      split at h
      · rename_i hd
        simp only [Option.some.injEq] at h; subst h
        rw [if_neg hc, if_pos hd]
        cases r with
        | nil => rfl
        | cons d r' => simp only [hr d r' rfl, Bool.false_eq_true, if_false]
      · cases h
  | [c, d], h =>
    rw [numW_two] at h
    split at h
    · rename_i hd
      simp only [Option.some.injEq] at h; subst h
      simp only [Bool.and_eq_true] at hd
      have hc : ¬ c = 42 := by rintro rfl; rw [dg42] at hd; simp at hd
      simp only [List.cons_append, List.nil_append]
      rw [numP_cons]
      rw [if_neg hc, if_pos (by simp only [Bool.and_eq_true]; exact hd.1)]
      exact if_pos hd.2
    · cases h
  | c :: d :: e :: w, h => simp [numW] at h
theorem numW_bytes {w : List UInt8} {v : Int} (h : numW w = some v) : w ≠ [] ∧ ∀ x ∈ w, x = 42 ∨ dgB x = true := by
  match w, h with
  | [], h => simp [numW] at h
  | [c], h =>
    refine ⟨by simp, fun x hx => ?_⟩
    simp only [List.mem_singleton] at hx; subst hx
    rw [numW_one] at h
    split at h
    · exact .inl ‹_›
    · split at h
      · rename_i hd; simp only [Bool.and_eq_true] at hd; exact .inr hd.1
      · cases h
  | [c, d], h =>
    refine ⟨by simp, fun x hx => ?_⟩
    rw [numW_two] at h
    split at h
    · rename_i hd
      simp only [Bool.and_eq_true] at hd
      simp only [List.mem_cons, List.not_mem_nil, or_false] at hx
      rcases hx with rfl | rfl
      · exact .inr hd.1.1
      · exact .inr hd.2
    · cases h
  | c :: d :: e :: w, h => simp [numW] at h
theorem numW_ne {w : List UInt8} {v : Int} (h : numW w = some v) (c : UInt8) (h1 : c ≠ 42) (h2 : dgB c = false) : ∀ x ∈ w, x ≠ c := by
  rintro x hx rfl
  rcases (numW_bytes h).2 x hx with e | e
  · exact h1 e
  · rw [h2] at e; cases e
theorem dgV_range {c : UInt8} (h : dgB c = true) : 0 ≤ dgV c ∧ dgV c ≤ 9 := by
  simp only [dgB, Bool.and_eq_true, decide_eq_true_iff] at h
  unfold dgV; omega
theorem numW_range {w : List UInt8} {v : Int} (h : numW w = some v) : 0 ≤ v ∧ v ≤ 99 := by
  match w, h with
  | [], h => simp [numW] at h
  | [c], h =>
    rw [numW_one] at h
    split at h
    · simp only [Option.some.injEq] at h; omega
    · split at h
      · rename_i hd
        simp only [Bool.and_eq_true] at hd
        simp only [Option.some.injEq] at h
        have := dgV_range hd.1; omega
      · cases h
  | [c, d], h =>
    rw [numW_two] at h
    split at h
    · rename_i hd
      simp only [Bool.and_eq_true] at hd
      simp only [Option.some.injEq] at h
      have := dgV_range hd.1.1
      have := dgV_range hd.2; omega
    · cases h
  | c :: d :: e :: w, h => simp [numW] at h

abbrev Sp := Int × Int
/-- A span at the beginning of a text, and what follows. -/
def spanP (l : List UInt8) : Option (Sp × List UInt8) :=
  match numP l with
  | none => none
  | some (a, r) => match r with
    | [] => some ((a, a), [])
    | c :: r' => if c = 58 then (match numP r' with | none => none | some (b, q) => some ((a, b), q)) else some ((a, a), c :: r')
/-- The span of a word. -/
def spanW (l : List UInt8) : Option Sp :=
  match cutL 58 l with
  | [x] => match numW x with | none => none | some a => some (a, a)
  | [x, y] => match numW x with | none => none | some a => match numW y with | none => none | some b => some (a, b)
  | _ => none
/-- At most n spans, with commas. -/
def setP : Nat → List UInt8 → Option (List Sp)
  | 0, _ => none
  | n + 1, l => match spanP l with
    | none => none
    | some (x, r) => match r with
      | [] => some [x]
      | c :: r' => if c = 44 then (match setP n r' with | none => none | some xs => some (x :: xs)) else none
/-- The spans of words. -/
def spansW : List (List UInt8) → Option (List Sp)
  | [] => some []
  | p :: r => match spanW p with
    | none => none
    | some x => match spansW r with | none => none | some xs => some (x :: xs)
theorem spansW_length {l : List (List UInt8)} {xs : List Sp} (h : spansW l = some xs) : xs.length = l.length := by
  induction l generalizing xs with
  | nil => simp [spansW] at h; subst h; rfl
  | cons p r ih =>
    unfold spansW at h
    split at h
    · cases h
    · split at h
      · cases h
      · rename_i ys hy
        simp only [Option.some.injEq] at h
        subst h
        simp [ih hy]
/-- A text is cut at its first byte c, or has none. -/
theorem cut_first (c : UInt8) (l : List UInt8) : ((∀ x ∈ l, x ≠ c) ∧ cutL c l = [l]) ∨ ∃ p r, l = p ++ c :: r ∧ (∀ x ∈ p, x ≠ c) ∧ cutL c l = p :: cutL c r := by
  induction l with
  | nil => exact .inl ⟨by simp, rfl⟩
  | cons y l ih =>
    by_cases e : y = c
    · subst e
      exact .inr ⟨[], l, rfl, by simp, by simp [cutL]⟩
    · rcases ih with ⟨h1, h2⟩ | ⟨p, r, rfl, h1, h2⟩
      · left
        refine ⟨?_, ?_⟩
        · intro x hx
          rcases List.mem_cons.1 hx with rfl | hx
          · exact e
          · exact h1 x hx
        · rw [cutL, if_neg e, h2]; rfl
      · right
        refine ⟨y :: p, r, rfl, ?_, ?_⟩
        · intro x hx
          rcases List.mem_cons.1 hx with rfl | hx
          · exact e
          · exact h1 x hx
        · rw [cutL, if_neg e, h2]; rfl
theorem cutL_one' {c : UInt8} {l x : List UInt8} (h : cutL c l = [x]) : l = x := by
  rcases cut_first c l with ⟨_, h2⟩ | ⟨p, r, rfl, _, h2⟩
  · rw [h2] at h; simpa using h
  · rw [h2] at h; simp only [List.cons.injEq] at h; exact absurd h.2 (cutL_ne c r)
theorem cutL_two' {c : UInt8} {l x y : List UInt8} (h : cutL c l = [x, y]) : l = x ++ c :: y := by
  rcases cut_first c l with ⟨_, h2⟩ | ⟨p, r, rfl, _, h2⟩
  · rw [h2] at h; simp at h
  · rw [h2] at h
    simp only [List.cons.injEq] at h
    obtain ⟨rfl, h⟩ := h
    rw [cutL_one' h]
/-- What a span's word says, the cursor reads. -/
theorem spanW_P {p r : List UInt8} {x : Sp} (h : spanW p = some x) (hr : r = [] ∨ ∃ r', r = 44 :: r') : spanP (p ++ r) = some (x, r) := by
  have hnd : noDg r := by
    intro c r' e
    rcases hr with rfl | ⟨r'', rfl⟩
    · cases e
    · simp only [List.cons.injEq] at e; rw [← e.1]; decide
  have hne : ∀ c r', r = c :: r' → ¬ c = 58 := by
    intro c r' e
    rcases hr with rfl | ⟨r'', rfl⟩
    · cases e
    · simp only [List.cons.injEq] at e; rw [← e.1]; decide
  unfold spanW at h
  split at h
  · rename_i w hc
    have hp := cutL_one' hc
    subst hp
    split at h
    · cases h
    · rename_i a ha
      simp only [Option.some.injEq] at h; subst h
      unfold spanP
      rw [numW_P ha hnd]
      cases r with
      | nil => rfl
      | cons c r' => simp only [if_neg (hne c r' rfl)]
  · rename_i u v hc
    have hp := cutL_two' hc
    subst hp
    split at h
    · cases h
    · rename_i a ha
      split at h
      · cases h
      · rename_i b hb
        simp only [Option.some.injEq] at h; subst h
        unfold spanP
        rw [List.append_assoc, List.cons_append, numW_P ha (by intro c r' e; simp only [List.cons.injEq] at e; rw [← e.1]; decide)]
        simp only [if_true]
        rw [numW_P hb hnd]
  · cases h
/-- What the cursor reads, up to a comma or the end, is a span's word. -/
theorem spanP_W {l r : List UInt8} {x : Sp} (h : spanP l = some (x, r)) : ∃ p, l = p ++ r ∧ spanW p = some x ∧ ∀ y ∈ p, y ≠ 44 := by
  unfold spanP at h
  split at h
  · cases h
  · rename_i a q hq
    obtain ⟨w, rfl, hw⟩ := numP_word hq
    have h44 := numW_ne hw 44 (by decide) (by decide)
    have h58 := numW_ne hw 58 (by decide) (by decide)
    have one : spanW w = some (a, a) := by unfold spanW; rw [cutL_none 58 w h58]; simp [hw]
    cases q with
    | nil =>
      simp only [Option.some.injEq, Prod.mk.injEq] at h
      obtain ⟨rfl, rfl⟩ := h
      exact ⟨w, rfl, one, h44⟩
    | cons c q =>
      simp only at h
      split at h
      · rename_i hc
        subst hc
        split at h
        · cases h
        · rename_i b r' hb
          simp only [Option.some.injEq, Prod.mk.injEq] at h
          obtain ⟨rfl, rfl⟩ := h
          obtain ⟨u, rfl, hu⟩ := numP_word hb
          have k44 := numW_ne hu 44 (by decide) (by decide)
          have k58 := numW_ne hu 58 (by decide) (by decide)
          refine ⟨w ++ 58 :: u, by simp, ?_, ?_⟩
          · unfold spanW
            rw [cutL_app, cutL_none 58 w h58, cutL_none 58 u k58]
            simp [hw, hu]
          · intro y hy
            rw [List.mem_append, List.mem_cons] at hy
            rcases hy with hy | rfl | hy
            · exact h44 y hy
            · decide
            · exact k44 y hy
      · simp only [Option.some.injEq, Prod.mk.injEq] at h
        obtain ⟨rfl, rfl⟩ := h
        exact ⟨w, rfl, one, h44⟩
/-- The cursor's reading of a set is the words' reading. -/
theorem setP_eq (n : Nat) : ∀ l, setP n l = match spansW (cutL 44 l) with | none => none | some xs => if xs.length ≤ n then some xs else none := by
  induction n with
  | zero =>
    intro l
    unfold setP
    cases hs : spansW (cutL 44 l) with
    | none => rfl
    | some xs =>
      have := spansW_length hs
      have hne := cutL_ne 44 l
      have : xs.length ≠ 0 := by rw [this]; simpa using hne
      simp only
      rw [if_neg (by omega)]
  | succ n ih =>
    intro l
    unfold setP
    rcases cut_first 44 l with ⟨hno, hc⟩ | ⟨p, r, rfl, hno, hc⟩
    · rw [hc]
      simp only [spansW]
      cases hw : spanW l with
      | some x =>
        have := spanW_P (r := []) hw (.inl rfl)
        rw [List.append_nil] at this
        rw [this]; simp
      | none =>
        cases hp : spanP l with
        | none => rfl
        | some xr =>
          obtain ⟨x, r⟩ := xr
          obtain ⟨p, rfl, hpw, _⟩ := spanP_W hp
          cases r with
          | nil => rw [List.append_nil] at hw; rw [hw] at hpw; cases hpw
          | cons c r =>
            simp only
            rw [if_neg (hno c (by simp))]
    · rw [hc]
      simp only [spansW]
      cases hw : spanW p with
      | some x =>
        rw [spanW_P (r := 44 :: r) hw (.inr ⟨r, rfl⟩)]
        simp only [if_true]
        rw [ih r]
        cases hs : spansW (cutL 44 r) with
        | none => rfl
        | some xs =>
          simp only [List.length_cons]
          by_cases hl : xs.length ≤ n
          · rw [if_pos hl, if_pos (by omega)]
          · rw [if_neg hl, if_neg (by omega)]
      | none =>
        cases hp : spanP (p ++ 44 :: r) with
        | none => rfl
        | some xr =>
          obtain ⟨x, q⟩ := xr
          obtain ⟨p', hpp, hpw, hno'⟩ := spanP_W hp
          have first : ∀ (a b c d : List UInt8), (∀ x ∈ a, x ≠ (44 : UInt8)) → (∀ x ∈ c, x ≠ (44 : UInt8)) → a ++ 44 :: b = c ++ d → (∃ d', d = 44 :: d') → a = c := by
            intro a b c d ha hc' e hd
            obtain ⟨d', rfl⟩ := hd
            induction a generalizing c with
            | nil =>
              cases c with
              | nil => rfl
              | cons y c => simp only [List.nil_append, List.cons_append, List.cons.injEq] at e; exact absurd e.1.symm (hc' y (by simp))
            | cons z a iha =>
              cases c with
              | nil => simp only [List.nil_append, List.cons_append, List.cons.injEq] at e; exact absurd e.1 (ha z (by simp))
              | cons y c =>
                simp only [List.cons_append, List.cons.injEq] at e
                rw [e.1, iha c (fun x hx => ha x (by simp [hx])) (fun x hx => hc' x (by simp [hx])) e.2]
          cases q with
          | nil =>
            exfalso
            have : (44 : UInt8) ∈ p' := by rw [List.append_nil] at hpp; rw [← hpp]; simp
            exact hno' 44 this rfl
          | cons c q =>
            simp only
            by_cases hcc : c = 44
            · subst hcc
              have := first p r p' (44 :: q) hno hno' hpp ⟨q, rfl⟩
              rw [this] at hw; rw [hw] at hpw; cases hpw
            · rw [if_neg hcc]
/-- The set of a text. -/
def setT (l : List UInt8) : Option (List Sp) := setP 6 l
/-- What a span may say. -/
def okSp (x : Sp) : Bool := decide (0 ≤ x.1) && decide (x.1 ≤ 99) && (decide (0 ≤ x.2) && decide (x.2 ≤ 99))
def setV (l : List Sp) : Bool := l.all okSp && (decide (1 ≤ l.length) && decide (l.length ≤ 6))
theorem spanW_ok {l : List UInt8} {x : Sp} (h : spanW l = some x) : okSp x = true := by
  unfold spanW at h
  split at h
  · split at h
    · cases h
    · rename_i a ha
      simp only [Option.some.injEq] at h; subst h
      have := numW_range ha
      simp [okSp]; omega
  · split at h
    · cases h
    · rename_i a ha
      split at h
      · cases h
      · rename_i b hb
        simp only [Option.some.injEq] at h; subst h
        have := numW_range ha
        have := numW_range hb
        simp [okSp]; omega
  · cases h
theorem spansW_ok {l : List (List UInt8)} {xs : List Sp} (h : spansW l = some xs) : xs.all okSp = true := by
  induction l generalizing xs with
  | nil => simp [spansW] at h; subst h; rfl
  | cons p r ih =>
    unfold spansW at h
    split at h
    · cases h
    · rename_i x hx
      split at h
      · cases h
      · rename_i ys hy
        simp only [Option.some.injEq] at h
        subst h
        rw [List.all_cons, spanW_ok hx, ih hy]; rfl

end Go.Proofs.YthabmjadfomnkaaDoor
