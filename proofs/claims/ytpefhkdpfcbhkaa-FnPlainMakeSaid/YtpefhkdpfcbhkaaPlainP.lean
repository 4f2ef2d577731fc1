/- Plain laws: proofs of a password. No program in sight. -/
import Derived.Test.YtpefhkdpfcbhkaaPlainB
import Derived.Lib.CutLaws
import Derived.Lib.Strings
namespace Go.Proofs.Ytpefhkdpfcbhkaa

/-- The bytes of a proof. -/
def plainB (u p : List UInt8) : List UInt8 := 0 :: (u ++ 0 :: p)
/-- What the bytes of a proof say, as the program reads them. -/
def plainP (s : List UInt8) : Option (List UInt8 × List UInt8) :=
  if Lib.hasPrefix s [0] && (Lib.cut (Lib.trimPrefix s [0]) [0]).2.2 && nameL (Lib.cut (Lib.trimPrefix s [0]) [0]).1 && nameL (Lib.cut (Lib.trimPrefix s [0]) [0]).2.1 then
    some ((Lib.cut (Lib.trimPrefix s [0]) [0]).1, (Lib.cut (Lib.trimPrefix s [0]) [0]).2.1) else none
/-- .. as the reference reads them. -/
def plainS (s : List UInt8) : Option (List UInt8 × List UInt8) := match cutL 0 s with
  | [a, u, p] => if a.isEmpty && nameL u && nameL p then some (u, p) else none
  | _ => none
/-- A list is cut at its first zero, or has none. -/
theorem cut_zero (c : UInt8) (l : List UInt8) : ((∀ x ∈ l, x ≠ c) ∧ cutL c l = [l]) ∨ ∃ p r, l = p ++ c :: r ∧ (∀ x ∈ p, x ≠ c) ∧ cutL c l = p :: cutL c r := by
  induction l with
  | nil => exact .inl ⟨by simp, rfl⟩
  | cons y l ih =>
    by_cases e : y = c
    · subst e
      exact .inr ⟨[], l, rfl, by simp, by simp [cutL]⟩
    · rcases ih with ⟨h1, h2⟩ | ⟨p, r, rfl, h1, h2⟩
      · left
        refine ⟨?_, ?_⟩
        · intro x hx
          rcases List.mem_cons.1 hx with rfl | hx
          · exact e
          · exact h1 x hx
        · rw [cutL, if_neg e, h2]; rfl
      · right
        refine ⟨y :: p, r, rfl, ?_, ?_⟩
        · intro x hx
          rcases List.mem_cons.1 hx with rfl | hx
          · exact e
          · exact h1 x hx
        · rw [cutL, if_neg e, h2]; rfl
theorem index_none (l : List UInt8) (c : UInt8) (h : ∀ x ∈ l, x ≠ c) : Lib.index l [c] = -1 := by
  induction l with
  | nil => simp [Lib.index]
  | cons y l ih =>
    have := ih (fun x hx => h x (by simp [hx]))
    have hy := h y (by simp)
    simp [Lib.index, this, Ne.symm hy]
theorem index_first (p r : List UInt8) (c : UInt8) (h : ∀ x ∈ p, x ≠ c) : Lib.index (p ++ c :: r) [c] = p.length := by
  induction p with
  | nil => simp [Lib.index]
  | cons y p ih =>
    have := ih (fun x hx => h x (by simp [hx]))
    have hy := h y (by simp)
    have hne : ¬ ((p.length : Int) = -1) := by omega
    simp [Lib.index, this, Ne.symm hy, hne]
theorem lcut_none (l : List UInt8) (c : UInt8) (h : ∀ x ∈ l, x ≠ c) : Lib.cut l [c] = (l, [], false) := by
  unfold Lib.cut; rw [index_none l c h]; rfl
theorem lcut_first (p r : List UInt8) (c : UInt8) (h : ∀ x ∈ p, x ≠ c) : Lib.cut (p ++ c :: r) [c] = (p, r, true) := by
  unfold Lib.cut
  rw [index_first p r c h, if_pos (by omega)]
  simp
theorem name_no0 {l : List UInt8} (h : nameL l = true) : ∀ x ∈ l, x ≠ 0 := fun x hx => nb_ne ((nameL_iff l).1 h |>.2.2 x hx) (by decide)
theorem plainP_cons (r : List UInt8) : plainP (0 :: r) = if (Lib.cut r [0]).2.2 && nameL (Lib.cut r [0]).1 && nameL (Lib.cut r [0]).2.1 then some ((Lib.cut r [0]).1, (Lib.cut r [0]).2.1) else none := by
  simp [plainP, Lib.hasPrefix, Lib.trimPrefix]
theorem plainP_no (s : List UInt8) (h : Lib.hasPrefix s [0] = false) : plainP s = none := by simp [plainP, h]
theorem hp_cons (x : UInt8) (s : List UInt8) : Lib.hasPrefix (x :: s) [0] = decide (x = 0) := by
  unfold Lib.hasPrefix
  rw [List.isPrefixOf]
  by_cases h : x = 0
  · subst h; simp
  · have : ((0 : UInt8) == x) = false := by simpa using Ne.symm h
    rw [this, decide_eq_false h]; rfl
theorem plain_eq (s : List UInt8) : plainP s = plainS s := by
  unfold plainS
  rcases cut_zero 0 s with ⟨h1, h2⟩ | ⟨a, r, rfl, h1, h2⟩
  · rw [h2]
    refine plainP_no s ?_
    cases s with
    | nil => rfl
    | cons x s => rw [hp_cons]; exact decide_eq_false (h1 x (by simp))
  · rw [h2]
    cases a with
    | cons x a =>
      have hx := h1 x (by simp)
      rw [plainP_no _ (by rw [List.cons_append, hp_cons]; exact decide_eq_false hx)]
      cases hc : cutL 0 r with
      | nil => rfl
      | cons u l =>
        cases l with
        | nil => rfl
        | cons p l => cases l <;> rfl
    | nil =>
      rw [List.nil_append, plainP_cons]
      rcases cut_zero 0 r with ⟨k1, k2⟩ | ⟨u, p, rfl, k1, k2⟩
      · rw [k2, lcut_none r 0 k1]; rfl
      · rw [k2, lcut_first u p 0 k1]
        rcases cut_zero 0 p with ⟨m1, m2⟩ | ⟨q, t, rfl, m1, m2⟩
        · rw [m2]; rfl
        · rw [m2]
          have hn : nameL (q ++ 0 :: t) = false := by
            cases hh : nameL (q ++ 0 :: t) with
            | false => rfl
            | true => exact absurd rfl (name_no0 hh 0 (by simp))
          rw [hn]
          have hne := cutL_ne 0 t
          cases hc : cutL 0 t with
          | nil => exact absurd hc hne
          | cons a b => simp
theorem plainP_B {u p : List UInt8} (hu : nameL u = true) (hp : nameL p = true) : plainP (plainB u p) = some (u, p) := by
  unfold plainB
  rw [plainP_cons, lcut_first u p 0 (name_no0 hu), hu, hp]; rfl
theorem plainP_iff {s u p : List UInt8} (h : plainP s = some (u, p)) : s = plainB u p ∧ nameL u = true ∧ nameL p = true := by
  cases hh : Lib.hasPrefix s [0] with
  | false => rw [plainP_no s hh] at h; cases h
  | true =>
    cases s with
    | nil => simp [Lib.hasPrefix] at hh
    | cons x r =>
      obtain rfl : x = 0 := by rw [hp_cons] at hh; exact of_decide_eq_true hh
      rw [plainP_cons] at h
      rcases cut_zero 0 r with ⟨k1, k2⟩ | ⟨a, b, rfl, k1, k2⟩
      · rw [lcut_none r 0 k1] at h; simp at h
      · rw [lcut_first a b 0 k1] at h
        simp only [Bool.true_and] at h
        split at h
        · rename_i hn
          simp only [Option.some.injEq, Prod.mk.injEq] at h
          obtain ⟨rfl, rfl⟩ := h
          simp only [Bool.and_eq_true] at hn
          exact ⟨rfl, hn.1, hn.2⟩
        · cases h
theorem plainB_len (u p : List UInt8) : (plainB u p).length = u.length + p.length + 2 := by
  simp [plainB]; omega
theorem plainB_small {u p : List UInt8} (hu : nameL u = true) (hp : nameL p = true) : (plainB u p).length ≤ 18 ∧ 2 ≤ (plainB u p).length := by
  have h1 := (nameL_iff u).1 hu
  have h2 := (nameL_iff p).1 hp
  rw [plainB_len]; omega
theorem plainB_inj {u p u' p' : List UInt8} (hu : nameL u = true) (hp : nameL p = true) (hu' : nameL u' = true) (hp' : nameL p' = true) (h : plainB u p = plainB u' p') : u = u' ∧ p = p' := by
  have h1 := plainP_B hu hp
  rw [h, plainP_B hu' hp'] at h1
  simp only [Option.some.injEq, Prod.mk.injEq] at h1
  exact ⟨h1.1.symm, h1.2.symm⟩
/-- Three zeros ahead: no proof. -/
theorem plain_more (s : List UInt8) : plainP (0 :: 0 :: 0 :: s) = none := by
  rw [plainP_cons, show (0 : UInt8) :: 0 :: s = [] ++ 0 :: 0 :: s from rfl, lcut_first [] (0 :: s) 0 (by simp)]
  rfl
theorem enc_AAAA (s : List UInt8) : encL (0 :: 0 :: 0 :: s) = [65, 65, 65, 65] ++ encL s := by
  rw [encL_three]; rfl
/-- A proof with more ahead is no proof. -/
theorem dec_more {t s : List UInt8} (h : decI t = some s) (r : List UInt8) (hr : decI ([65, 65, 65, 65] ++ t) = some r) : plainP r = none := by
  obtain ⟨_, rfl⟩ := (decI_iff t s).1 h
  obtain ⟨_, h2⟩ := (decI_iff _ r).1 hr
  rw [← enc_AAAA] at h2
  rw [encL_inj h2]
  exact plain_more s

end Go.Proofs.Ytpefhkdpfcbhkaa
