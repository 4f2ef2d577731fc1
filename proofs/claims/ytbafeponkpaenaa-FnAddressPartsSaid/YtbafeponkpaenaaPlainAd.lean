/- Plain laws: addresses. -/
import Derived.Test.YtbafeponkpaenaaPlainL
namespace Go.Proofs.Ytbafeponkpaenaa

/-- Where an address ends that begins at p: the place of the at sign, and the end. -/
def addrP (s : ByteArray) (p : Nat) : Option (Nat × Nat) :=
  if szOk p (nend s p) && atB s (nend s p) 64 then
    match domP s 2 (nend s p + 1) with
    | none => none
    | some q => if (q : Int) - ((nend s p + 1 : Nat) : Int) ≤ 20 then some (nend s p, q) else none
  else none
/-- An address as the program reads it. -/
def addrI (s : ByteArray) : Option (ByteArray × ByteArray) :=
  match addrP s 0 with
  | none => none
  | some (m, q) => if q = s.size then some (s.extract 0 m, s.extract (m + 1) q) else none
/-- An address as the reference reads it. -/
def addrS (s : ByteArray) : Option (ByteArray × ByteArray) :=
  match cut s 64 0 0 with
  | [u, d] => if nameB u && domB d then some (u, d) else none
  | _ => none

theorem bl_map_inj : ∀ {a b : List ByteArray}, a.map bl = b.map bl → a = b
  | [], [], _ => rfl
  | [], _ :: _, h => by simp at h
  | _ :: _, [], h => by simp at h
  | x :: a, y :: b, h => by
    simp only [List.map_cons, List.cons.injEq] at h
    rw [bl_inj h.1, bl_map_inj h.2]
theorem bl_from (s : ByteArray) (k : Nat) : bl (s.extract k s.size) = (bl s).drop k := by
  rw [bl_extract, List.take_of_length_le (by rw [bl_length]; exact Nat.le_refl _)]
theorem cut_shift (s : ByteArray) (c : UInt8) (k : Nat) (hk : k ≤ s.size) : cut (s.extract k s.size) c 0 0 = cut s c k k := by
  apply bl_map_inj
  rw [cut_list, cut_list' s c _ k k rfl (Nat.le_refl _) hk, bl_from]
  rw [show ((bl s).take k).drop k = [] from List.drop_of_length_le (by simp; omega), headTo_nil _ (cutL_ne _ _)]
theorem domB_from (s : ByteArray) (k : Nat) (hk : k ≤ s.size) : domB (s.extract k s.size) = (endsB s (domP s 2 k) && decide (s.size - k ≤ 20)) := by
  rw [← domS_eq, ← dom_cut s 2 k hk]
  unfold domS
  rw [cut_shift s 46 k hk, show (s.extract k s.size).size = s.size - k by simp]
/-- A byte of a list is the cutting one, or stands in a part. -/
theorem cutL_mem (c : UInt8) (l : List UInt8) : ∀ x ∈ l, x = c ∨ ∃ p ∈ cutL c l, x ∈ p := by
  induction l with
  | nil => intro x hx; cases hx
  | cons y r ih =>
    intro x hx
    unfold cutL
    rcases List.mem_cons.1 hx with rfl | hx
    · by_cases e : x = c
      · exact .inl e
      · rw [if_neg e]
        refine .inr ?_
        cases h : cutL c r with
        | nil => exact absurd h (cutL_ne c r)
        | cons a t => exact ⟨[x] ++ a, by simp [headTo], by simp⟩
    · rcases ih x hx with e | ⟨p, hp, hxp⟩
      · exact .inl e
      · refine .inr ?_
        split
        · exact ⟨p, by simp [hp], hxp⟩
        · cases h : cutL c r with
          | nil => exact absurd h (cutL_ne c r)
          | cons a t =>
            rw [h] at hp
            rcases List.mem_cons.1 hp with rfl | hp
            · exact ⟨[y] ++ p, by simp [headTo], by simp [hxp]⟩
            · exact ⟨p, by simp [headTo, hp], hxp⟩
theorem dom_bytes {l : List UInt8} (h : domL l = true) : ∀ x ∈ l, x = 46 ∨ nb x = true := by
  intro x hx
  unfold domL at h
  simp only [Bool.and_eq_true] at h
  rcases cutL_mem 46 l x hx with e | ⟨p, hp, hxp⟩
  · exact .inl e
  · exact .inr (((nameL_iff p).1 (List.all_eq_true.1 h.1.1 p hp)).2.2 x hxp)
theorem dom_cut_at {l : List UInt8} (h : domL l = true) : cutL 64 l = [l] :=
  cutL_none 64 l fun x hx => by
    rcases dom_bytes h x hx with rfl | hn
    · decide
    · exact nb_ne hn (by decide)
theorem cutL_one {c : UInt8} {l x : List UInt8} (h : cutL c l = [x]) : x = l := by
  induction l generalizing x with
  | nil => simp [cutL] at h; exact h
  | cons y r ih =>
    unfold cutL at h
    split at h
    · simp at h; exact absurd h.2 (cutL_ne c r)
    · cases hc : cutL c r with
      | nil => exact absurd hc (cutL_ne c r)
      | cons a t =>
        rw [hc] at h
        simp [headTo] at h
        obtain ⟨rfl, rfl⟩ := h
        rw [ih hc]
theorem cut_one {s : ByteArray} {c : UInt8} {k : Nat} {x : ByteArray} (hk : k ≤ s.size) (h : cut s c k k = [x]) : x = s.extract k s.size := by
  rw [← cut_shift s c k hk] at h
  have := congrArg (List.map bl) h
  rw [cut_list] at this
  exact bl_inj (cutL_one this)
theorem addrS_bad {s : ByteArray} {x : ByteArray} {l : List ByteArray} (h : cut s 64 0 0 = x :: l) (hb : nameB x = false) : addrS s = none := by
  unfold addrS
  rw [h]
  split
  · rename_i u d hc
    simp only [List.cons.injEq] at hc
    rw [← hc.1, hb]; rfl
  · rfl
theorem addrS_dom {s : ByteArray} {e : Nat} (he : e < s.size) (h : cut s 64 0 0 = s.extract 0 e :: cut s 64 (e + 1) (e + 1)) (hn : nameB (s.extract 0 e) = true) :
    addrS s = if domB (s.extract (e + 1) s.size) then some (s.extract 0 e, s.extract (e + 1) s.size) else none := by
  unfold addrS
  rw [h]
  cases hdv : domB (s.extract (e + 1) s.size)
  · split
    · rename_i u d hc
      simp only [List.cons.injEq] at hc
      rw [cut_one (by omega) hc.2, hdv]; simp
    · rfl
  · have h1 : cut s 64 (e + 1) (e + 1) = [s.extract (e + 1) s.size] := by
      rw [← cut_shift s 64 (e + 1) (by omega)]
      apply bl_map_inj
      rw [cut_list, List.map_cons, List.map_nil]
      rw [domB_list] at hdv
      exact dom_cut_at hdv
    rw [h1]
    simp [hn, hdv]
theorem addr_eq (s : ByteArray) : addrI s = addrS s := by
  have hle := nend_le s 0 (Nat.zero_le _)
  have hsk : cut s 64 0 0 = cut s 64 0 (nend s 0) := cut_skip s 64 0 0 (nend s 0) hle.1 hle.2 (fun k h1 h2 => nend_notAt s 64 (by decide) 0 k (Nat.zero_le _) h1 h2)
  have hsp := nameB_span s 0 (Nat.zero_le _)
  have hout := nend_out s 0
  unfold addrI addrP
  generalize nend s 0 = e at *
  by_cases hend : e = s.size
  · subst hend
    rw [cut_end s 64 0 s.size (Nat.le_refl _)] at hsk
    have : addrS s = none := by unfold addrS; rw [hsk]
    rw [this]
    simp [atB]
  · have hlt : e < s.size := by omega
    cases hat : atB s e 64
    · rw [cut_miss s 64 0 e hlt hat] at hsk
      obtain ⟨x, l, hx, hxb⟩ := cut_head_bad s 64 0 e (e + 1) (Nat.zero_le _) (by omega) (by omega) (hout hlt)
      rw [addrS_bad (hsk.trans hx) hxb]
      simp
    · rw [cut_hit s 64 0 e hat] at hsk
      cases hz : szOk 0 e
      · rw [hz] at hsp
        rw [addrS_bad hsk hsp]
        simp
      · rw [hz] at hsp
        have hd := domB_from s (e + 1) (by omega)
        rw [addrS_dom hlt hsk hsp]
        simp only [Bool.and_self, if_true]
        cases hp : domP s 2 (e + 1) with
        | none =>
          rw [hp] at hd
          simp [endsB] at hd
          rw [hd]; simp
        | some q =>
          rw [hp] at hd
          simp only [endsB] at hd
          by_cases hq : q = s.size
          · subst hq
            by_cases h20 : s.size - (e + 1) ≤ 20
            · rw [show domB (s.extract (e + 1) s.size) = true by rw [hd]; simp; omega]
              simp only [if_true]
              rw [if_pos (by omega)]
              simp
            · rw [show domB (s.extract (e + 1) s.size) = false by rw [hd]; simp; omega]
              simp only [if_neg (show ¬ (s.size : Int) - ((e + 1 : Nat) : Int) ≤ 20 by omega)]
              simp
          · rw [show domB (s.extract (e + 1) s.size) = false by rw [hd]; simp [hq]]
            by_cases h20 : (q : Int) - ((e + 1 : Nat) : Int) ≤ 20
            · simp only [if_pos h20, if_neg hq]; simp
            · simp only [if_neg h20]; simp

end Go.Proofs.Ytbafeponkpaenaa
