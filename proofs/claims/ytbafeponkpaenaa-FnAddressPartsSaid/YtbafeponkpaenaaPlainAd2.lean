/- Plain laws: addresses as lists; paths. -/
import Derived.Test.YtbafeponkpaenaaPlainAd
import Derived.Test.YtbafeponkpaenaaPlainS
namespace Go.Proofs.Ytbafeponkpaenaa

theorem bl1 (c : UInt8) : bl ⟨#[c]⟩ = [c] := rfl
theorem bl2 : bl ⟨#[60, 62]⟩ = [60, 62] := rfl
theorem bl0 : bl ⟨#[]⟩ = [] := rfl
theorem addrS_iff (s u d : ByteArray) : addrS s = some (u, d) ↔ bl s = bl u ++ 64 :: bl d ∧ nameB u = true ∧ domB d = true := by
  have hc := cut_list s 64
  unfold addrS
  constructor
  · intro h
    split at h
    · rename_i u' d' hcut
      split at h
      · rename_i hv
        simp only [Option.some.injEq, Prod.mk.injEq] at h
        obtain ⟨rfl, rfl⟩ := h
        rw [Bool.and_eq_true] at hv
        rw [hcut] at hc
        exact ⟨cutL_two' hc.symm, hv⟩
      · cases h
    · cases h
  · rintro ⟨h, hu, hd⟩
    have hu' := hu
    have hd' := hd
    rw [nameB_list] at hu'
    rw [domB_list] at hd'
    rw [h, cutL_app, name_cut hu' 64 (by decide), dom_cut_at hd'] at hc
    have : cut s 64 0 0 = [u, d] := bl_map_inj hc
    rw [this]
    simp [hu, hd]
theorem addrS_text (u d : ByteArray) (hu : nameB u = true) (hd : domB d = true) : addrS (u ++ ⟨#[64]⟩ ++ d) = some (u, d) :=
  (addrS_iff _ u d).2 ⟨by rw [bl_append, bl_append, bl1]; simp, hu, hd⟩
theorem addrS_back {s u d : ByteArray} (h : addrS s = some (u, d)) : u ++ ⟨#[64]⟩ ++ d = s := by
  apply bl_inj
  rw [bl_append, bl_append, bl1, ((addrS_iff s u d).1 h).1]; simp
/-- Parts with no at sign. -/
theorem addrS_parts (u d : ByteArray) (hu : cutL 64 (bl u) = [bl u]) (hd : cutL 64 (bl d) = [bl d]) : (addrS (u ++ ⟨#[64]⟩ ++ d)).isSome = (nameB u && domB d) := by
  have hc := cut_list (u ++ ⟨#[64]⟩ ++ d) 64
  rw [show bl (u ++ ⟨#[64]⟩ ++ d) = bl u ++ 64 :: bl d by rw [bl_append, bl_append, bl1]; simp, cutL_app, hu, hd] at hc
  have : cut (u ++ ⟨#[64]⟩ ++ d) 64 0 0 = [u, d] := bl_map_inj hc
  unfold addrS
  rw [this]
  cases h : nameB u && domB d <;> simp [h]
theorem addrS_sizes {s u d : ByteArray} (h : addrS s = some (u, d)) : u.size ≤ 8 ∧ 1 ≤ u.size ∧ d.size ≤ 20 ∧ 1 ≤ d.size ∧ s.size = u.size + 1 + d.size := by
  obtain ⟨h1, h2, h3⟩ := (addrS_iff s u d).1 h
  have hl := congrArg List.length h1
  rw [nameB_iff] at h2
  rw [← domS_eq] at h3
  unfold domS at h3
  simp only [Bool.and_eq_true, decide_eq_true_iff] at h3
  simp only [List.length_append, List.length_cons, bl_length] at hl
  refine ⟨h2.2.1, h2.1, h3.2, ?_, by omega⟩
  apply Classical.byContradiction
  intro hn
  have hz : d.size = 0 := by omega
  have : bl d = [] := List.length_eq_zero_iff.1 (by rw [bl_length]; exact hz)
  have hc := cut_list d 46
  rw [this] at hc
  have h4 := h3.1.1
  cases hcd : cut d 46 0 0 with
  | nil => rw [hcd] at hc; simp [cutL] at hc
  | cons x l =>
    rw [hcd] at hc h4
    simp only [cutL, List.map_cons, List.cons.injEq] at hc
    have : nameB x = true := List.all_eq_true.1 h4 x (by simp)
    rw [nameB_list, hc.1] at this
    cases this

/-- t is s without its first byte and its last, an angle bracket. -/
def Inner (s t : ByteArray) : Prop := s.size = t.size + 2 ∧ (∀ p (h : p < t.size) (h' : p + 1 < s.size), s[p + 1] = t[p]) ∧ atB s (t.size + 1) 62 = true
theorem nend_shift' {s t : ByteArray} (hI : Inner s t) (n : Nat) : ∀ p, n = t.size - p → p ≤ t.size → nend s (p + 1) = nend t p + 1 := by
  obtain ⟨h1, h2, h3⟩ := hI
  induction n with
  | zero =>
    intro p hn hp
    obtain rfl : p = t.size := by omega
    rw [nend_end]
    have hlt : t.size + 1 < s.size := by omega
    refine nend_no s _ hlt ?_
    rw [atB_iff s _ _ hlt, decide_eq_true_iff] at h3
    rw [h3]; decide
  | succ n ih =>
    intro p hn hp
    have hlt : p < t.size := by omega
    have hlt' : p + 1 < s.size := by omega
    have e := h2 p hlt hlt'
    cases hb : nb t[p]
    · rw [nend_no t p hlt hb, nend_no s (p + 1) hlt' (by rw [e]; exact hb)]
    · rw [nend_yes t p hlt hb, nend_yes s (p + 1) hlt' (by rw [e]; exact hb), ih (p + 1) (by omega) (by omega)]
theorem nend_shift {s t : ByteArray} (hI : Inner s t) (p : Nat) (hp : p ≤ t.size) : nend s (p + 1) = nend t p + 1 := nend_shift' hI _ p rfl hp
theorem atB_shift {s t : ByteArray} (hI : Inner s t) (p : Nat) (c : UInt8) (hp : p ≤ t.size) (hc : c ≠ 62) : atB s (p + 1) c = atB t p c := by
  obtain ⟨h1, h2, h3⟩ := hI
  by_cases h : p < t.size
  · rw [atB_iff t p c h, atB_iff s (p + 1) c (by omega), h2 p h (by omega)]
  · obtain rfl : p = t.size := by omega
    have hlt : t.size + 1 < s.size := by omega
    rw [atB_iff s _ _ hlt, decide_eq_true_iff] at h3
    rw [atB_iff s _ _ hlt, h3]
    rw [show atB t t.size c = false by simp [atB]]
    simp; exact fun e => hc e.symm
theorem domTo_shift {s t : ByteArray} (hI : Inner s t) (k : Nat) : ∀ q, q ≤ t.size → domTo s k (q + 1) = (domTo t k q).map (· + 1) := by
  induction k with
  | zero => intro q hq; simp [domTo]
  | succ k ih =>
    intro q hq
    unfold domTo
    rw [atB_shift hI q 46 hq (by decide)]
    cases hat : atB t q 46
    · simp
    · have hlt := atB_lt hat
      have hn := nend_le t (q + 1) (by omega)
      simp only [if_true]
      rw [nend_shift hI (q + 1) (by omega), show szOk (q + 1 + 1) (nend t (q + 1) + 1) = szOk (q + 1) (nend t (q + 1)) by simp [szOk]]
      cases szOk (q + 1) (nend t (q + 1))
      · simp
      · simp only [if_true]; exact ih _ hn.2
theorem domP_shift {s t : ByteArray} (hI : Inner s t) (k p : Nat) (hp : p ≤ t.size) : domP s k (p + 1) = (domP t k p).map (· + 1) := by
  have hn := nend_le t p hp
  unfold domP
  rw [nend_shift hI p hp, show szOk (p + 1) (nend t p + 1) = szOk p (nend t p) by simp [szOk]]
  cases szOk p (nend t p)
  · simp
  · simp only [if_true]; exact domTo_shift hI k _ hn.2
theorem addrP_shift {s t : ByteArray} (hI : Inner s t) (p : Nat) (hp : p ≤ t.size) : addrP s (p + 1) = (addrP t p).map fun mq => (mq.1 + 1, mq.2 + 1) := by
  have hn := nend_le t p hp
  unfold addrP
  rw [nend_shift hI p hp, show szOk (p + 1) (nend t p + 1) = szOk p (nend t p) by simp [szOk], atB_shift hI _ 64 hn.2 (by decide)]
  cases hz : szOk p (nend t p) && atB t (nend t p) 64
  · simp
  · rw [Bool.and_eq_true] at hz
    have hlt := atB_lt hz.2
    simp only [if_true]
    rw [domP_shift hI 2 (nend t p + 1) (by omega)]
    cases hd : domP t 2 (nend t p + 1) with
    | none => simp
    | some q =>
      simp only [Option.map_some]
      by_cases h20 : (q : Int) - ((nend t p + 1 : Nat) : Int) ≤ 20
      · rw [if_pos h20, if_pos (by push_cast at h20 ⊢; omega)]; rfl
      · rw [if_neg h20, if_neg (by push_cast at h20 ⊢; omega)]; rfl
theorem addrP_le {s : ByteArray} {p m q : Nat} (hp : p ≤ s.size) (h : addrP s p = some (m, q)) : p ≤ m ∧ m < s.size ∧ q ≤ s.size ∧ m + 1 ≤ q := by
  have hn := nend_le s p hp
  have dom_le : ∀ k x y, x ≤ s.size → domTo s k x = some y → x ≤ y ∧ y ≤ s.size := by
    intro k
    induction k with
    | zero => intro x y hx h; simp only [domTo, Option.some.injEq] at h; subst h; exact ⟨Nat.le_refl _, hx⟩
    | succ k ih =>
      intro x y hx h
      unfold domTo at h
      split at h
      · rename_i hat
        have := atB_lt hat
        have hn := nend_le s (x + 1) (by omega)
        split at h
        · have := ih _ y hn.2 h; omega
        · cases h
      · simp only [Option.some.injEq] at h; subst h; exact ⟨Nat.le_refl _, hx⟩
  unfold addrP at h
  split at h
  · rename_i hv
    rw [Bool.and_eq_true] at hv
    have hlt := atB_lt hv.2
    split at h
    · cases h
    · rename_i q' hq
      split at h
      · simp only [Option.some.injEq, Prod.mk.injEq] at h
        obtain ⟨rfl, rfl⟩ := h
        unfold domP at hq
        have hn' := nend_le s (nend s p + 1) (by omega)
        split at hq
        · have := dom_le 2 _ _ hn'.2 hq; omega
        · cases hq
      · cases h
  · cases h
/-- A path as the program reads it. -/
def pathI (s : ByteArray) : Option (ByteArray × ByteArray) :=
  if s = ⟨#[60, 62]⟩ then some (⟨#[]⟩, ⟨#[]⟩) else if atB s 0 60 then (match addrP s 1 with
    | none => none
    | some (m, q) => if atB s q 62 && decide (q + 1 = s.size) then some (s.extract 1 m, s.extract (m + 1) q) else none) else none
/-- A path as the reference reads it. -/
def pathS (s : ByteArray) : Option (ByteArray × ByteArray) :=
  if s = ⟨#[60, 62]⟩ then some (⟨#[]⟩, ⟨#[]⟩) else if decide (2 ≤ s.size) && (atB s 0 60 && atB s (s.size - 1) 62) then addrS (s.extract 1 (s.size - 1)) else none
theorem inner_of (s : ByteArray) (h2 : 2 ≤ s.size) (hz : atB s (s.size - 1) 62 = true) : Inner s (s.extract 1 (s.size - 1)) := by
  have hsz : (s.extract 1 (s.size - 1)).size = s.size - 2 := by simp; omega
  refine ⟨by omega, fun p h h' => ?_, by rw [hsz, show s.size - 2 + 1 = s.size - 1 by omega]; exact hz⟩
  rw [ByteArray.getElem_extract h]
  congr 1; omega
theorem sub_extract (s : ByteArray) (i j : Nat) (hj : j ≤ s.size - 2) : (s.extract 1 (s.size - 1)).extract i j = s.extract (i + 1) (j + 1) := by
  apply bl_inj
  simp only [bl_extract, List.drop_take, List.take_take, List.drop_drop]
  rw [show 1 + i = i + 1 by omega]
  congr 1; omega
theorem path_eq (s : ByteArray) : pathI s = pathS s := by
  unfold pathI pathS
  by_cases h0 : s = ⟨#[60, 62]⟩
  · rw [if_pos h0, if_pos h0]
  rw [if_neg h0, if_neg h0]
  cases h60 : atB s 0 60
  · simp
  have hpos := atB_lt h60
  by_cases hend : 2 ≤ s.size ∧ atB s (s.size - 1) 62 = true
  · obtain ⟨h2, hz⟩ := hend
    have hI := inner_of s h2 hz
    have hsz : (s.extract 1 (s.size - 1)).size = s.size - 2 := by simp; omega
    simp only [if_true, h2, hz, decide_true, Bool.and_self]
    rw [← addr_eq]
    unfold addrI
    rw [show addrP s 1 = _ from addrP_shift hI 0 (Nat.zero_le _)]
    cases ha : addrP (s.extract 1 (s.size - 1)) 0 with
    | none => rfl
    | some mq =>
      obtain ⟨m, q⟩ := mq
      have hle := addrP_le (Nat.zero_le _) ha
      simp only [Option.map_some]
      by_cases hq : q = s.size - 2
      · rw [if_pos (by rw [show q + 1 = s.size - 1 by omega, hz]; simp; omega), if_pos (by omega)]
        rw [sub_extract s 0 m (by omega), sub_extract s (m + 1) q (by omega)]
      · rw [if_neg (by simp; intro _; omega), if_neg (by omega)]
  · have : (decide (2 ≤ s.size) && (true && atB s (s.size - 1) 62)) = false := by
      cases hz : atB s (s.size - 1) 62
      · simp
      · rw [decide_eq_false (fun h2 => hend ⟨h2, hz⟩)]; rfl
    rw [this]
    simp only [if_true, Bool.false_eq_true, if_false]
    cases ha : addrP s 1 with
    | none => rfl
    | some mq =>
      obtain ⟨m, q⟩ := mq
      have hle := addrP_le (by omega) ha
      simp only
      refine if_neg ?_
      rw [Bool.and_eq_true, decide_eq_true_iff]
      rintro ⟨hq, e⟩
      exact hend ⟨by omega, by rw [show s.size - 1 = q by omega]; exact hq⟩
theorem bl_cons {s : ByteArray} {c : UInt8} {r : List UInt8} (h : bl s = c :: r) (x : UInt8) : atB s 0 x = decide (c = x) := by
  have hl : 0 < s.size := by rw [← bl_length, h]; simp
  rw [atB_iff s 0 x hl, ← bl_get s 0 hl]
  simp [h]
theorem bl_snoc {s : ByteArray} {c : UInt8} {r : List UInt8} (h : bl s = r ++ [c]) (x : UInt8) : atB s (s.size - 1) x = decide (c = x) := by
  have hs : s.size = r.length + 1 := by rw [← bl_length, h]; simp
  have hl : s.size - 1 < s.size := by omega
  rw [atB_iff s _ x hl, ← bl_get s _ hl]
  simp [h, hs]
/-- An address begins with a byte of a name, and ends with a byte of a domain. -/
theorem addr_ends {s u d : ByteArray} (h : addrS s = some (u, d)) : (∃ c r, bl s = c :: r ∧ nb c = true) ∧ (∃ c r, bl s = r ++ [c] ∧ (c = 46 ∨ nb c = true)) := by
  obtain ⟨h1, h2, h3⟩ := (addrS_iff s u d).1 h
  have hz := addrS_sizes h
  rw [nameB_list, nameL_iff] at h2
  rw [domB_list] at h3
  constructor
  · cases hu : bl u with
    | nil => rw [hu] at h2; simp at h2
    | cons c r => exact ⟨c, r ++ 64 :: bl d, by rw [h1, hu]; rfl, h2.2.2 c (by rw [hu]; simp)⟩
  · have hne : bl d ≠ [] := by intro e; have := bl_length d; rw [e] at this; simp at this; omega
    refine ⟨(bl d).getLast hne, bl u ++ 64 :: (bl d).dropLast, ?_, dom_bytes h3 _ (List.getLast_mem hne)⟩
    rw [h1]
    conv => lhs; rw [← List.dropLast_concat_getLast hne]
    simp
theorem path_of {s u d : ByteArray} (h : addrS s = some (u, d)) : pathS (⟨#[60]⟩ ++ s ++ ⟨#[62]⟩) = some (u, d) := by
  have hz := addrS_sizes h
  have hb : bl (⟨#[60]⟩ ++ s ++ ⟨#[62]⟩) = 60 :: (bl s ++ [62]) := by rw [bl_append, bl_append, bl1, bl1]; simp
  have hsz : (⟨#[60]⟩ ++ s ++ ⟨#[62]⟩ : ByteArray).size = s.size + 2 := by rw [← bl_length, hb]; simp [bl_length]
  unfold pathS
  rw [if_neg, if_pos]
  · rw [show (⟨#[60]⟩ ++ s ++ ⟨#[62]⟩ : ByteArray).extract 1 ((⟨#[60]⟩ ++ s ++ ⟨#[62]⟩ : ByteArray).size - 1) = s from ?_]
    · exact h
    · apply bl_inj
      rw [bl_extract, hb, hsz]
      simp only [show s.size + 2 - 1 = s.size + 1 by omega, List.take_succ_cons, List.drop_succ_cons, List.drop_zero]
      rw [List.take_append_of_le_length (by rw [bl_length]; exact Nat.le_refl _)]
      exact List.take_of_length_le (by rw [bl_length]; exact Nat.le_refl _)
  · rw [bl_cons hb, bl_snoc (r := 60 :: bl s) (by rw [hb]; rfl)]
    simp; omega
  · intro e
    have := congrArg ByteArray.size e
    rw [hsz] at this
    rw [show ByteArray.size ⟨#[60, 62]⟩ = 2 from rfl] at this
    omega
theorem path_no_start {s : ByteArray} {c : UInt8} {r : List UInt8} (h : bl s = c :: r) (hc : c ≠ 60) : pathS s = none := by
  unfold pathS
  rw [if_neg, if_neg]
  · rw [bl_cons h]; simp [hc]
  · rintro rfl
    rw [bl2] at h
    simp only [List.cons.injEq] at h
    exact hc h.1.symm
theorem path_no_end {s : ByteArray} {c : UInt8} {r : List UInt8} (h : bl s = r ++ [c]) (hc : c ≠ 62) : pathS s = none := by
  unfold pathS
  rw [if_neg, if_neg]
  · rw [bl_snoc h]; simp [hc]
  · rintro rfl
    rw [bl2] at h
    have := congrArg List.getLast? h
    simp at this
    exact hc this.symm
theorem path_bare {s u d : ByteArray} (h : addrS s = some (u, d)) : pathS s = none ∧ pathS (⟨#[60]⟩ ++ s) = none ∧ pathS (s ++ ⟨#[62]⟩) = none := by
  obtain ⟨⟨c, r, hb, hc⟩, ⟨c', r', hb', hc'⟩⟩ := addr_ends h
  refine ⟨path_no_start hb (nb_ne hc (by decide)), path_no_end (c := c') (r := 60 :: r') ?_ ?_, path_no_start (c := c) (r := r ++ [62]) ?_ (nb_ne hc (by decide))⟩
  · rw [bl_append, bl1, hb']; simp
  · rcases hc' with rfl | hc'
    · decide
    · exact nb_ne hc' (by decide)
  · rw [bl_append, bl1, hb]; simp
/-- What a path says. -/
theorem path_text {s u d : ByteArray} (h : pathS s = some (u, d)) : (s = ⟨#[60, 62]⟩ ∧ u = ⟨#[]⟩ ∧ d = ⟨#[]⟩) ∨ (s ≠ ⟨#[60, 62]⟩ ∧ nameB u = true ∧ domB d = true ∧ s = ⟨#[60]⟩ ++ (u ++ ⟨#[64]⟩ ++ d) ++ ⟨#[62]⟩) := by
  unfold pathS at h
  split at h
  · rename_i e
    simp only [Option.some.injEq, Prod.mk.injEq] at h
    exact .inl ⟨e, h.1.symm, h.2.symm⟩
  · rename_i hne
    split at h
    · rename_i hv
      simp only [Bool.and_eq_true, decide_eq_true_iff] at hv
      obtain ⟨h2, h60, h62⟩ := hv
      have hi := (addrS_iff _ u d).1 h
      refine .inr ⟨hne, hi.2.1, hi.2.2, ?_⟩
      rw [addrS_back h]
      apply bl_inj
      rw [bl_append, bl_append, bl1, bl1, bl_extract]
      have hl := bl_length s
      cases hb : bl s with
      | nil => rw [hb] at hl; simp at hl; omega
      | cons c r =>
        rw [bl_cons hb, decide_eq_true_iff] at h60
        subst h60
        have hrl : r.length = s.size - 1 := by rw [← hl, hb]; simp
        have hne' : r ≠ [] := by rintro rfl; simp at hrl; omega
        have hlast : r = r.dropLast ++ [r.getLast hne'] := (List.dropLast_concat_getLast hne').symm
        have h3 := bl_snoc (s := s) (r := 60 :: r.dropLast) (c := r.getLast hne') (hb.trans (congrArg (List.cons 60) hlast)) 62
        rw [h62] at h3
        have h4 : r.getLast hne' = 62 := by simpa using h3.symm
        have h5 : List.take (s.size - 1) (60 :: r) = 60 :: r.dropLast := by
          rw [show s.size - 1 = (s.size - 2) + 1 by omega, List.take_succ_cons, List.dropLast_eq_take, show s.size - 2 = r.length - 1 by omega]
        rw [h5]
        simp only [List.drop_succ_cons, List.drop_zero, List.cons_append, List.nil_append]
        conv => lhs; rw [hlast, h4]
    · cases h
theorem adText_ne (u d : ByteArray) : u ++ ⟨#[64]⟩ ++ d ≠ ⟨#[]⟩ := by
  intro e
  have := congrArg bl e
  rw [bl_append, bl_append, bl1, bl0] at this
  simp at this

end Go.Proofs.Ytbafeponkpaenaa
