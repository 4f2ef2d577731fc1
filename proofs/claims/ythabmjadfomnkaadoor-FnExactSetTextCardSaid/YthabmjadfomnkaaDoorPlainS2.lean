/- Plain laws: sets written, and read again; the numbers of sets. No program in sight. -/
import Derived.Test.YthabmjadfomnkaaDoorPlainS
namespace Go.Proofs.YthabmjadfomnkaaDoor

/-- The text of a number from 0 to 99. -/
def numT (n : Int) : List UInt8 := if n = 0 then [42] else if n < 10 then [UInt8.ofNat (48 + n.toNat)] else [UInt8.ofNat (48 + n.toNat / 10), UInt8.ofNat (48 + n.toNat % 10)]
theorem numT_W (n : Int) (h0 : 0 ≤ n) (h1 : n ≤ 99) : numW (numT n) = some n := by
  have h : ∀ k : Fin 100, numW (numT (k.1 : Int)) = some (k.1 : Int) := by decide +kernel
  have := h ⟨n.toNat, by omega⟩
  rwa [show ((n.toNat : Nat) : Int) = n by omega] at this
def spanX (x : Sp) : List UInt8 := numT x.1 ++ (if x.2 = x.1 then [] else 58 :: numT x.2)
/-- The text of spans. -/
def textL : List Sp → List UInt8
  | [] => []
  | [x] => spanX x
  | x :: y :: r => spanX x ++ 44 :: textL (y :: r)
theorem okSp_iff (x : Sp) : okSp x = true ↔ 0 ≤ x.1 ∧ x.1 ≤ 99 ∧ 0 ≤ x.2 ∧ x.2 ≤ 99 := by
  simp [okSp, and_assoc]
theorem spanX_W {x : Sp} (h : okSp x = true) : spanW (spanX x) = some x := by
  obtain ⟨h1, h2, h3, h4⟩ := (okSp_iff x).1 h
  have ha := numT_W x.1 h1 h2
  have hb := numT_W x.2 h3 h4
  have na := numW_ne ha 58 (by decide) (by decide)
  have nb := numW_ne hb 58 (by decide) (by decide)
  unfold spanX spanW
  by_cases e : x.2 = x.1
  · rw [if_pos e, List.append_nil, cutL_none 58 _ na]
    simp only [ha]
    obtain ⟨x1, x2⟩ := x
    simp only at e
    subst e
    rfl
  · rw [if_neg e, cutL_app, cutL_none 58 _ na, cutL_none 58 _ nb]
    simp only [List.singleton_append, ha, hb]
theorem spanX_44 {x : Sp} (h : okSp x = true) : ∀ y ∈ spanX x, y ≠ 44 := by
  obtain ⟨h1, h2, h3, h4⟩ := (okSp_iff x).1 h
  have na := numW_ne (numT_W x.1 h1 h2) 44 (by decide) (by decide)
  have nb := numW_ne (numT_W x.2 h3 h4) 44 (by decide) (by decide)
  intro y hy
  unfold spanX at hy
  rw [List.mem_append] at hy
  rcases hy with hy | hy
  · exact na y hy
  · split at hy
    · cases hy
    · rcases List.mem_cons.1 hy with rfl | hy
      · decide
      · exact nb y hy
theorem spanX_ne {x : Sp} (h : okSp x = true) : spanX x ≠ [] := by
  obtain ⟨h1, h2, h3, h4⟩ := (okSp_iff x).1 h
  have := (numW_bytes (numT_W x.1 h1 h2)).1
  unfold spanX
  simp [this]
theorem textL_cut (l : List Sp) (h : l.all okSp = true) (hne : l ≠ []) : spansW (cutL 44 (textL l)) = some l := by
  induction l with
  | nil => exact absurd rfl hne
  | cons x r ih =>
    rw [List.all_cons, Bool.and_eq_true] at h
    cases r with
    | nil =>
      simp only [textL]
      rw [cutL_none 44 _ (spanX_44 h.1)]
      simp [spansW, spanX_W h.1]
    | cons y r =>
      simp only [textL]
      rw [cutL_app, cutL_none 44 _ (spanX_44 h.1), List.singleton_append]
      simp only [spansW, spanX_W h.1]
      rw [ih h.2 (by simp)]
/-- A written set can be parsed. -/
theorem text_set (l : List Sp) (h : setV l = true) : setT (textL l) = some l := by
  simp only [setV, Bool.and_eq_true, decide_eq_true_iff] at h
  unfold setT
  rw [setP_eq, textL_cut l h.1 (by rintro rfl; simp at h)]
  simp only
  rw [if_pos h.2.2]
/-- What was parsed is a set. -/
theorem set_ok {t : List UInt8} {l : List Sp} (h : setT t = some l) : setV l = true := by
  unfold setT at h
  rw [setP_eq] at h
  split at h
  · cases h
  · rename_i xs hs
    split at h
    · rename_i h6
      simp only [Option.some.injEq] at h; subst h
      have := spansW_length hs
      have hne := cutL_ne 44 t
      have : 1 ≤ xs.length := by rw [this]; cases hc : cutL 44 t with | nil => exact absurd hc hne | cons a b => simp
      simp [setV, spansW_ok hs]; omega
    · cases h
theorem textL_ne (l : List Sp) (h : l.all okSp = true) (hne : l ≠ []) : textL l ≠ [] := by
  intro e
  have := textL_cut l h hne
  rw [e] at this
  simp [cutL, spansW, spanW, numW] at this
theorem textL_snoc (l : List Sp) (x : Sp) (hne : l ≠ []) : textL (l ++ [x]) = textL l ++ 44 :: spanX x := by
  induction l with
  | nil => exact absurd rfl hne
  | cons y r ih =>
    cases r with
    | nil => simp [textL]
    | cons z r =>
      have := ih (by simp)
      simp only [List.cons_append] at this ⊢
      simp only [textL]
      rw [this]; simp
theorem numT_len (n : Int) : (numT n).length ≤ 2 := by unfold numT; split; · simp
                                                       split <;> simp
theorem spanX_len (x : Sp) : (spanX x).length ≤ 5 := by
  have h1 := numT_len x.1
  have h2 := numT_len x.2
  unfold spanX
  split
  · simp; omega
  · simp; omega
theorem textL_len (l : List Sp) : (textL l).length ≤ 6 * l.length := by
  induction l with
  | nil => simp [textL]
  | cons x r ih =>
    have := spanX_len x
    cases r with
    | nil => simp [textL]; omega
    | cons y r =>
      simp only [textL, List.length_append, List.length_cons] at ih ⊢
      omega
/-- A set can be continued by a star. -/
theorem set_more {t : List UInt8} {l : List Sp} (h : setT t = some l) : setT (t ++ [44, 42]) = if 6 ≤ l.length then none else some (l ++ [(0, 0)]) := by
  have app : ∀ (a : List (List UInt8)) xs, spansW a = some xs → spansW (a ++ [[42]]) = some (xs ++ [(0, 0)]) := by
    intro a
    induction a with
    | nil => intro xs hx; simp [spansW] at hx; subst hx; rfl
    | cons p r ih =>
      intro xs hx
      unfold spansW at hx
      split at hx
      · cases hx
      · rename_i x hxx
        split at hx
        · cases hx
        · rename_i ys hy
          simp only [Option.some.injEq] at hx; subst hx
          simp only [List.cons_append, spansW, hxx, ih ys hy]
  unfold setT at h ⊢
  rw [setP_eq] at h ⊢
  split at h
  · cases h
  · rename_i xs hs
    split at h
    · simp only [Option.some.injEq] at h; subst h
      rw [show t ++ [44, 42] = t ++ 44 :: [42] from rfl, cutL_app, show cutL 44 [42] = [[42]] from rfl, app _ _ hs]
      simp only [List.length_append, List.length_cons, List.length_nil]
      by_cases h6 : 6 ≤ xs.length
      · rw [if_pos h6, if_neg (by omega)]
      · rw [if_neg h6, if_pos (by omega)]
    · cases h
/-- A text that begins with no number is no set. -/
theorem set_bad (c : UInt8) (t : List UInt8) (h1 : c ≠ 42) (h2 : (dgB c && decide (c ≠ 48)) = false) : setT (c :: t) = none := by
  have h : numP (c :: t) = none := by rw [numP_cons, if_neg h1, h2]; rfl
  have h' : spanP (c :: t) = none := by unfold spanP; rw [h]
  unfold setT setP
  rw [h']

/-- A span's bounds, with the last number for 0. -/
def bnd (n last : Int) : Int := if n = 0 then last else n
def hasSp (x : Sp) (last n : Int) : Bool := decide (min (bnd x.1 last) (bnd x.2 last) ≤ n) && decide (n ≤ max (bnd x.1 last) (bnd x.2 last))
def hasN (l : List Sp) (last n : Int) : Bool := l.any fun x => hasSp x last n
/-- The numbers from a up, k of them. -/
def upFrom (a : Int) : Nat → List Int
  | 0 => []
  | k + 1 => a :: upFrom (a + 1) k
theorem upFrom_succ (a : Int) (k : Nat) : upFrom a (k + 1) = upFrom a k ++ [a + k] := by
  induction k generalizing a with
  | zero => simp [upFrom]
  | succ k ih => rw [upFrom, ih]; simp only [upFrom, List.cons_append]; congr 3; omega
theorem upFrom_mem (a : Int) (k : Nat) (x : Int) : x ∈ upFrom a k ↔ a ≤ x ∧ x < a + k := by
  induction k generalizing a with
  | zero => simp [upFrom]
  | succ k ih => simp only [upFrom, List.mem_cons, ih]; push_cast; omega
theorem upFrom_length (a : Int) (k : Nat) : (upFrom a k).length = k := by
  induction k generalizing a with
  | zero => rfl
  | succ k ih => simp [upFrom, ih]
/-- The last number that counts. -/
def lastN (last : Int) : Int := min last 99
/-- The numbers of a set. -/
def numsL (l : List Sp) (last : Int) : List Int := if setV l && decide (1 ≤ last) then (upFrom 1 (lastN last).toNat).filter (hasN l (lastN last)) else []
theorem numsL_len (l : List Sp) (last : Int) : (numsL l last).length ≤ 99 := by
  unfold numsL
  split
  · refine Nat.le_trans (List.length_filter_le _ _) ?_
    rw [upFrom_length]; unfold lastN; omega
  · simp
theorem numsL_mem (l : List Sp) (last n : Int) : n ∈ numsL l last ↔ setV l = true ∧ 1 ≤ n ∧ n ≤ last ∧ n ≤ 99 ∧ hasN l (lastN last) n = true := by
  unfold numsL
  by_cases h : setV l = true
  · by_cases h1 : 1 ≤ last
    · rw [if_pos (by simp [h, h1]), List.mem_filter, upFrom_mem]
      simp only [h, true_and]
      unfold lastN
      constructor
      · rintro ⟨⟨a, b⟩, c⟩; exact ⟨by omega, by omega, by omega, c⟩
      · rintro ⟨a, b, c, d⟩; exact ⟨⟨by omega, by omega⟩, d⟩
    · rw [if_neg (by simp [h1])]
      constructor
      · intro h; cases h
      · rintro ⟨_, a, b, _, _⟩; omega
  · rw [if_neg (by simp [h])]
    constructor
    · intro h; cases h
    · rintro ⟨a, _⟩; exact absurd a h
/-- Numbers in order. -/
def asc : List Int → Prop
  | [] => True
  | [_] => True
  | x :: y :: r => x < y ∧ asc (y :: r)
theorem pw_filter_upFrom (p : Int → Bool) (a : Int) (k : Nat) : ((upFrom a k).filter p).Pairwise (· < ·) := by
  refine List.Pairwise.filter _ ?_
  induction k generalizing a with
  | zero => exact .nil
  | succ k ih =>
    refine .cons (fun x hx => ?_) (ih (a + 1))
    have := (upFrom_mem (a + 1) k x).1 hx; omega
theorem numsL_pw (l : List Sp) (last : Int) : (numsL l last).Pairwise (· < ·) := by
  unfold numsL
  split
  · exact pw_filter_upFrom _ _ _
  · exact .nil
theorem hasN_congr {l m : List Sp} (h : ∀ last n, hasN l last n = hasN m last n) (hv : setV l = setV m) (last : Int) : numsL l last = numsL m last := by
  unfold numsL
  rw [hv]
  split
  · congr 1; funext n; exact h _ n
  · rfl
theorem setV_reverse (l : List Sp) : setV l.reverse = setV l := by simp [setV]
theorem nums_order (l : List Sp) (last : Int) : numsL l.reverse last = numsL l last :=
  hasN_congr (fun _ _ => by simp [hasN]) (setV_reverse l) last
def swapSp (x : Sp) : Sp := (x.2, x.1)
theorem okSp_swap (x : Sp) : okSp (swapSp x) = okSp x := by
  unfold okSp swapSp
  rw [Bool.and_comm]
theorem hasSp_swap (x : Sp) (last n : Int) : hasSp (swapSp x) last n = hasSp x last n := by
  unfold hasSp swapSp
  rw [Int.min_comm, Int.max_comm]
theorem nums_swap (l : List Sp) (last : Int) : numsL (l.map swapSp) last = numsL l last := by
  refine hasN_congr (fun _ _ => ?_) ?_ last
  · unfold hasN; rw [List.any_map]; congr 1; funext x; exact hasSp_swap x _ _
  · unfold setV; rw [List.all_map, List.length_map]; congr 2; funext x; exact okSp_swap x
theorem nums_twice (l : List Sp) (x : Sp) (hx : x ∈ l) (hv : setV l = true) (h6 : l.length < 6) (last : Int) : numsL (l ++ [x]) last = numsL l last := by
  refine hasN_congr (fun _ n => ?_) ?_ last
  · unfold hasN
    rw [List.any_append]
    cases h : l.any fun x => hasSp x _ n
    · have := List.any_eq_false.1 h x hx
      simp at this
      simp [this]
    · simp
  · rw [hv]
    simp only [setV, Bool.and_eq_true, decide_eq_true_iff] at hv
    have hx1 := List.all_eq_true.1 hv.1 x hx
    unfold setV
    rw [List.all_append, hv.1, List.all_cons, hx1, List.length_append, List.length_cons, List.length_nil]
    simp; omega
theorem filter_eq_singleton (p : Int → Bool) (k : Nat) (a x : Int) (hx : a ≤ x ∧ x < a + k) (hp : ∀ n, p n = decide (n = x)) : (upFrom a k).filter p = [x] := by
  induction k generalizing a with
  | zero => omega
  | succ k ih =>
    simp only [upFrom, List.filter_cons, hp]
    by_cases e : a = x
    · subst e
      simp only [decide_true, if_true]
      congr 1
      refine List.filter_eq_nil_iff.2 fun n hn => ?_
      have := (upFrom_mem (a + 1) k n).1 hn
      simp [hp]; omega
    · simp only [e, decide_false, Bool.false_eq_true, if_false]
      exact ih (a + 1) (by omega)
theorem nums_star (last : Int) : numsL [(0, 0)] last = if 1 ≤ last then [lastN last] else [] := by
  unfold numsL
  by_cases h : 1 ≤ last
  · rw [if_pos h, if_pos (by simp [setV, okSp, h])]
    refine filter_eq_singleton _ _ _ _ (by unfold lastN; omega) fun n => ?_
    simp only [hasN, List.any_cons, List.any_nil, Bool.or_false, hasSp, bnd, if_true]
    rw [Bool.eq_iff_iff]; simp; omega
  · rw [if_neg h, if_neg (by simp [h])]
theorem nums_all (last : Int) : numsL [(1, 0)] last = upFrom 1 (lastN last).toNat := by
  unfold numsL
  by_cases h : 1 ≤ last
  · rw [if_pos (by simp [setV, okSp, h])]
    refine List.filter_eq_self.2 fun n hn => ?_
    have := (upFrom_mem 1 _ n).1 hn
    have hl : 1 ≤ lastN last := by unfold lastN; omega
    simp only [hasN, List.any_cons, List.any_nil, Bool.or_false, hasSp]
    rw [show bnd 1 (lastN last) = 1 from rfl, show bnd 0 (lastN last) = lastN last from rfl]
    simp; omega
  · rw [if_neg (by simp [h]), show (lastN last).toNat = 0 by unfold lastN; omega]; rfl
/-- A set is the union of its spans. -/
theorem nums_union (l : List Sp) (last n : Int) (hv : setV l = true) : (n ∈ numsL l last) ↔ ∃ x ∈ l, n ∈ numsL [x] last := by
  have hv' := hv
  simp only [setV, Bool.and_eq_true, decide_eq_true_iff] at hv'
  simp only [numsL_mem]
  constructor
  · rintro ⟨_, a, b, c, d⟩
    unfold hasN at d
    obtain ⟨x, hx, hd⟩ := List.any_eq_true.1 d
    exact ⟨x, hx, by simp [setV, List.all_eq_true.1 hv'.1 x hx], a, b, c, by simp [hasN, hd]⟩
  · rintro ⟨x, hx, _, a, b, c, d⟩
    refine ⟨hv, a, b, c, List.any_eq_true.2 ⟨x, hx, by simpa [hasN] using d⟩⟩

end Go.Proofs.YthabmjadfomnkaaDoor
