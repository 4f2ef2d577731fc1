/- Plain laws on lists of bytes: names, domains. -/
import Derived.Test.YthabmjadfomnkaaDoorPlainC
namespace Go.Proofs.YthabmjadfomnkaaDoor

/-- A text's bytes as a list. -/
def bl (s : ByteArray) : List UInt8 := s.data.toList
theorem bl_length (s : ByteArray) : (bl s).length = s.size := Array.length_toList
theorem bl_append (s t : ByteArray) : bl (s ++ t) = bl s ++ bl t := by simp [bl]
theorem bl_mk (a : Array UInt8) : bl ⟨a⟩ = a.toList := rfl
theorem bl_inj {s t : ByteArray} (h : bl s = bl t) : s = t := by
  cases s with
  | mk a => cases t with
    | mk b => exact congrArg ByteArray.mk (Array.toList_inj.1 h)
theorem bl_extract (s : ByteArray) (i j : Nat) : bl (s.extract i j) = ((bl s).take j).drop i := by
  simp [bl, ByteArray.data_extract, List.drop_take]
theorem bl_get (s : ByteArray) (i : Nat) (h : i < s.size) : (bl s)[i]'(by rw [bl_length]; exact h) = s[i] := by
  simp [bl]; rfl
/-- Names as lists. -/
def nameL (l : List UInt8) : Bool := decide (1 ≤ l.length) && decide (l.length ≤ 8) && l.all nb
theorem nameL_iff (l : List UInt8) : nameL l = true ↔ 1 ≤ l.length ∧ l.length ≤ 8 ∧ ∀ x ∈ l, nb x = true := by
  simp [nameL, and_assoc]
theorem nameB_list (s : ByteArray) : nameB s = nameL (bl s) := by
  rw [Bool.eq_iff_iff, nameB_iff, nameL_iff, bl_length]
  constructor
  · rintro ⟨h1, h2, h3⟩
    refine ⟨h1, h2, fun x hx => ?_⟩
    obtain ⟨i, hi, rfl⟩ := List.getElem_of_mem hx
    rw [bl_length] at hi
    rw [bl_get s i hi]; exact h3 i hi
  · rintro ⟨h1, h2, h3⟩
    refine ⟨h1, h2, fun i hi => ?_⟩
    rw [← bl_get s i hi]; exact h3 _ (List.getElem_mem _)
/-- What stands ahead is put to the first part. -/
def headTo (p : List UInt8) : List (List UInt8) → List (List UInt8)
  | [] => [p]
  | h :: t => (p ++ h) :: t
/-- The parts of a list between the bytes c. -/
def cutL (c : UInt8) : List UInt8 → List (List UInt8)
  | [] => [[]]
  | x :: r => if x = c then [] :: cutL c r else headTo [x] (cutL c r)
theorem headTo_nil (l : List (List UInt8)) (h : l ≠ []) : headTo [] l = l := by cases l <;> simp_all [headTo]
theorem headTo_to (p q : List UInt8) (l : List (List UInt8)) (h : l ≠ []) : headTo p (headTo q l) = headTo (p ++ q) l := by cases l <;> simp_all [headTo]
theorem headTo_ne (p : List UInt8) (l : List (List UInt8)) : headTo p l ≠ [] := by cases l <;> simp [headTo]
theorem cutL_ne (c : UInt8) (l : List UInt8) : cutL c l ≠ [] := by
  cases l with
  | nil => simp [cutL]
  | cons x r => unfold cutL; split <;> simp [headTo_ne]
theorem headTo_app (p : List UInt8) (l m : List (List UInt8)) (h : l ≠ []) : headTo p (l ++ m) = headTo p l ++ m := by cases l <;> simp_all [headTo]
theorem cutL_app (c : UInt8) (a b : List UInt8) : cutL c (a ++ c :: b) = cutL c a ++ cutL c b := by
  induction a with
  | nil => simp [cutL]
  | cons x r ih =>
    simp only [List.cons_append, cutL, ih]
    split
    · simp
    · rw [headTo_app _ _ _ (cutL_ne c r)]
theorem cutL_none (c : UInt8) (l : List UInt8) (h : ∀ x ∈ l, x ≠ c) : cutL c l = [l] := by
  induction l with
  | nil => rfl
  | cons x r ih =>
    unfold cutL
    rw [if_neg (h x (by simp)), ih (fun y hy => h y (by simp [hy]))]; rfl
theorem cut_list' (s : ByteArray) (c : UInt8) (n : Nat) : ∀ f i, n = s.size - i → f ≤ i → i ≤ s.size → (cut s c f i).map bl = headTo (((bl s).take i).drop f) (cutL c ((bl s).drop i)) := by
  induction n with
  | zero =>
    intro f i hn hf hi
    obtain rfl : i = s.size := by omega
    rw [cut_end s c f s.size (Nat.le_refl _), show (bl s).drop s.size = [] from List.drop_of_length_le (by rw [bl_length]; exact Nat.le_refl _)]
    simp [cutL, headTo, bl_extract]
  | succ n ih =>
    intro f i hn hf hi
    have hlt : i < s.size := by omega
    have hl : i < (bl s).length := by rw [bl_length]; exact hlt
    have hd : (bl s).drop i = s[i]'hlt :: (bl s).drop (i + 1) := by rw [List.drop_eq_getElem_cons hl, bl_get s i hlt]
    cases hat : atB s i c
    · rw [cut_miss s c f i hlt hat, ih f (i + 1) (by omega) (by omega) (by omega), hd]
      rw [atB_iff s i c hlt, decide_eq_false_iff_not] at hat
      rw [cutL, if_neg hat, headTo_to _ _ _ (cutL_ne _ _), List.take_succ_eq_append_getElem hl, bl_get s i hlt]
      congr 1
      rw [List.drop_append_of_le_length (by rw [List.length_take, bl_length]; omega)]
    · rw [cut_hit s c f i hat, List.map_cons, ih (i + 1) (i + 1) (by omega) (Nat.le_refl _) (by omega), hd]
      rw [atB_iff s i c hlt, decide_eq_true_iff] at hat
      rw [cutL, if_pos hat, bl_extract]
      rw [show ((bl s).take (i + 1)).drop (i + 1) = [] from List.drop_of_length_le (by simp; omega), headTo_nil _ (cutL_ne _ _)]
      simp [headTo]
theorem cut_list (s : ByteArray) (c : UInt8) : (cut s c 0 0).map bl = cutL c (bl s) := by
  rw [cut_list' s c _ 0 0 rfl (Nat.le_refl _) (Nat.zero_le _)]
  simp [headTo_nil _ (cutL_ne _ _)]
/-- Domains as lists. -/
def domL (l : List UInt8) : Bool := (cutL 46 l).all nameL && decide ((cutL 46 l).length ≤ 3) && decide (l.length ≤ 20)
theorem domB_list (s : ByteArray) : domB s = domL (bl s) := by
  rw [← domS_eq]
  unfold domS domL
  rw [← cut_list, bl_length, List.length_map, List.all_map]
  congr 3
  funext x
  exact nameB_list x
theorem nb_ne {x c : UInt8} (h : nb x = true) (hc : nb c = false) : x ≠ c := by rintro rfl; rw [h] at hc; cases hc
theorem name_cut {l : List UInt8} (h : nameL l = true) (c : UInt8) (hc : nb c = false) : cutL c l = [l] :=
  cutL_none c l fun x hx => nb_ne ((nameL_iff l).1 h |>.2.2 x hx) hc
theorem nameL_nil : nameL [] = false := rfl
theorem dom_of_name {l : List UInt8} (h : nameL l = true) : domL l = true := by
  have hl := (nameL_iff l).1 h
  unfold domL
  rw [name_cut h 46 (by decide)]
  simp [h]; omega
theorem dom_dot_end (l : List UInt8) : domL (l ++ [46]) = false := by
  unfold domL
  rw [cutL_app]
  simp [cutL, nameL_nil]
theorem dom_dot_ahead (l : List UInt8) : domL (46 :: l) = false := by
  unfold domL
  simp [cutL, nameL_nil]
theorem dom_two {l x : List UInt8} (h : nameL l = true) (k : nameL x = true) : domL (l ++ 46 :: x) = true := by
  have hl := (nameL_iff l).1 h
  have kl := (nameL_iff x).1 k
  unfold domL
  rw [cutL_app, name_cut h 46 (by decide), name_cut k 46 (by decide)]
  simp [h, k]; omega
theorem dom_three {l x : List UInt8} (h : nameL l = true) (k : nameL x = true) : domL ([97, 46] ++ (l ++ 46 :: x)) = true := by
  have hl := (nameL_iff l).1 h
  have kl := (nameL_iff x).1 k
  unfold domL
  rw [show [97, 46] ++ (l ++ 46 :: x) = [97] ++ 46 :: (l ++ 46 :: x) from rfl, cutL_app, cutL_app, name_cut h 46 (by decide), name_cut k 46 (by decide)]
  rw [show cutL 46 [97] = [[97]] from rfl]
  simp [h, k, show nameL [97] = true from rfl]; omega
theorem dom_six (l : List UInt8) : domL ([97, 46, 98, 46, 99, 46] ++ l) = false := by
  unfold domL
  rw [show [97, 46, 98, 46, 99, 46] ++ l = [97, 46, 98, 46, 99] ++ 46 :: l from rfl, cutL_app, show cutL 46 [97, 46, 98, 46, 99] = [[97], [98], [99]] from rfl]
  have : 1 ≤ (cutL 46 l).length := by
    have := cutL_ne 46 l
    cases h : cutL 46 l with
    | nil => exact absurd h this
    | cons a b => simp
  rw [show decide ((([[97], [98], [99]] : List (List UInt8)) ++ cutL 46 l).length ≤ 3) = false from decide_eq_false (by simp only [List.length_append, List.length_cons, List.length_nil]; omega)]
  simp

end Go.Proofs.YthabmjadfomnkaaDoor
