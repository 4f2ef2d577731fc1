/- Contracts: Base64Encode, the program's. -/
import Derived.Test.YtcpkadenejlbjaaGrpW
import Derived.Test.YtcpkadenejlbjaaShelf
import Derived.RangeFuncFrom
namespace Go.Proofs.Ytcpkadenejlbjaa
open Go.RowKit Go.Shelf
attribute [local go_sem] Oper.semAt_some
set_option linter.unusedVariables false

/-- What has been written for the groups that have come. -/
def encG (pre : List ByteArray) : List UInt8 := pre.flatMap fun x => grp (bl x)
theorem encG_snoc (pre : List ByteArray) (x : ByteArray) : encG (pre ++ [x]) = encG pre ++ grp (bl x) := by simp [encG]
theorem grp_len_le (l : List UInt8) : (grp l).length ≤ 4 := by
  by_cases h : l = []
  · subst h; simp [grp]
  · rw [grp_length l h]; exact Nat.le_refl _
theorem encG_len (pre : List ByteArray) : (encG pre).length ≤ 4 * pre.length := by
  induction pre with
  | nil => simp [encG]
  | cons x r ih =>
    have := grp_len_le (bl x)
    simp only [encG, List.flatMap_cons, List.length_append, List.length_cons] at ih ⊢
    omega
theorem bl_grpB (s : ByteArray) (k j : Nat) : bl (grpB s k j) = ((bl s).drop (k * j)).take k := by
  unfold grpB
  rw [bl_extract, List.drop_take]
  have hl := bl_length s
  by_cases h : k * j + k ≤ s.size
  · rw [Nat.min_eq_left h, Nat.add_sub_cancel_left]
  · rw [Nat.min_eq_right (by omega), List.take_of_length_le (by simp; omega), List.take_of_length_le (by simp; omega)]
/-- The text is the groups' texts. -/
theorem encG_all (s : ByteArray) : ∀ m, encG (grpsB s 3 m) = encL ((bl s).take (3 * m)) := by
  intro m
  induction m with
  | zero => simp [grpsB, encG, encL]
  | succ m ih =>
    rw [grpsB_succ, encG_snoc, ih, bl_grpB]
    by_cases h : 3 * m ≤ (bl s).length
    · rw [show 3 * (m + 1) = 3 * m + 3 by omega, List.take_add, encL_app _ _ (by rw [List.length_take, Nat.min_eq_left h]; omega), encL_grp (((bl s).drop (3 * m)).take 3) (by rw [List.length_take]; omega)]
    · have h1 : (bl s).take (3 * m) = bl s := List.take_of_length_le (by omega)
      have h2 : (bl s).take (3 * (m + 1)) = bl s := List.take_of_length_le (by omega)
      have h3 : (bl s).drop (3 * m) = [] := List.drop_of_length_le (by omega)
      rw [h1, h2, h3]; simp [grp]
theorem enc_groups (s : ByteArray) : encG (grpsB s 3 (nGrp s 3)) = encL (bl s) := by
  rw [encG_all, List.take_of_length_le]
  have := mt (nGrp_iff s 3 (nGrp s 3) (by omega)).2 (Nat.lt_irrefl _)
  rw [bl_length]; omega
theorem grpB_size (s : ByteArray) (j : Nat) (h : 3 * j < s.size) : 1 ≤ (grpB s 3 j).size ∧ (grpB s 3 j).size ≤ 3 := by
  unfold grpB; simp; omega
theorem keeps_of {B b : Nat} {bs : List Value} {W W' : World} (h : Lib.IsBuilder 34 5 B b bs W) (hb : Below B W W') (hk : Lib.OthersKept 5 (some b) W W') : KeepsOthers W W' := by
  refine ⟨hb.size, fun k o hko hc => hk k o hko ?_ ?_⟩
  · intro e
    cases e
    rcases h with ⟨_, v, hbk, _⟩ | ⟨_, v, hbk, _⟩
    · rw [hbk] at hko; cases hko; cases hc
    · rw [hbk] at hko; cases hko; cases hc
  · rintro c fz rfl; cases hc
theorem box_kept {b q : Nat} {t : TypeId} {v : Value} {W W' : World} (hk : Lib.OthersKept 5 (some b) W W') (hq : q ≠ b) (ht : t ≠ 5) (h : Boxed W q t v) : Boxed W' q t v :=
  hk q _ h (by simpa using hq) (fun c fz e => by cases e; exact ht rfl)
theorem builder_own {β : Type} (B b : Nat) (f : β → List Value) : Own (fun s W => Lib.IsBuilder 34 5 B b (f s) W) := by
  intro s X Y row hs hg hr
  have one : ∀ p, Lib.BuilderAt 34 5 B b p (f s) X → Lib.BuilderAt 34 5 B b p (f s) Y := by
    rintro p ⟨hB, v, hbk, hown, hne⟩
    have hnb : some b ≠ row := fun e => by obtain ⟨o, ho, hc⟩ := hr b e.symm; rw [hbk] at ho; cases ho; cases hc
    refine ⟨hB, v, (hg.block b (Array.getElem?_eq_some_iff.1 hbk).1 hnb).trans hbk, hown.kept hg ?_, hne⟩
    cases hvb : v.ownBlock with
    | none => exact .inl rfl
    | some g =>
      refine .inr fun e => ?_
      obtain ⟨o, ho, hc⟩ := hr g e.symm
      obtain ⟨c, fz, hcell⟩ := own_kind hown g hvb
      rw [hcell] at ho; cases ho; cases hc
  exact hs.imp (one _) (one _)

set_option maxRecDepth 100000 in
set_option maxHeartbeats 4000000 in
theorem implEnc_yes (s : ByteArray) (w : World) (hs : s.size ≤ 30) :
    Calls Try.prog 12 #[.string s] w fun e w' => e = .returned (.string ⟨(encL (bl s)).toArray⟩) ∧ Below w.heap.size w w' := by
  have hi : ¬ (30 : Int) < (s.size : Int) := by omega
  have HEN := Lib.hid (show encG ((grpsG s 3 (by omega) (nGrp s 3)).map (·.1)) = encL (bl s) by rw [grpsG_map s 3 (by omega) _ (Nat.le_refl _)]; exact enc_groups s)
  refine (callsIn_wide (n := 8)).1 ?_
  refine callsIn_of_wp_marks Try.func12 rfl trivial ?_ rfl
  simp only [Try.ntmps12, List.size_toArray, List.length_cons, List.length_nil, Nat.reduceAdd, Nat.reduceSub, Array.replicate_succ, Array.replicate_zero, List.push_toArray, List.append_toArray, List.nil_append, List.cons_append]
  gi_wp2_with (refine ⟨trivial, ?_⟩; gi_at_call 19; refine (callsIn_wide.2 (groups_make _ _ _)).mono ?_; rintro e w' ⟨rfl, rfl⟩)
  have hbd0 : Lib.IsBuilder 34 5 w.heap.size w.heap.size [] (w.alloc (.cells #[.pointer none, .slice none 0 0] 34)) := Lib.fresh_isBuilder _ _ w
  have hB0 := ((((Below.refl w.heap.size w).alloc (Nat.le_refl _) (.cells #[.pointer none, .slice none 0 0] 34)).alloc (by simp) (.cells #[.string s] 9)).alloc (by simp; omega) (.cells #[.int .i64 ((3 : Nat) : Int)] 3))
  have hx1 := Boxed.new (w.alloc (.cells #[.pointer none, .slice none 0 0] 34)) 9 (.string s)
  have hx2 := Boxed.new ((w.alloc (.cells #[.pointer none, .slice none 0 0] 34)).alloc (.cells #[.string s] 9)) 3 (.int .i64 ((3 : Nat) : Int))
  rw [World.size_alloc] at hx1
  rw [World.size_alloc, World.size_alloc] at hx2
  have hx1' := hx1.alloc (.cells #[.int .i64 ((3 : Nat) : Int)] 3)
  have hN : nGrp s 3 ≤ 10 := by unfold nGrp; omega
  have hOW := builder_own w.heap.size w.heap.size (fun pre : List (Grp 3) => Lib.byteCells (encG (pre.map (·.1))))
  refine wpIn_rangeFunc_ownF rfl (by omega) (gf := 29) (lb := #[.pointer (some ⟨w.heap.size + 1, 0, none⟩), .pointer (some ⟨w.heap.size + 1 + 1, 0, none⟩)]) rfl trivial (enters_of Try.func29 (by kernel_rfl) rfl)
    (groups_stops Fence.wide 7 trivial rfl (by omega) (w.heap.size + 1) (w.heap.size + 1 + 1) s (by omega) 3 (by omega) (by omega) _ hx1' hx2)
    (fun h k => ⟨fun x => k.1 (h.1 x), fun x => k.2 (h.2 x)⟩)
    (fun W l o o' _ hl hc _ => ⟨fun x => x.kept (grownBy_putObj' W l o') (fun e => by have e' := Option.some.inj e; rw [← e', show W.heap[_]? = _ from x] at hl; cases hl; cases hc), fun x => x.kept (grownBy_putObj' W l o') (fun e => by have e' := Option.some.inj e; rw [← e', show W.heap[_]? = _ from x] at hl; cases hl; cases hc)⟩)
    (Below.refl _ _) (fun _ => rfl)
    (fun (pre : List (Grp 3)) W => (pre.length ≤ 10 ∧ Lib.IsBuilder 34 5 w.heap.size w.heap.size (Lib.byteCells (encG (pre.map (·.1)))) W) ∧ Below w.heap.size w W)
    (fun _ _ _ => False)
    (OwnFrom.and (OwnFrom.and (ownFrom_pure _ _) (Own.from hOW _)) (ownFrom_below (Nat.le_refl _) (by simp; omega)))
    (fun _ _ _ _ _ hs _ _ => hs)
    ⟨⟨by simp, hOW [] _ _ none (hOW [] _ _ none hbd0 (World.grownBy_alloc _ _ none) (fun r e => by cases e)) (World.grownBy_alloc _ _ none) (fun r e => by cases e)⟩, hB0⟩
    (fun x : Grp 3 => { tmps := #[.string s, undef, .string ⟨#[]⟩, .pointer (some ⟨w.heap.size, 0, none⟩), .string x.1, .string s, .int .i64 (s.size : Int), .bool false, .string s, .func (.func 29) #[] #[.pointer (some ⟨w.heap.size + 1, 0, none⟩), .pointer (some ⟨w.heap.size + 1 + 1, 0, none⟩)], .string x.1, undef, undef, undef], defers := [] }) ?assign ?body ?done ?stop
  case assign =>
    intro l x W K hK
    gi_wp2
    exact hK
  case body =>
    rintro l pre x W ⟨⟨hpl, hbd⟩, hB⟩ hlt
    obtain ⟨x, hx1, hx3⟩ := x
    have hpl2 : (encG (pre.map (·.1))).length ≤ 1000 := by
      have := encG_len (pre.map (·.1))
      rw [List.length_map] at this
      omega
    have hBz := hB.size
    gi_wp2_with (refine ⟨trivial, ?_⟩; gi_at_call 20; refine (CallsIn.inRound l (callsIn_wide.2 (base64Write_any w.heap.size w.heap.size _ x _ hbd hpl2 hx1 hx3 hBz))).mono ?_; rintro e w' ⟨rfl, hbd', hb', hk'⟩)
    refine ⟨keeps_of hbd hb' hk', ⟨box_kept hk' (by omega) (by decide), box_kept hk' (by omega) (by decide)⟩, ⟨by rw [List.length_append, List.length_cons, List.length_nil]; omega, ?_⟩, hB.trans hb'⟩
    rw [List.map_append, List.map_cons, List.map_nil, encG_snoc]
    exact hbd'
  case done =>
    rintro D ys W hD rfl ⟨⟨_, hbd⟩, hB⟩ hK
    rw [HEN.out] at hbd
    have hBz := hB.size
    have hDw : w.heap.size < D := by simp at hD; omega
    gi_wp2_with (refine ⟨trivial, ?_⟩; gi_at_call 21; refine (callsIn_wide.2 (Try.Builder_String_any_k w.heap.size w.heap.size _ _ (Lib.IsBuilderF.of hbd) hBz)).mono ?_; rintro e w' ⟨rfl, hbf, hb', hk'⟩)
    have hK' := hk' D _ hK (by simp; omega) (by intro c fz e; cases e)
    refine ⟨by simp, .inl ⟨_, _, rfl, run_takeDeferred hK', ?_⟩⟩
    exact ⟨_, results_tmp rfl _ _ _, rfl, (hB.trans hb').trans (belowK_b (w := w) (Nat.le_refl _) w' D _ _ (by omega) hK' rfl rfl)⟩
  case stop =>
    rintro D c pre W _ _ h _
    exact h.elim

theorem implEnc_no (s : ByteArray) (w : World) (hs : 30 < s.size) :
    Calls Try.prog 12 #[.string s] w fun e w' => e = .returned (.string ⟨#[]⟩) ∧ Below w.heap.size w w' := by
  have hi : (30 : Int) < (s.size : Int) := by omega
  go_enter Try.func12, Try.ntmps12
  go_wp2_with fail
  go_ret
  exact ⟨rfl, Below.refl _ _⟩
/-- The text of bytes, or nothing. -/
def encB (s : ByteArray) : ByteArray := if s.size ≤ 30 then ⟨(encL (bl s)).toArray⟩ else ⟨#[]⟩
theorem implEnc_any (s : ByteArray) (w : World) :
    Calls Try.prog 12 #[.string s] w fun e w' => e = .returned (.string (encB s)) ∧ Below w.heap.size w w' := by
  unfold encB
  by_cases h : s.size ≤ 30
  · rw [if_pos h]; exact implEnc_yes s w h
  · rw [if_neg h]; exact implEnc_no s w (by omega)

end Go.Proofs.Ytcpkadenejlbjaa
