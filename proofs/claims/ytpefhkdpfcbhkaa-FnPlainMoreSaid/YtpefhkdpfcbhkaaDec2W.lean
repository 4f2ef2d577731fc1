/- Contracts: Base64Decode, the program's. -/
import Derived.Test.YtpefhkdpfcbhkaaDecW
namespace Go.Proofs.Ytpefhkdpfcbhkaa
open Go.RowKit Go.Shelf
attribute [local go_sem] Oper.semAt_some
set_option linter.unusedVariables false

/-- What has been read of the groups that have come. -/
def decG (pre : List ByteArray) : List UInt8 := pre.flatMap fun x => rd (bl x)
theorem decG_snoc (pre : List ByteArray) (x : ByteArray) : decG (pre ++ [x]) = decG pre ++ rd (bl x) := by simp [decG]
theorem rd_len (l : List UInt8) : (rd l).length ≤ 3 := by
  unfold rd; rw [List.length_take]; simp only [bytes3, List.length_cons, List.length_nil]; omega
theorem decG_len (pre : List ByteArray) : (decG pre).length ≤ 3 * pre.length := by
  induction pre with
  | nil => simp [decG]
  | cons x r ih =>
    have := rd_len (bl x)
    simp only [decG, List.flatMap_cons, List.length_append, List.length_cons] at ih ⊢
    omega
theorem decG_all (s : ByteArray) : ∀ m, decG (grpsB s 4 m) = rawI ((bl s).take (4 * m)) := by
  intro m
  induction m with
  | zero => simp [grpsB, decG, rawI, rd_nil]
  | succ m ih =>
    rw [grpsB_succ, decG_snoc, ih, bl_grpB]
    by_cases h : 4 * m ≤ (bl s).length
    · rw [show 4 * (m + 1) = 4 * m + 4 by omega, List.take_add, rawI_app _ _ (by rw [List.length_take, Nat.min_eq_left h]; omega), rawI_short (((bl s).drop (4 * m)).take 4) (by rw [List.length_take]; omega)]
    · have h1 : (bl s).take (4 * m) = bl s := List.take_of_length_le (by omega)
      have h2 : (bl s).take (4 * (m + 1)) = bl s := List.take_of_length_le (by omega)
      have h3 : (bl s).drop (4 * m) = [] := List.drop_of_length_le (by omega)
      rw [h1, h2, h3]; simp [rd_nil]
theorem dec_groups (s : ByteArray) : decG (grpsB s 4 (nGrp s 4)) = rawI (bl s) := by
  rw [decG_all, List.take_of_length_le]
  have := mt (nGrp_iff s 4 (nGrp s 4) (by omega)).2 (Nat.lt_irrefl _)
  rw [bl_length]; omega
theorem rawI_len (l : List UInt8) : (rawI l).length ≤ (l.length + 3) / 4 * 3 := by
  induction l using four_ind with
  | h0 => simp [rawI, rd_nil]
  | h1 a => have := rd_len [a]; rw [rawI_short _ (by simp)]; simpa using this
  | h2 a b => have := rd_len [a, b]; rw [rawI_short _ (by simp)]; simpa using this
  | h3 a b c => have := rd_len [a, b, c]; rw [rawI_short _ (by simp)]; simpa using this
  | h4 a b c d r ih =>
    have := rd_len [a, b, c, d]
    rw [rawI_four, List.length_append]
    simp only [List.length_cons]; omega
theorem keptOf {w w' : World} (h : Below w.heap.size w w') (e : TypeId) (b : Option Nat) : Lib.OthersKept e b w w' := fun k o hk _ _ => (h.block k (Array.getElem?_eq_some_iff.1 hk).1).trans hk
theorem grownOf {w w' : World} (h : Below w.heap.size w w') : w.grownBy w' none := ⟨h.os, h.tape, h.output, h.size, fun k hk _ => h.block k hk⟩

/-- What Base64Decode hands back. -/
def decB (s : ByteArray) : ByteArray := match decI (bl s) with | none => ⟨#[]⟩ | some d => ⟨d.toArray⟩
def decOk (s : ByteArray) : Bool := (decI (bl s)).isSome
theorem dec_yes (s : ByteArray) (h : s.size ≤ 40) (he : encL (rawI (bl s)) = bl s) : decB s = ⟨(rawI (bl s)).toArray⟩ ∧ decOk s = true := by
  have : decI (bl s) = some (rawI (bl s)) := by unfold decI; rw [if_pos ⟨by rw [bl_length]; exact h, he⟩]
  unfold decB decOk; rw [this]; exact ⟨rfl, rfl⟩
theorem dec_no (s : ByteArray) (he : decI (bl s) = none) : decB s = ⟨#[]⟩ ∧ decOk s = false := by
  unfold decB decOk; rw [he]; exact ⟨rfl, rfl⟩
theorem dec_not (s : ByteArray) (he : encL (rawI (bl s)) ≠ bl s) : decI (bl s) = none := by
  unfold decI; rw [if_neg (fun h => he h.2)]

set_option maxRecDepth 100000 in
set_option maxHeartbeats 4000000 in
theorem implDec_short (s : ByteArray) (w : World) (hs : s.size ≤ 40) :
    Calls Try.prog 19 #[.string s] w fun e w' => e = .returned (.tuple #[.string (decB s), .bool (decOk s)]) ∧ Below w.heap.size w w' := by
  have hi : ¬ (40 : Int) < (s.size : Int) := by omega
  have HEN := Lib.hid (show decG ((grpsG s 4 (by omega) (nGrp s 4)).map (·.1)) = rawI (bl s) by rw [grpsG_map s 4 (by omega) _ (Nat.le_refl _)]; exact dec_groups s)
  have HRL := Lib.hid (show (rawI (bl s)).length ≤ 30 by have := rawI_len (bl s); rw [bl_length] at this; omega)
  refine (callsIn_wide (n := 8)).1 ?_
  refine callsIn_of_wp_marks Try.func19 rfl trivial ?_ rfl
  simp only [Try.ntmps19, List.size_toArray, List.length_cons, List.length_nil, Nat.reduceAdd, Nat.reduceSub, Array.replicate_succ, Array.replicate_zero, List.push_toArray, List.append_toArray, List.nil_append, List.cons_append]
  gi_wp2_with (refine ⟨trivial, ?_⟩; gi_at_call 30; refine (callsIn_wide.2 (groups_make _ _ _)).mono ?_; rintro e w' ⟨rfl, rfl⟩)
  have hbd0 : Lib.IsBuilder 51 5 w.heap.size w.heap.size [] (w.alloc (.cells #[.pointer none, .slice none 0 0] 51)) := Lib.fresh_isBuilder _ _ w
  have hB0 := ((((Below.refl w.heap.size w).alloc (Nat.le_refl _) (.cells #[.pointer none, .slice none 0 0] 51)).alloc (by simp) (.cells #[.string s] 9)).alloc (by simp; omega) (.cells #[.int .i64 ((4 : Nat) : Int)] 3))
  have hx1 := Boxed.new (w.alloc (.cells #[.pointer none, .slice none 0 0] 51)) 9 (.string s)
  have hx2 := Boxed.new ((w.alloc (.cells #[.pointer none, .slice none 0 0] 51)).alloc (.cells #[.string s] 9)) 3 (.int .i64 ((4 : Nat) : Int))
  rw [World.size_alloc] at hx1
  rw [World.size_alloc, World.size_alloc] at hx2
  have hx1' := hx1.alloc (.cells #[.int .i64 ((4 : Nat) : Int)] 3)
  have hN : nGrp s 4 ≤ 10 := by unfold nGrp; omega
  have hOW := builder_own w.heap.size w.heap.size (fun pre : List (Grp 4) => Lib.byteCells (decG (pre.map (·.1))))
  refine wpIn_rangeFunc_ownF rfl (by omega) (gf := 42) (lb := #[.pointer (some ⟨w.heap.size + 1, 0, none⟩), .pointer (some ⟨w.heap.size + 1 + 1, 0, none⟩)]) rfl trivial (enters_of Try.func42 (by kernel_rfl) rfl)
    (groups_stops Fence.wide 7 trivial rfl (by omega) (w.heap.size + 1) (w.heap.size + 1 + 1) s (by omega) 4 (by omega) (by omega) _ hx1' hx2)
    (fun h k => ⟨fun x => k.1 (h.1 x), fun x => k.2 (h.2 x)⟩)
    (fun W l o o' _ hl hc _ => ⟨fun x => x.kept (grownBy_putObj' W l o') (fun e => by have e' := Option.some.inj e; rw [← e', show W.heap[_]? = _ from x] at hl; cases hl; cases hc), fun x => x.kept (grownBy_putObj' W l o') (fun e => by have e' := Option.some.inj e; rw [← e', show W.heap[_]? = _ from x] at hl; cases hl; cases hc)⟩)
    (Below.refl _ _) (fun _ => rfl)
    (fun (pre : List (Grp 4)) W => (pre.length ≤ 10 ∧ Lib.IsBuilder 51 5 w.heap.size w.heap.size (Lib.byteCells (decG (pre.map (·.1)))) W) ∧ Below w.heap.size w W)
    (fun _ _ _ => False)
    (OwnFrom.and (OwnFrom.and (ownFrom_pure _ _) (Own.from hOW _)) (ownFrom_below (Nat.le_refl _) (by simp; omega)))
    (fun _ _ _ _ _ hs _ _ => hs)
    ⟨⟨by simp, hOW [] _ _ none (hOW [] _ _ none hbd0 (World.grownBy_alloc _ _ none) (fun r e => by cases e)) (World.grownBy_alloc _ _ none) (fun r e => by cases e)⟩, hB0⟩
    (fun x : Grp 4 => { tmps := #[.string s, undef, .string ⟨#[]⟩, .bool false, .pointer (some ⟨w.heap.size, 0, none⟩), .string x.1, undef, .string s, .int .i64 (s.size : Int), .bool false, .string s, .func (.func 42) #[] #[.pointer (some ⟨w.heap.size + 1, 0, none⟩), .pointer (some ⟨w.heap.size + 1 + 1, 0, none⟩)], .string x.1, undef, undef, undef, undef, undef, undef, undef, undef, undef], defers := [] }) ?assign ?body ?done ?stop
  case assign =>
    intro l x W K hK
    gi_wp2
    exact hK
  case body =>
    rintro l pre x W ⟨⟨hpl, hbd⟩, hB⟩ hlt
    obtain ⟨x, hx1, hx3⟩ := x
    have hpl2 : (Lib.byteCells (decG (pre.map (·.1)))).length ≤ 1000000 := by
      have := decG_len (pre.map (·.1))
      rw [List.length_map] at this
      rw [Lib.byteCells_length]
      omega
    have hBz := hB.size
    have hr3 := rd_len (bl x)
    gi_wp2_with (refine ⟨trivial, ?_⟩; gi_at_call 36; refine (CallsIn.inRound l (callsIn_wide.2 (base64Read_any x _ hx3))).mono ?_; rintro e w1 ⟨rfl, hb1⟩)
    have hbd1 := hOW pre _ _ none hbd (grownOf hb1) (fun r e => by cases e)
    have hB1 := hB.trans (hb1.mono hBz)
    have hBz1 := hB1.size
    have hk1 := keptOf hb1 5 (some w.heap.size)
    gi_wp2_with (refine ⟨trivial, ?_⟩; gi_at_call 35; refine (CallsIn.inRound l (callsIn_wide.2 (writeString_any w.heap.size w.heap.size _ _ _ hbd1 hpl2 (by rw [size_mk, List.size_toArray]; omega) hBz1))).mono ?_; rintro e w2 ⟨rfl, hbd2, hb2, hk2⟩)
    have hk := hk1.trans hk2
    refine ⟨keeps_of hbd ((hb1.mono hBz).trans hb2) hk, ⟨box_kept hk (by omega) (by decide), box_kept hk (by omega) (by decide)⟩, ⟨by rw [List.length_append, List.length_cons, List.length_nil]; omega, ?_⟩, hB1.trans hb2⟩
    rw [List.map_append, List.map_cons, List.map_nil, decG_snoc]
    refine .inr ?_
    have : Lib.byteCells (decG (pre.map (·.1)) ++ rd (bl x)) = Lib.byteCells (decG (pre.map (·.1))) ++ Lib.strCells ⟨(rd (bl x)).toArray⟩ := by
      rw [show Lib.strCells ⟨(rd (bl x)).toArray⟩ = Lib.byteCells (rd (bl x)) from rfl]; simp only [Lib.byteCells, List.map_append]
    rw [this]
    exact hbd2
  case done =>
    rintro D ys W hD rfl ⟨⟨_, hbd⟩, hB⟩ hK
    rw [HEN.out] at hbd
    have hBz := hB.size
    have hDw : w.heap.size < D := by simp at hD; omega
    gi_wp2_with (refine ⟨trivial, ?_⟩; gi_at_call 32; refine (callsIn_wide.2 (Try.Builder_String_any_k w.heap.size w.heap.size _ _ (Lib.IsBuilderF.of hbd) hBz)).mono ?_; rintro e w' ⟨rfl, hbf, hb', hk'⟩)
    have hK' := hk' D _ hK (by simp; omega) (by intro c fz e; cases e)
    have HDY := Lib.hid (dec_yes s hs)
    have HDN := Lib.hid (fun h => dec_no s (dec_not s h))
    generalize rawI (bl s) = t at *
    by_cases he : encL t = bl s
    · have hE : encB ⟨t.toArray⟩ = s := by
        unfold encB
        rw [if_pos (by rw [size_mk, List.size_toArray]; exact HRL.out)]
        exact bl_inj he
      have HD := Lib.hid (HDY.out he)
      clear he
      have hb3 := hB.trans hb'
      have hz3 := hb3.size
      gi_wp2_with (refine ⟨trivial, ?_⟩; gi_at_call 16; refine (callsIn_wide.2 (implEnc_any _ _)).mono ?_; rw [hE]; rintro e w2 ⟨rfl, hb2⟩)
      have hK2 := (hb2.block D (Array.getElem?_eq_some_iff.1 hK').1).trans hK'
      have hb4 := hb3.trans (hb2.mono hz3)
      refine ⟨by simp, .inl ⟨_, _, rfl, run_takeDeferred hK2, ?_⟩⟩
      exact ⟨_, results_tmp2 rfl _ _ _, by rw [HD.out.1, HD.out.2]; rfl, hb4.trans (belowK_b (w := w) (Nat.le_refl _) w2 D _ _ (by omega) hK2 rfl rfl)⟩
    · have HD := Lib.hid (HDN.out he)
      have hne : ((encB ⟨t.toArray⟩).toList == s.toList) = false := by
        rw [beq_eq_false_iff_ne, ByteArray.toList_eq, ByteArray.toList_eq]
        intro e
        refine he ?_
        have := bl_inj e
        unfold encB at this
        rw [if_pos (by rw [size_mk, List.size_toArray]; exact HRL.out)] at this
        exact congrArg bl this
      clear he
      generalize hE : encB ⟨t.toArray⟩ = E at *
      have HE := Lib.hid hE; clear hE
      have hb3 := hB.trans hb'
      have hz3 := hb3.size
      gi_wp2_with (refine ⟨trivial, ?_⟩; gi_at_call 16; refine (callsIn_wide.2 (implEnc_any _ _)).mono ?_; rw [HE.out]; rintro e w2 ⟨rfl, hb2⟩)
      have hK2 := (hb2.block D (Array.getElem?_eq_some_iff.1 hK').1).trans hK'
      have hb4 := hb3.trans (hb2.mono hz3)
      refine ⟨by simp, .inl ⟨_, _, rfl, run_takeDeferred hK2, ?_⟩⟩
      exact ⟨_, results_tmp2 rfl _ _ _, by rw [HD.out.1, HD.out.2]; rfl, hb4.trans (belowK_b (w := w) (Nat.le_refl _) w2 D _ _ (by omega) hK2 rfl rfl)⟩
  case stop =>
    rintro D c pre W _ _ h _
    exact h.elim

theorem implDec_any (s : ByteArray) (w : World) (hs : s.size ≤ 2000000) :
    Calls Try.prog 19 #[.string s] w fun e w' => e = .returned (.tuple #[.string (decB s), .bool (decOk s)]) ∧ Below w.heap.size w w' := by
  by_cases h : s.size ≤ 40
  · exact implDec_short s w h
  · have hi : (40 : Int) < (s.size : Int) := by omega
    obtain ⟨h1, h2⟩ := dec_no s (dec_none_long (by rw [bl_length]; omega))
    rw [h1, h2]
    clear h1 h2
    go_enter Try.func19, Try.ntmps19
    go_wp2_with fail
    go_ret2
    exact ⟨rfl, Below.refl _ _⟩

end Go.Proofs.Ytpefhkdpfcbhkaa
