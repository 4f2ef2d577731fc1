/- Flags: the invalid ways, the program's functions. -/
import Derived.Test.YtcfobnmbgnobcaaFlags2
namespace Go.Proofs.Ytcfobnmbgnobcaa
open Go.RowKit
set_option linter.unusedVariables false

/-- Are the arguments of a change valid? -/
def howB (how : Int) : Bool := decide ((-1 : Int) ≤ how) && decide (how ≤ 1)
theorem howB_yes {how : Int} (h : howB how = true) : how = 1 ∨ how = 0 ∨ how = -1 := by simp [howB] at h; omega
theorem howB_no {how : Int} (h : howB how = false) : (how == 1) = false ∧ (how == 0) = false ∧ (how == -1) = false := by
  simp [howB] at h
  refine ⟨?_, ?_, ?_⟩ <;> (rw [beq_eq_false_iff_ne]; intro e; subst e; omega)
def chgR (f how o : Int) : Int := if flB f && flB o && howB how then chgTo how f o 5 else -1

set_option maxHeartbeats 1000000 in
theorem specFC_any (f how o : Int) (w : World) :
    Calls Try.prog 9 #[.int .i64 f, .int .i64 how, .int .i64 o] w fun e w' => e = .returned (.int .i64 (chgR f how o)) ∧ Below w.heap.size w w' := by
  cases hv : flB f
  · have HV := Lib.hid hv
    have HR := Lib.hid (show chgR f how o = -1 by simp [chgR, hv]); clear hv
    rw [HR.out]
    go_enter Try.func9, Try.ntmps9
    go_wp2_with fail
    refine (l4Flags_any f _).mono ?_
    rw [HV.out]; rintro e w1 ⟨rfl, rfl⟩
    go_wp2_with fail
    go_ret
    exact ⟨rfl, Below.refl _ _⟩
  cases hv' : flB o
  · have HV := Lib.hid hv
    have HV' := Lib.hid hv'
    have HR := Lib.hid (show chgR f how o = -1 by simp [chgR, hv']); clear hv hv'
    rw [HR.out]
    go_enter Try.func9, Try.ntmps9
    go_wp2_with fail
    refine (l4Flags_any f _).mono ?_
    rw [HV.out]; rintro e w1 ⟨rfl, rfl⟩
    go_wp2_with fail
    refine (l4Flags_any o _).mono ?_
    rw [HV'.out]; rintro e w1 ⟨rfl, rfl⟩
    go_wp2_with fail
    go_ret
    exact ⟨rfl, Below.refl _ _⟩
  cases hh : howB how
  · have HV := Lib.hid hv
    have HV' := Lib.hid hv'
    have HH := Lib.hid hh
    have HR := Lib.hid (show chgR f how o = -1 by simp [chgR, hh]); clear hv hv' hh
    rw [HR.out]
    go_enter Try.func9, Try.ntmps9
    go_wp2_with fail
    refine (l4Flags_any f _).mono ?_
    rw [HV.out]; rintro e w1 ⟨rfl, rfl⟩
    go_wp2_with fail
    refine (l4Flags_any o _).mono ?_
    rw [HV'.out]; rintro e w1 ⟨rfl, rfl⟩
    go_wp2_with fail
    refine (l6In_any how _ _ _).mono ?_
    rw [show (decide ((-1 : Int) ≤ how) && decide (how ≤ 1)) = false from HH.out]; rintro e w1 ⟨rfl, rfl⟩
    go_wp2_with fail
    go_ret
    exact ⟨rfl, Below.refl _ _⟩
  · rw [show chgR f how o = chgTo how f o 5 by simp [chgR, hv, hv', hh]]
    exact specChange_any f how o w hv hv' (howB_yes hh)

theorem or_at (f o : Int) (hv : flB f = true) (hv' : flB o = true) : bits .or .i64 f o = chgTo 1 f o 5 := by
  simp [flB] at hv hv'
  obtain ⟨F, rfl⟩ := Int.eq_ofNat_of_zero_le hv.1
  obtain ⟨O, rfl⟩ := Int.eq_ofNat_of_zero_le hv'.1
  rw [i64_or_nat F O (by omega) (by omega)]
  exact (chg_or ⟨F, by omega⟩ ⟨O, by omega⟩).symm
theorem off_at (f o : Int) (hv : flB f = true) (hv' : flB o = true) : bits .andNot .i64 f o = chgTo (-1) f o 5 := by
  simp [flB] at hv hv'
  obtain ⟨F, rfl⟩ := Int.eq_ofNat_of_zero_le hv.1
  obtain ⟨O, rfl⟩ := Int.eq_ofNat_of_zero_le hv'.1
  exact (chg_off ⟨F, by omega⟩ ⟨O, by omega⟩).symm
theorem put_at (f o : Int) (hv : flB f = true) (hv' : flB o = true) : o = chgTo 0 f o 5 := by
  simp [flB] at hv hv'
  obtain ⟨F, rfl⟩ := Int.eq_ofNat_of_zero_le hv.1
  obtain ⟨O, rfl⟩ := Int.eq_ofNat_of_zero_le hv'.1
  exact (chg_put ⟨F, by omega⟩ ⟨O, by omega⟩).symm
theorem and_at (f o : Int) (hv : flB f = true) (hv' : flB o = true) : (bits .and .i64 f o == o) = (chgTo 1 f o 5 == f) := by
  simp [flB] at hv hv'
  obtain ⟨F, rfl⟩ := Int.eq_ofNat_of_zero_le hv.1
  obtain ⟨O, rfl⟩ := Int.eq_ofNat_of_zero_le hv'.1
  rw [i64_and_nat F O (by omega) (by omega)]
  exact (have_and ⟨F, by omega⟩ ⟨O, by omega⟩).symm

/-- flagsChanger: which function it hands out. -/
theorem changer_nil (how o : Int) (w : World) (n1 : (how == 1) = false) (n2 : (how == 0) = false) (n3 : (how == -1) = false) :
    Calls Try.prog 16 #[.int .i64 how, .int .i64 o] w fun e w' => e = .returned .nilFunc ∧ w.alloc (.cells #[.int .i64 o] 3) = w' := by
  go_enter Try.func16, Try.ntmps16
  go_wp2
  go_ret
  exact ⟨rfl, rfl⟩
theorem changer_or (o : Int) (w : World) :
    Calls Try.prog 16 #[.int .i64 1, .int .i64 o] w fun e w' => e = .returned (.func (.func 21) #[] #[.pointer (some ⟨w.heap.size, 0, none⟩)]) ∧ w.alloc (.cells #[.int .i64 o] 3) = w' := by
  go_enter Try.func16, Try.ntmps16
  go_wp2
  go_ret
  exact ⟨rfl, rfl⟩
theorem changer_put (o : Int) (w : World) :
    Calls Try.prog 16 #[.int .i64 0, .int .i64 o] w fun e w' => e = .returned (.func (.func 22) #[] #[.pointer (some ⟨w.heap.size, 0, none⟩)]) ∧ w.alloc (.cells #[.int .i64 o] 3) = w' := by
  go_enter Try.func16, Try.ntmps16
  go_wp2
  go_ret
  exact ⟨rfl, rfl⟩
theorem changer_off (o : Int) (w : World) :
    Calls Try.prog 16 #[.int .i64 (-1), .int .i64 o] w fun e w' => e = .returned (.func (.func 23) #[] #[.pointer (some ⟨w.heap.size, 0, none⟩)]) ∧ w.alloc (.cells #[.int .i64 o] 3) = w' := by
  go_enter Try.func16, Try.ntmps16
  go_wp2
  go_ret
  exact ⟨rfl, rfl⟩
/-- The three changes. -/
theorem change1_any (f o : Int) (b : Nat) (w : World) (hc : w.cell? ⟨b, 0, none⟩ = some (.int .i64 o)) :
    Calls Try.prog 21 #[.int .i64 f, .pointer (some ⟨b, 0, none⟩)] w fun e w' => e = .returned (.int .i64 (bits .or .i64 f o)) ∧ w = w' := by
  go_enter Try.func21, Try.ntmps21
  go_wp2
  go_ret
  exact ⟨rfl, rfl⟩
theorem change2_any (f o : Int) (b : Nat) (w : World) (hc : w.cell? ⟨b, 0, none⟩ = some (.int .i64 o)) :
    Calls Try.prog 22 #[.int .i64 f, .pointer (some ⟨b, 0, none⟩)] w fun e w' => e = .returned (.int .i64 o) ∧ w = w' := by
  go_enter Try.func22, Try.ntmps22
  go_wp2
  go_ret
  exact ⟨rfl, rfl⟩
theorem change3_any (f o : Int) (b : Nat) (w : World) (hc : w.cell? ⟨b, 0, none⟩ = some (.int .i64 o)) :
    Calls Try.prog 23 #[.int .i64 f, .pointer (some ⟨b, 0, none⟩)] w fun e w' => e = .returned (.int .i64 (bits .andNot .i64 f o)) ∧ w = w' := by
  go_enter Try.func23, Try.ntmps23
  go_wp2
  go_ret
  exact ⟨rfl, rfl⟩
theorem eqNil_nil (w : World) : Sem.run Try.prog (binOp BinOp.eql 31 Value.nilFunc Value.nilFunc) w = .ok (.bool true) w := by kernel_rfl
theorem eqNil_func (fn : Fn) (a c : Array Value) (w : World) : Sem.run Try.prog (binOp BinOp.eql 31 (Value.func fn a c) Value.nilFunc) w = .ok (.bool false) w := by kernel_rfl
theorem cell_at {w : World} {b : Nat} {cs : Array Value} {t : TypeId} {fz : Nat × Nat} (h : w.heap[b]? = some (.cells cs t fz)) (i : Nat) : w.cell? ⟨b, i, none⟩ = cs[i]? := by
  simp [World.cell?, h]
theorem new_cell (w : World) (v : Value) (t : TypeId) : (w.alloc (.cells #[v] t)).cell? ⟨w.heap.size, 0, none⟩ = some v := by
  have hb : (w.alloc (.cells #[v] t)).heap[w.heap.size]? = some (.cells #[v] t) := by
    show (w.heap.push _)[w.heap.size]? = _
    simp
  exact (cell_at hb 0).trans rfl

set_option maxHeartbeats 2000000 in
theorem implFC_bad (f how o : Int) (w : World) (hh : howB how = false) :
    Calls Try.prog 10 #[.int .i64 f, .int .i64 how, .int .i64 o] w fun e w' => e = .returned (.int .i64 (-1)) ∧ Below w.heap.size w w' := by
  obtain ⟨n1, n2, n3⟩ := howB_no hh
  clear hh
  have hrun := eqNil_nil
  have HN1 := Lib.hid n1; have HN2 := Lib.hid n2; have HN3 := Lib.hid n3; clear n1 n2 n3
  go_enter Try.func10, Try.ntmps10
  go_wp2_with fail
  refine (changer_nil how o _ HN1.out HN2.out HN3.out).mono ?_
  rintro e w1 ⟨rfl, rfl⟩
  go_wp2_with fail
  go_ret
  exact ⟨rfl, (Below.refl _ _).alloc (Nat.le_refl _) _⟩

set_option maxHeartbeats 2000000 in
theorem implFC_or (f o : Int) (w : World) :
    Calls Try.prog 10 #[.int .i64 f, .int .i64 1, .int .i64 o] w fun e w' => e = .returned (.int .i64 (if flB f && flB o then chgTo 1 f o 5 else -1)) ∧ Below w.heap.size w w' := by
  have hrun := fun fn a c w => eqNil_func fn a c w
  cases hv : flB f
  · have HV := Lib.hid hv; clear hv
    rw [show ∀ a b : Int, (if (false && flB o) = true then a else b) = b from fun _ _ => by simp]
    go_enter Try.func10, Try.ntmps10
    go_wp2_with fail
    refine (changer_or o _).mono ?_
    rintro e w1 ⟨rfl, rfl⟩
    go_wp2_with fail
    refine (flagsValid_any f _).mono ?_
    rw [HV.out]; rintro e w1 ⟨rfl, rfl⟩
    go_wp2_with fail
    go_ret
    exact ⟨rfl, (Below.refl _ _).alloc (Nat.le_refl _) _⟩
  · cases hv' : flB o
    · have HV := Lib.hid hv; have HV' := Lib.hid hv'; clear hv hv'
      rw [show ∀ a b : Int, (if (true && false) = true then a else b) = b from fun _ _ => by simp]
      go_enter Try.func10, Try.ntmps10
      go_wp2_with fail
      refine (changer_or o _).mono ?_
      rintro e w1 ⟨rfl, rfl⟩
      go_wp2_with fail
      refine (flagsValid_any f _).mono ?_
      rw [HV.out]; rintro e w1 ⟨rfl, rfl⟩
      go_wp2_with fail
      refine (flagsValid_any o _).mono ?_
      rw [HV'.out]; rintro e w1 ⟨rfl, rfl⟩
      go_wp2_with fail
      go_ret
      exact ⟨rfl, (Below.refl _ _).alloc (Nat.le_refl _) _⟩
    · have HE := Lib.hid (or_at f o hv hv')
      have HV := Lib.hid hv; have HV' := Lib.hid hv'; clear hv hv'
      rw [show ∀ a b : Int, (if (true && true) = true then a else b) = a from fun _ _ => by simp]
      go_enter Try.func10, Try.ntmps10
      go_wp2_with fail
      refine (changer_or o _).mono ?_
      rintro e w1 ⟨rfl, rfl⟩
      go_wp2_with fail
      refine (flagsValid_any f _).mono ?_
      rw [HV.out]; rintro e w1 ⟨rfl, rfl⟩
      go_wp2_with fail
      refine (flagsValid_any o _).mono ?_
      rw [HV'.out]; rintro e w1 ⟨rfl, rfl⟩
      go_wp2_with fail
      refine (change1_any f o w.heap.size _ (new_cell w _ _)).mono ?_
      rintro e w1 ⟨rfl, rfl⟩
      go_wp2_with fail
      go_ret
      exact ⟨congrArg (fun x : Int => Ending.returned (.int .i64 x)) HE.out, (Below.refl _ _).alloc (Nat.le_refl _) _⟩

set_option maxHeartbeats 2000000 in
theorem implFC_put (f o : Int) (w : World) :
    Calls Try.prog 10 #[.int .i64 f, .int .i64 0, .int .i64 o] w fun e w' => e = .returned (.int .i64 (if flB f && flB o then chgTo 0 f o 5 else -1)) ∧ Below w.heap.size w w' := by
  have hrun := fun fn a c w => eqNil_func fn a c w
  cases hv : flB f
  · have HV := Lib.hid hv; clear hv
    rw [show ∀ a b : Int, (if (false && flB o) = true then a else b) = b from fun _ _ => by simp]
    go_enter Try.func10, Try.ntmps10
    go_wp2_with fail
    refine (changer_put o _).mono ?_
    rintro e w1 ⟨rfl, rfl⟩
    go_wp2_with fail
    refine (flagsValid_any f _).mono ?_
    rw [HV.out]; rintro e w1 ⟨rfl, rfl⟩
    go_wp2_with fail
    go_ret
    exact ⟨rfl, (Below.refl _ _).alloc (Nat.le_refl _) _⟩
  · cases hv' : flB o
    · have HV := Lib.hid hv; have HV' := Lib.hid hv'; clear hv hv'
      rw [show ∀ a b : Int, (if (true && false) = true then a else b) = b from fun _ _ => by simp]
      go_enter Try.func10, Try.ntmps10
      go_wp2_with fail
      refine (changer_put o _).mono ?_
      rintro e w1 ⟨rfl, rfl⟩
      go_wp2_with fail
      refine (flagsValid_any f _).mono ?_
      rw [HV.out]; rintro e w1 ⟨rfl, rfl⟩
      go_wp2_with fail
      refine (flagsValid_any o _).mono ?_
      rw [HV'.out]; rintro e w1 ⟨rfl, rfl⟩
      go_wp2_with fail
      go_ret
      exact ⟨rfl, (Below.refl _ _).alloc (Nat.le_refl _) _⟩
    · have HE := Lib.hid (put_at f o hv hv')
      have HV := Lib.hid hv; have HV' := Lib.hid hv'; clear hv hv'
      rw [show ∀ a b : Int, (if (true && true) = true then a else b) = a from fun _ _ => by simp]
      go_enter Try.func10, Try.ntmps10
      go_wp2_with fail
      refine (changer_put o _).mono ?_
      rintro e w1 ⟨rfl, rfl⟩
      go_wp2_with fail
      refine (flagsValid_any f _).mono ?_
      rw [HV.out]; rintro e w1 ⟨rfl, rfl⟩
      go_wp2_with fail
      refine (flagsValid_any o _).mono ?_
      rw [HV'.out]; rintro e w1 ⟨rfl, rfl⟩
      go_wp2_with fail
      refine (change2_any f o w.heap.size _ (new_cell w _ _)).mono ?_
      rintro e w1 ⟨rfl, rfl⟩
      go_wp2_with fail
      go_ret
      exact ⟨congrArg (fun x : Int => Ending.returned (.int .i64 x)) HE.out, (Below.refl _ _).alloc (Nat.le_refl _) _⟩

set_option maxHeartbeats 2000000 in
theorem implFC_off (f o : Int) (w : World) :
    Calls Try.prog 10 #[.int .i64 f, .int .i64 (-1), .int .i64 o] w fun e w' => e = .returned (.int .i64 (if flB f && flB o then chgTo (-1) f o 5 else -1)) ∧ Below w.heap.size w w' := by
  have hrun := fun fn a c w => eqNil_func fn a c w
  cases hv : flB f
  · have HV := Lib.hid hv; clear hv
    rw [show ∀ a b : Int, (if (false && flB o) = true then a else b) = b from fun _ _ => by simp]
    go_enter Try.func10, Try.ntmps10
    go_wp2_with fail
    refine (changer_off o _).mono ?_
    rintro e w1 ⟨rfl, rfl⟩
    go_wp2_with fail
    refine (flagsValid_any f _).mono ?_
    rw [HV.out]; rintro e w1 ⟨rfl, rfl⟩
    go_wp2_with fail
    go_ret
    exact ⟨rfl, (Below.refl _ _).alloc (Nat.le_refl _) _⟩
  · cases hv' : flB o
    · have HV := Lib.hid hv; have HV' := Lib.hid hv'; clear hv hv'
      rw [show ∀ a b : Int, (if (true && false) = true then a else b) = b from fun _ _ => by simp]
      go_enter Try.func10, Try.ntmps10
      go_wp2_with fail
      refine (changer_off o _).mono ?_
      rintro e w1 ⟨rfl, rfl⟩
      go_wp2_with fail
      refine (flagsValid_any f _).mono ?_
      rw [HV.out]; rintro e w1 ⟨rfl, rfl⟩
      go_wp2_with fail
      refine (flagsValid_any o _).mono ?_
      rw [HV'.out]; rintro e w1 ⟨rfl, rfl⟩
      go_wp2_with fail
      go_ret
      exact ⟨rfl, (Below.refl _ _).alloc (Nat.le_refl _) _⟩
    · have HE := Lib.hid (off_at f o hv hv')
      have HV := Lib.hid hv; have HV' := Lib.hid hv'; clear hv hv'
      rw [show ∀ a b : Int, (if (true && true) = true then a else b) = a from fun _ _ => by simp]
      go_enter Try.func10, Try.ntmps10
      go_wp2_with fail
      refine (changer_off o _).mono ?_
      rintro e w1 ⟨rfl, rfl⟩
      go_wp2_with fail
      refine (flagsValid_any f _).mono ?_
      rw [HV.out]; rintro e w1 ⟨rfl, rfl⟩
      go_wp2_with fail
      refine (flagsValid_any o _).mono ?_
      rw [HV'.out]; rintro e w1 ⟨rfl, rfl⟩
      go_wp2_with fail
      refine (change3_any f o w.heap.size _ (new_cell w _ _)).mono ?_
      rintro e w1 ⟨rfl, rfl⟩
      go_wp2_with fail
      go_ret
      exact ⟨congrArg (fun x : Int => Ending.returned (.int .i64 x)) HE.out, (Below.refl _ _).alloc (Nat.le_refl _) _⟩

theorem implFC_any (f how o : Int) (w : World) :
    Calls Try.prog 10 #[.int .i64 f, .int .i64 how, .int .i64 o] w fun e w' => e = .returned (.int .i64 (chgR f how o)) ∧ Below w.heap.size w w' := by
  cases hh : howB how
  · rw [show chgR f how o = -1 by simp [chgR, hh]]
    exact implFC_bad f how o w hh
  · rw [show chgR f how o = if flB f && flB o then chgTo how f o 5 else -1 by simp [chgR, hh]]
    rcases howB_yes hh with rfl | rfl | rfl
    · exact implFC_or f o w
    · exact implFC_put f o w
    · exact implFC_off f o w

end Go.Proofs.Ytcfobnmbgnobcaa
