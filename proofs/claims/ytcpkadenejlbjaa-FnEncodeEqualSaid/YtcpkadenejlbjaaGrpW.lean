/- Contracts: base64Groups and what it yields. -/
import Derived.RangeFuncNested
import Derived.RangeFuncBound
import Derived.RangeFuncCalls
import Derived.RangeFuncLeaves
import Derived.Shelf.Abstract
import Derived.Shelf.RegionOpen
import Derived.WalkKit
import Derived.OwnWalkIn
import Derived.TacticsInMore
import Derived.LoopNIn
import Derived.LoopIn
import Derived.RangeFuncBox
import Derived.Test.YtcpkadenejlbjaaEncW
namespace Go.Proofs.Ytcpkadenejlbjaa
open Go.RowKit Go.Shelf
attribute [local go_sem] Oper.semAt_some
set_option linter.unusedVariables false

/-- The j-th group of k bytes. -/
def grpB (s : ByteArray) (k j : Nat) : ByteArray := s.extract (k * j) (min (k * j + k) s.size)
def grpsB (s : ByteArray) (k m : Nat) : List ByteArray := (List.range m).map (grpB s k)
theorem grpsB_succ (s : ByteArray) (k m : Nat) : grpsB s k (m + 1) = grpsB s k m ++ [grpB s k m] := by simp [grpsB, List.range_succ]
/-- A group of one to k bytes. -/
abbrev Grp (k : Nat) : Type := { x : ByteArray // 1 ≤ x.size ∧ x.size ≤ k }
theorem grpB_ok (s : ByteArray) (k j : Nat) (hk : 1 ≤ k) (h : k * j < s.size) : 1 ≤ (grpB s k j).size ∧ (grpB s k j).size ≤ k := by
  unfold grpB; simp; omega
/-- The first m groups. -/
def grpsG (s : ByteArray) (k : Nat) (hk : 1 ≤ k) : Nat → List (Grp k)
  | 0 => []
  | j + 1 => if h : k * j < s.size then grpsG s k hk j ++ [⟨grpB s k j, grpB_ok s k j hk h⟩] else grpsG s k hk j
theorem grpsG_succ (s : ByteArray) (k : Nat) (hk : 1 ≤ k) (j : Nat) (h : k * j < s.size) : grpsG s k hk (j + 1) = grpsG s k hk j ++ [⟨grpB s k j, grpB_ok s k j hk h⟩] := dif_pos h
/-- How many groups. -/
def nGrp (s : ByteArray) (k : Nat) : Nat := (s.size + k - 1) / k

theorem nGrp_iff (s : ByteArray) (k j : Nat) (hk : 1 ≤ k) : j < nGrp s k ↔ k * j < s.size := by
  unfold nGrp
  rw [Nat.lt_iff_add_one_le, Nat.le_div_iff_mul_le (by omega), Nat.add_mul, Nat.one_mul, Nat.mul_comm j k]
  omega
theorem grpsG_map (s : ByteArray) (k : Nat) (hk : 1 ≤ k) (m : Nat) (h : m ≤ nGrp s k) : (grpsG s k hk m).map (·.1) = grpsB s k m := by
  induction m with
  | zero => rfl
  | succ m ih =>
    rw [grpsG_succ s k hk m ((nGrp_iff s k m hk).1 (by omega)), grpsB_succ, List.map_append, ih (by omega)]; rfl
theorem groups_make (s : ByteArray) (k : Int) (w : World) :
    Calls Try.prog 19 #[.string s, .int .i64 k] w fun e w' => e = .returned (.func (.func 29) #[] #[.pointer (some ⟨w.heap.size, 0, none⟩), .pointer (some ⟨w.heap.size + 1, 0, none⟩)]) ∧ w' = (w.alloc (.cells #[.string s] 9)).alloc (.cells #[.int .i64 k] 3) := by
  go_enter Try.func19, Try.ntmps19
  go_wp2_with fail
  go_ret
  exact ⟨rfl, rfl⟩

/-- What a round keeps: the text and the size. -/
def KpB (s : ByteArray) (k q1 q2 : Nat) (W W' : World) : Prop := (Boxed W q1 9 (.string s) → Boxed W' q1 9 (.string s)) ∧ (Boxed W q2 3 (.int .i64 k) → Boxed W' q2 3 (.int .i64 k))

set_option maxRecDepth 100000 in
set_option maxHeartbeats 2000000 in
theorem groups1_in (F : Fence) (n : Nat) (hF : F.fn 29) (hro : F.round = none) (hn : 1 ≤ n) (l q1 q2 : Nat) (s : ByteArray) (hs : s.size ≤ 1000) (k : Nat) (hk1 : 1 ≤ k) (hk2 : k ≤ 10) (J Jx : List (Grp k) → World → Prop)
    (hY : ∀ pre x W, J pre W → pre.length < nGrp s k → YieldAt F (n - 1) Try.prog l #[.string x.1] W fun e W' =>
      (e = .returned (.bool true) ∧ J (pre ++ [x]) W' ∧ KpB s k q1 q2 W W') ∨ (e = .returned (.bool false) ∧ Jx (pre ++ [x]) W'))
    (W : World) (hb1 : Boxed W q1 9 (.string s)) (hb2 : Boxed W q2 3 (.int .i64 k)) (h0 : J [] W) :
    CallsIn F n Try.prog 29 #[.func (.yield l) #[] #[], .pointer (some ⟨q1, 0, none⟩), .pointer (some ⟨q2, 0, none⟩)] W fun e W' => (∃ v, e = .returned v) ∧
      ((∃ ys, ys = grpsG s k hk1 (nGrp s k) ∧ J ys W') ∨ (∃ pre, True ∧ Jx pre W')) := by
  refine callsIn_of_wp Try.func29 rfl hF ?_ hro
  simp only [Try.ntmps29, List.size_toArray, List.length_cons, List.length_nil, Nat.reduceAdd, Nat.reduceSub, Array.replicate_succ, Array.replicate_zero, List.push_toArray, List.append_toArray, List.nil_append, List.cons_append]
  gi_wp2
  gi_loopw [4] (fun p wr => ∃ j : Nat, j ≤ nGrp s k ∧ p = .int .i64 ((k * j : Nat) : Int) ∧ J (grpsG s k hk1 j) wr ∧ Boxed wr q1 9 (.string s) ∧ Boxed wr q2 3 (.int .i64 k))
    (fun p wr => s.size + 20 - (intOf p).toNat)
  case atStart => exact ⟨0, Nat.zero_le _, rfl, h0, hb1, hb2⟩
  case round =>
    obtain ⟨j, hj, rfl, hJ, b1, b2⟩ := hrel
    have HJ := Lib.hid hJ; clear hJ
    have c1 := b1.cell
    have c2 := b2.cell
    have B1 := Lib.hid b1; clear b1
    have B2 := Lib.hid b2; clear b2
    have HNG := Lib.hid (nGrp_iff s k j hk1)
    have HKJ := Lib.hid (show k * (j + 1) = k * j + k from Nat.mul_succ k j)
    have hpl : (grpsG s k hk1 j).length = j := by
      have := congrArg List.length (grpsG_map s k hk1 j hj)
      simpa [grpsB] using this
    have HPL := Lib.hid hpl; clear hpl
    by_cases hlt : k * j < s.size
    · have hjl : j < nGrp s k := HNG.out.2 hlt
      have HSU := Lib.hid (grpsG_succ s k hk1 j hlt)
      obtain ⟨X, hX⟩ : ∃ X : Grp k, X = ⟨grpB s k j, grpB_ok s k j hk1 hlt⟩ := ⟨_, rfl⟩
      have HX1 := Lib.hid (show X.1 = s.extract (k * j) (min (k * j + k) s.size) by rw [hX]; rfl)
      rw [← hX] at HSU
      clear hX
      have hyv := hY _ X wr HJ.out (by rw [HPL.out]; exact hjl)
      rw [HX1.out] at hyv
      clear HX1
      generalize k * j = t at *
      have hi : (t : Int) < (s.size : Int) := by omega
      have hif : (if (s.size : Int) < (t : Int) + (k : Int) then (s.size : Int) else (t : Int) + (k : Int)) = ((min (t + k) s.size : Nat) : Int) := by split <;> omega
      have hmin : min ((t : Int) + (k : Int)) (s.size : Int) = ((min (t + k) s.size : Nat) : Int) := by omega
      have hm1 : t ≤ min (t + k) s.size := by omega
      have hm2 : min (t + k) s.size ≤ s.size := by omega
      obtain ⟨fn, tmps, assign, body, hy, hR⟩ := hyv
      generalize min (t + k) s.size = u at *
      have hm1' : (t : Int) ≤ (u : Int) := by omega
      have hm2' : (u : Int) ≤ (s.size : Int) := by omega
      gi_wp2
      refine hR.mono ?_
      rintro e W3 (⟨rfl, hJ3, hk3⟩ | ⟨rfl, hJx3⟩)
      · have b1' := hk3.1 B1.out
        have b2' := hk3.2 B2.out
        clear c1 c2
        have c1 := b1'.cell
        have c2 := b2'.cell
        gi_wp2
        go_roundw
        case rel => exact ⟨j + 1, by omega, by rw [HKJ.out]; go_num, by rw [HSU.out]; exact hJ3, b1', b2'⟩
        case measure => simp [intOf]; omega
      · gi_wp2
        refine bodyPost_ret (results_none rfl _ _ _) rfl ?_
        exact ⟨⟨_, rfl⟩, .inr ⟨_, trivial, hJx3⟩⟩
    · have hi : ¬ ((k * j : Nat) : Int) < (s.size : Int) := by omega
      obtain rfl : j = nGrp s k := by
        have := mt HNG.out.1 hlt
        omega
      gi_wp2
      go_end0
      exact ⟨⟨_, rfl⟩, .inl HJ.out⟩

theorem groups_stops (F : Fence) (n : Nat) (hF : F.fn 29) (hro : F.round = none) (hn : 1 ≤ n) (q1 q2 : Nat) (s : ByteArray) (hs : s.size ≤ 1000) (k : Nat) (hk1 : 1 ≤ k) (hk2 : k ≤ 10) (w : World) (hb1 : Boxed w q1 9 (.string s)) (hb2 : Boxed w q2 3 (.int .i64 k)) :
    SeqStopsK F n Try.prog 29 #[.pointer (some ⟨q1, 0, none⟩), .pointer (some ⟨q2, 0, none⟩)] (fun x : Grp k => #[.string x.1]) (KpB s k q1 q2) (fun ys => ys = grpsG s k hk1 (nGrp s k)) (fun _ => True) (nGrp s k) w := by
  intro l J Jx W hB _ _ hY h0
  exact groups1_in F n hF hro hn l q1 q2 s hs k hk1 hk2 J Jx hY W ((hB.block q1 hb1.lt).trans hb1) ((hB.block q2 hb2.lt).trans hb2) h0

end Go.Proofs.Ytcpkadenejlbjaa
