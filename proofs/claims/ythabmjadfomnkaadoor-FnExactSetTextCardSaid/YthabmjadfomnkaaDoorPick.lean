/- Contracts of the reader: l6Open, pick. -/
import Derived.Test.YthabmjadfomnkaaDoorPlainR
import Derived.Test.YthabmjadfomnkaaDoorPlainBits
import Derived.WalkKit
import Derived.WalkSpells
import Derived.WalkLawsBesides
import Derived.Deep.QuietTactic
import Derived.BigQuiet
import Derived.Lib.Hide
import Derived.Deep.LoopGhost
namespace Go.Proofs.YthabmjadfomnkaaDoor
open Go.RowKit
set_option linter.unusedVariables false

set_option maxHeartbeats 1000000 in
theorem pick_empty (b m cap p : Nat) (a : Option Addr) (n : Int) (w : World) (h1 : 1 ≤ n) (hp : p ≤ 1000000) (ht : Two w b 60 (.slice a 0 cap) (.int .i64 p)) :
    Calls Tryd.prog 26 #[.pointer (some ⟨b, 0, none⟩), .int .i64 n] w fun e w' => e = .returned (.int .i64 0) ∧ w' = w.setCell ⟨b, 1, none⟩ (.int .i64 (p + 1 : Nat)) := by
  have c0 := ht.c0
  have c1 := ht.c1
  have f1 := ht.f1
  have HT := Lib.hid ht; clear ht
  go_enter Tryd.func26, Tryd.ntmps26
  go_wp2
  go_ret
  exact ⟨rfl, rfl⟩

set_option maxHeartbeats 1000000 in
theorem pick_in (b m len cap p blk off : Nat) (z : Nat) (n : Int) (w : World) (h1 : 1 ≤ n) (hp : p ≤ 1000000) (hlt : p < len) (hz : z ≤ 255) (hb : blk < b) (ht : Two w b 60 (.slice (some ⟨blk, off, none⟩) len cap) (.int .i64 p))
    (hc : w.cell? ⟨blk, off + p, none⟩ = some (.int .u8 z)) :
    Calls Tryd.prog 26 #[.pointer (some ⟨b, 0, none⟩), .int .i64 n] w fun e w' => e = .returned (.int .i64 ((z : Int) % n)) ∧ w' = w.setCell ⟨b, 1, none⟩ (.int .i64 (p + 1 : Nat)) := by
  have c0 := ht.c0
  have c1 := ht.c1
  have f1 := ht.f1
  have HT := Lib.hid ht; clear ht
  have hl0 : ((len : Int) == 0) = false := by simp; omega
  have hi : (p : Int) < (len : Int) := by omega
  go_enter Tryd.func26, Tryd.ntmps26
  go_wp2
  go_ret
  exact ⟨rfl, rfl⟩

set_option maxHeartbeats 2000000 in
theorem pick_out (b m len cap p blk off : Nat) (z y : Nat) (n : Int) (w : World) (h1 : 1 ≤ n) (hp : p ≤ 1000000) (hl0 : 0 < len) (hlt : len ≤ p) (hz : z ≤ 255) (hy : y ≤ 255) (hb : blk < b) (ht : Two w b 60 (.slice (some ⟨blk, off, none⟩) len cap) (.int .i64 p))
    (hc : w.cell? ⟨blk, off + p % len, none⟩ = some (.int .u8 z)) (hd : w.cell? ⟨blk, off + (p * 7 + 3) % len, none⟩ = some (.int .u8 y)) :
    Calls Tryd.prog 26 #[.pointer (some ⟨b, 0, none⟩), .int .i64 n] w fun e w' => ∃ r : Int, 0 ≤ r ∧ r < n ∧ e = .returned (.int .i64 r) ∧ KeepB b w w' ∧ Two w' b 60 (.slice (some ⟨blk, off, none⟩) len cap) (.int .i64 (p + 1 : Nat)) := by
  have c0 := ht.c0
  have c1 := ht.c1
  have f1 := ht.f1
  have HT := Lib.hid ht; clear ht
  have hl0 : ((len : Int) == 0) = false := by simp; omega
  have hi : ¬ (p : Int) < (len : Int) := by omega
  go_enter Tryd.func26, Tryd.ntmps26
  go_wp2_with fail
  have k0 : (w.setCell ⟨b, 1, none⟩ (.int .i64 ((p : Int) + 1))).cell? ⟨b, 0, none⟩ = some (.slice (some ⟨blk, off, none⟩) len cap) := (HT.out.set1 _).c0
  have kc : (w.setCell ⟨b, 1, none⟩ (.int .i64 ((p : Int) + 1))).cell? ⟨blk, off + p % len, none⟩ = some (.int .u8 z) := World.grownBy.cell ((KeepB.refl b w).setCell 1 _) hc (by simp; omega)
  have kd : (w.setCell ⟨b, 1, none⟩ (.int .i64 ((p : Int) + 1))).cell? ⟨blk, off + (p * 7 + 3) % len, none⟩ = some (.int .u8 y) := World.grownBy.cell ((KeepB.refl b w).setCell 1 _) hd (by simp; omega)
  have kk : KeepB b w (w.setCell ⟨b, 1, none⟩ (.int .i64 ((p : Int) + 1))) := (KeepB.refl b w).setCell 1 _
  have KT := Lib.hid (HT.out.set1 (.int .i64 ((p : Int) + 1)))
  generalize w.setCell ⟨b, 1, none⟩ (.int .i64 ((p : Int) + 1)) = W at k0 kc kd kk KT ⊢
  clear c0 c1 f1 hc hd
  have t1 : (p : Int).tmod (len : Int) = (p : Int) % (len : Int) := Int.tmod_eq_emod_of_nonneg (by omega)
  have b1 : 0 ≤ (p : Int) % (len : Int) := Int.emod_nonneg _ (by omega)
  have b2 : (p : Int) % (len : Int) < (len : Int) := Int.emod_lt_of_pos _ (by omega)
  have n1 : ((p : Int) % (len : Int)).toNat = p % len := by omega
  have b3 : 0 ≤ ((p : Int) * 7 + 3) % (len : Int) := Int.emod_nonneg _ (by omega)
  have b4 : ((p : Int) * 7 + 3) % (len : Int) < (len : Int) := Int.emod_lt_of_pos _ (by omega)
  have n2 : (((p : Int) * 7 + 3) % (len : Int)).toNat = (p * 7 + 3) % len := by rw [show ((p : Int) * 7 + 3) % (len : Int) = ((p * 7 + 3) % len : Nat) by push_cast; rfl]; omega
  have q1 : 0 ≤ (p : Int) / (len : Int) := Int.ediv_nonneg (by omega) (by omega)
  have q2 : (p : Int) / (len : Int) ≤ p := Int.ediv_le_self _ (by omega)
  go_quiet (fail)
  go_wp2
  go_ret
  have x0 : 0 ≤ bits BinOp.xor IntKind.i64 ((z : Int) * 131 + (y : Int) * 1117 + (p : Int) * 29 + (p : Int) / (len : Int) * 53) (((z : Int) * 131 + (y : Int) * 1117 + (p : Int) * 29 + (p : Int) / (len : Int) * 53) / 64) :=
    xor_nonneg _ _ (by omega) (by omega) (by omega) (by omega)
  exact ⟨_, Int.tmod_nonneg _ x0, Int.tmod_lt_of_pos _ (by omega), rfl, kk.drewN nq, KT.out.drewN nq⟩

/-- pick: a number below n. -/
theorem pick_any (b m : Nat) (n : Int) (w : World) (h1 : 1 ≤ n) (hm : m ≤ 1000000) (hr : RdAt w b m) :
    Calls Tryd.prog 26 #[.pointer (some ⟨b, 0, none⟩), .int .i64 n] w (DrewInt n b (m + 1) w) := by
  obtain ⟨a, len, cap, p, ht, hp, hl, hz⟩ := hr
  by_cases h0 : len = 0
  · subst h0
    refine (pick_empty b m cap p a n w h1 (by omega) ht).mono ?_
    rintro e w' ⟨rfl, rfl⟩
    exact ⟨0, by omega, by omega, rfl, (KeepB.refl b w).setCell 1 _, a, 0, cap, p + 1, ht.set1 _, by omega, by omega, .inl rfl⟩
  · obtain ⟨blk, off, rfl, hb, hc⟩ := hz.resolve_left h0
    have keep : ∀ w', KeepB b w w' → ∀ i, i < len → ∃ z : Nat, z ≤ 255 ∧ w'.cell? ⟨blk, off + i, none⟩ = some (.int .u8 z) := by
      intro w' hk i hi
      obtain ⟨z, hz, hc⟩ := hc i hi
      exact ⟨z, hz, World.grownBy.cell hk hc (by simp; omega)⟩
    by_cases hlt : p < len
    · obtain ⟨z, hz, hz1⟩ := hc p hlt
      refine (pick_in b m len cap p blk off z n w h1 (by omega) hlt hz hb ht hz1).mono ?_
      rintro e w' ⟨rfl, rfl⟩
      exact ⟨_, Int.emod_nonneg _ (by omega), Int.emod_lt_of_pos _ (by omega), rfl, (KeepB.refl b w).setCell 1 _, _, len, cap, p + 1, ht.set1 _, by omega, hl, .inr ⟨blk, off, rfl, hb, keep _ ((KeepB.refl b w).setCell 1 _)⟩⟩
    · obtain ⟨z, hz, hz1⟩ := hc (p % len) (Nat.mod_lt _ (by omega))
      obtain ⟨y, hy, hy1⟩ := hc ((p * 7 + 3) % len) (Nat.mod_lt _ (by omega))
      refine (pick_out b m len cap p blk off z y n w h1 (by omega) (by omega) (by omega) hz hy hb ht hz1 hy1).mono ?_
      rintro e w' ⟨r, hr0, hr1, rfl, hk, ht'⟩
      exact ⟨r, hr0, hr1, rfl, hk, _, len, cap, p + 1, ht', by omega, hl, .inr ⟨blk, off, rfl, hb, keep _ hk⟩⟩

/-- l6Open: a new reader. -/
theorem open_any (a : Option Addr) (len cap : Nat) (zs : List Int) (w : World) (h : IsRow w a len cap zs) :
    Calls Tryd.prog 17 #[.slice a len cap] w fun e w' => e = .returned (.pointer (some ⟨w.heap.size, 0, none⟩)) ∧ Below w.heap.size w w' ∧ RdAt w' w.heap.size 0 := by
  rcases h with ⟨rfl, rfl, rfl, rfl⟩ | ⟨x, rfl, hl, hm, hz, hcell, hwz⟩
  · go_enter Tryd.func17, Tryd.ntmps17
    go_wp2
    go_ret
    exact ⟨rfl, (Below.refl _ _).alloc (Nat.le_refl _) _, none, 0, 0, 0, Two.new w _ _ _, by omega, by omega, .inl rfl⟩
  · unfold maxLen at hm
    by_cases h0 : len = 0
    · subst h0
      go_enter Tryd.func17, Tryd.ntmps17
      go_wp2
      go_ret
      exact ⟨rfl, (Below.refl _ _).alloc (Nat.le_refl _) _, some x, 0, cap, 0, Two.new w _ _ _, by omega, by omega, .inl rfl⟩
    · obtain ⟨blk, off, spot⟩ := x
      have hc := hcell 0 (by omega)
      have hspot : spot = none := by simpa [Addr.add] using World.cell?_spot hc
      subst hspot
      have hblk : blk < w.heap.size := by
        have h : w.cell? ⟨blk, off, none⟩ = some (.int .u8 (zs.getD 0 0)) := by simpa [Addr.add] using hc
        apply Classical.byContradiction
        intro hn
        have : w.heap[blk]? = none := Array.getElem?_eq_none (by omega)
        simp [World.cell?, this] at h
      have bytes : ∀ i, i < cap → ∃ z : Nat, z ≤ 255 ∧ (w.cell? ⟨blk, off + i, none⟩ = some (.int .u8 z)) := by
        intro i hi
        have hw := hwz (zs.getD i 0) (by rw [List.getD_eq_getElem?_getD, List.getElem?_eq_getElem (show i < zs.length by omega)]; exact List.getElem_mem _)
        simp [Lit.wf, IntKind.min, IntKind.max, IntKind.signed, IntKind.bits] at hw
        refine ⟨(zs.getD i 0).toNat, by simp only [List.getD_eq_getElem?_getD]; omega, ?_⟩
        have := hcell i (by omega)
        rw [show ((zs.getD i 0).toNat : Int) = zs.getD i 0 by simp only [List.getD_eq_getElem?_getD]; omega]
        have e : Addr.add ⟨blk, off, none⟩ i = ⟨blk, off + i, none⟩ := by
          by_cases hi0 : i = 0 <;> simp [Addr.add, hi0]
        rw [e] at this
        exact this
      have rd : ∀ n, n ≤ cap → n ≤ 2000 → RdAt (w.alloc (.cells #[.slice (some ⟨blk, off, none⟩) n cap, .int .i64 0] 60)) w.heap.size 0 := by
        intro n h1 h2
        refine ⟨_, n, cap, 0, Two.new w _ _ _, by omega, h2, .inr ⟨blk, off, rfl, hblk, fun i hi => ?_⟩⟩
        obtain ⟨z, hz, hc⟩ := bytes i (by omega)
        exact ⟨z, hz, (((Below.refl _ w).alloc (Nat.le_refl _) _).cell (p := ⟨blk, off + i, none⟩) hblk).trans hc⟩
      have RD := Lib.hid rd
      clear rd bytes hcell hwz hc hz
      by_cases hb : (2000 : Int) < (len : Int)
      · go_enter Tryd.func17, Tryd.ntmps17
        go_wp2
        go_ret
        exact ⟨rfl, (Below.refl _ _).alloc (Nat.le_refl _) _, RD.out 2000 (by omega) (by omega)⟩
      · go_enter Tryd.func17, Tryd.ntmps17
        go_wp2
        go_ret
        exact ⟨rfl, (Below.refl _ _).alloc (Nat.le_refl _) _, RD.out len hl (by omega)⟩

end Go.Proofs.YthabmjadfomnkaaDoor
