/- The reader of codes: what is told of it. -/
import Derived.Test.YthabmjadfomnkaaDoorRows
import Derived.Test.YthabmjadfomnkaaDoorPlainA
namespace Go.Proofs.YthabmjadfomnkaaDoor
open Go.RowKit

/-- Block b is a reader whose bytes lie below b; at most m numbers have been picked. -/
def RdAt (w : World) (b m : Nat) : Prop := ∃ (a : Option Addr) (len cap p : Nat), Two w b 60 (.slice a len cap) (.int .i64 p) ∧ p ≤ m ∧ len ≤ 2000 ∧
  (len = 0 ∨ ∃ blk off, a = some ⟨blk, off, none⟩ ∧ blk < b ∧ ∀ i, i < len → ∃ z : Nat, z ≤ 255 ∧ w.cell? ⟨blk, off + i, none⟩ = some (.int .u8 z))
theorem RdAt.lt {w : World} {b m : Nat} (h : RdAt w b m) : b < w.heap.size := by
  obtain ⟨a, len, cap, p, h, _⟩ := h; exact h.lt
/-- A pick: a number below n. -/
def DrewInt (n : Int) (b m : Nat) (w : World) (e : Ending) (w' : World) : Prop := ∃ r : Int, 0 ≤ r ∧ r < n ∧ e = .returned (.int .i64 r) ∧ KeepB b w w' ∧ RdAt w' b m
/-- A drawn text of at most n bytes. -/
def DrewStr (n : Nat) (b m : Nat) (w : World) (e : Ending) (w' : World) : Prop := ∃ s : ByteArray, s.size ≤ n ∧ e = .returned (.string s) ∧ KeepB b w w' ∧ RdAt w' b m
/-- A text of at most n bytes. -/
def GaveStr (n : Nat) (w : World) (e : Ending) (w' : World) : Prop := ∃ s : ByteArray, s.size ≤ n ∧ e = .returned (.string s) ∧ Below w.heap.size w w'

theorem RdAt.kept {w w' : World} {b c m : Nat} (h : RdAt w b m) (hk : KeepB c w w') (hne : b < c) : RdAt w' b m := by
  obtain ⟨a, len, cap, p, h, hp, hl, hz⟩ := h
  refine ⟨a, len, cap, p, h.kept hk (by omega), hp, hl, ?_⟩
  rcases hz with hz | ⟨blk, off, rfl, hb, hc⟩
  · exact .inl hz
  · refine .inr ⟨blk, off, rfl, hb, fun i hi => ?_⟩
    obtain ⟨z, hz, hc⟩ := hc i hi
    exact ⟨z, hz, World.grownBy.cell hk hc (by simp; omega)⟩
theorem RdAt.keptN {w w' : World} {b m : Nat} (h : RdAt w b m) (hk : Below w.heap.size w w') : RdAt w' b m := by
  have hlt := h.lt
  obtain ⟨a, len, cap, p, h, hp, hl, hz⟩ := h
  refine ⟨a, len, cap, p, (hk.block b hlt).trans h, hp, hl, ?_⟩
  rcases hz with hz | ⟨blk, off, rfl, hb, hc⟩
  · exact .inl hz
  · refine .inr ⟨blk, off, rfl, hb, fun i hi => ?_⟩
    obtain ⟨z, hz, hc⟩ := hc i hi
    exact ⟨z, hz, (hk.cell (p := ⟨blk, off + i, none⟩) (Nat.lt_trans hb hlt)).trans hc⟩
theorem RdAt.alloc {w : World} {b m : Nat} (h : RdAt w b m) (o : Obj) : RdAt (w.alloc o) b m := h.keptN ((Below.refl _ _).alloc (Nat.le_refl _) o)
theorem RdAt.mono {w : World} {b m n : Nat} (h : RdAt w b m) (hm : m ≤ n) : RdAt w b n := by
  obtain ⟨a, len, cap, p, h, hp, hl, hz⟩ := h
  exact ⟨a, len, cap, p, h, by omega, hl, hz⟩
theorem KeepB.ofBelow {b : Nat} {w w' : World} (h : Below w.heap.size w w') : KeepB b w w' := ⟨h.os, h.tape, h.output, h.size, fun k hk _ => h.block k hk⟩

end Go.Proofs.YthabmjadfomnkaaDoor
