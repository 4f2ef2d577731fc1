/- Plain definitions on bytes: names, domains, addresses. No program in sight. -/
import Derived.WalkKit
import Derived.Maps.AppendAt
import Derived.Deep.QuietTactic
namespace Go.Proofs.YthabmjadfomnkaaDoor
open Go.RowKit

/-- A byte of a name. -/
def nbI (c : Int) : Bool := (decide (97 ≤ c) && decide (c ≤ 122)) || (decide (48 ≤ c) && decide (c ≤ 57))
def nb (c : UInt8) : Bool := nbI c.toNat
/-- Yes, or no in Bool's form: as the walk wants a test's fact. -/
theorem dcase (p : Prop) [Decidable p] : p ∨ decide p = false := by by_cases h : p <;> simp [h]

/-- Where the bytes of a name end that begin at place p (n: how many bytes at the most). -/
def spanN (s : ByteArray) : Nat → Nat → Nat
  | 0, p => p
  | n + 1, p => if h : p < s.size then (if nb s[p] then spanN s n (p + 1) else p) else p

/-- Where the bytes of a name end. -/
def nend (s : ByteArray) (p : Nat) : Nat := spanN s (s.size - p) p

theorem nend_yes (s : ByteArray) (p : Nat) (h : p < s.size) (hn : nb s[p] = true) : nend s p = nend s (p + 1) := by
  unfold nend
  rw [show s.size - p = (s.size - (p + 1)) + 1 by omega]
  simp [spanN, h, hn]
theorem nend_no (s : ByteArray) (p : Nat) (h : p < s.size) (hn : nb s[p] = false) : nend s p = p := by
  unfold nend
  rw [show s.size - p = (s.size - (p + 1)) + 1 by omega]
  simp [spanN, h, hn]
theorem nend_end (s : ByteArray) : nend s s.size = s.size := by
  unfold nend
  simp [spanN]
theorem spanN_le (s : ByteArray) (n p : Nat) (h : p ≤ s.size) : p ≤ spanN s n p ∧ spanN s n p ≤ s.size := by
  induction n generalizing p with
  | zero => simp [spanN, h]
  | succ n ih =>
    unfold spanN
    split
    · split
      · have := ih (p + 1) (by omega); omega
      · omega
    · omega
theorem nend_le (s : ByteArray) (p : Nat) (h : p ≤ s.size) : p ≤ nend s p ∧ nend s p ≤ s.size := spanN_le s _ p h

/-- Are the bytes from p to q a name, by their number? -/
def szOk (p q : Nat) : Bool := decide (1 ≤ q - p) && decide (q - p ≤ 8)

theorem szOk_int (n : Nat) : (decide ((1 : Int) ≤ (n : Int)) && decide ((n : Int) ≤ 8)) = szOk 0 n := by
  unfold szOk
  rw [Bool.eq_iff_iff]
  simp
  omega

/-- The world keeps all but block b, and may have grown. -/
def KeepB (b : Nat) (w w' : World) : Prop := w.grownBy w' (some b)
theorem KeepB.refl (b : Nat) (w : World) : KeepB b w w := ⟨rfl, rfl, rfl, Nat.le_refl _, fun _ _ _ => rfl⟩
theorem KeepB.trans {b : Nat} {w w1 w2 : World} (h : KeepB b w w1) (k : KeepB b w1 w2) : KeepB b w w2 := World.grownBy.trans h k
theorem KeepB.drew {b : Nat} {w w1 : World} (h : KeepB b w w1) : KeepB b w w1.drew := ⟨h.os, h.tape, h.output, h.size, h.block⟩
theorem drewN_heap (w : World) (n : Nat) : (w.drewN n).heap = w.heap ∧ (w.drewN n).os = w.os ∧ (w.drewN n).tape = w.tape ∧ (w.drewN n).output = w.output := by
  induction n generalizing w with
  | zero => exact ⟨rfl, rfl, rfl, rfl⟩
  | succ n ih => exact ih w.drew
theorem KeepB.drewN {b : Nat} {w w1 : World} (h : KeepB b w w1) (n : Nat) : KeepB b w (w1.drewN n) := by
  obtain ⟨h1, h2, h3, h4⟩ := drewN_heap w1 n
  exact ⟨h2.trans h.os, h3.trans h.tape, h4.trans h.output, by rw [h1]; exact h.size, fun k hk hne => by rw [h1]; exact h.block k hk hne⟩
theorem KeepB.alloc {b : Nat} {w w1 : World} (h : KeepB b w w1) (o : Obj) : KeepB b w (w1.alloc o) := h.trans (World.grownBy_alloc w1 o (some b))
theorem KeepB.setCell {b : Nat} {w w1 : World} (h : KeepB b w w1) (o : Nat) (v : Value) : KeepB b w (w1.setCell ⟨b, o, none⟩ v) :=
  h.trans ⟨rfl, rfl, rfl, by simp [World.setCell], fun k _ hne => Below.heap_setCell _ _ _ _ (fun e => hne (by rw [e]))⟩
/-- A store into a block that came since. -/
theorem KeepB.setNew {b : Nat} {w w1 : World} (h : KeepB b w w1) (a : Addr) (ha : w.heap.size ≤ a.block) (v : Value) : KeepB b w (w1.setCell a v) :=
  ⟨h.os, h.tape, h.output, by simp only [World.setCell, Array.size_modify]; exact h.size, fun k hk hne => (Below.heap_setCell _ _ _ _ (by omega)).trans (h.block k hk hne)⟩
theorem KeepB.below {b B : Nat} {w w1 : World} (h : KeepB b w w1) (hB : B ≤ b) (hs : B ≤ w.heap.size) : Below B w w1 :=
  ⟨h.os, h.tape, h.output, h.size, fun k hk => h.block k (by omega) (by simp; omega)⟩
theorem KeepB.other {b k : Nat} {w w1 : World} (h : KeepB b w w1) {x : Obj} (hx : w.heap[k]? = some x) (hne : k ≠ b) : w1.heap[k]? = some x := by
  rw [h.block k (Array.getElem?_eq_some_iff.1 hx).1 (by simpa using hne)]; exact hx
theorem Below.drewN' {B : Nat} {a w : World} (h : Below B a w) (n : Nat) : Below B a (w.drewN n) := by
  obtain ⟨h1, h2, h3, h4⟩ := drewN_heap w n
  exact ⟨h2.trans h.os, h3.trans h.tape, h4.trans h.output, by rw [h1]; exact h.size, fun k hk => by rw [h1]; exact h.block k hk⟩

/-- Block b is a struct of two cells (type t). -/
def Two (w : World) (b : Nat) (t : TypeId) (x y : Value) : Prop := w.heap[b]? = some (.cells #[x, y] t (0, 0))
theorem Two.drewN {w : World} {b : Nat} {t : TypeId} {x y : Value} (h : Two w b t x y) (n : Nat) : Two (w.drewN n) b t x y := by
  unfold Two; rw [(drewN_heap w n).1]; exact h
theorem Two.lt {w : World} {b : Nat} {t : TypeId} {x y : Value} (h : Two w b t x y) : b < w.heap.size := (Array.getElem?_eq_some_iff.1 h).1
theorem Two.kept {w w' : World} {b c : Nat} {t : TypeId} {x y : Value} (h : Two w b t x y) (hk : KeepB c w w') (hne : b ≠ c) : Two w' b t x y := hk.other h hne
theorem Two.alloc {w : World} {b : Nat} {t : TypeId} {x y : Value} (h : Two w b t x y) (o : Obj) : Two (w.alloc o) b t x y := (Below.heap_alloc _ _ _ h.lt).trans h
theorem Two.c0 {w : World} {b : Nat} {t : TypeId} {x y : Value} (h : Two w b t x y) : w.cell? ⟨b, 0, none⟩ = some x := by
  unfold Two at h; simp [World.cell?, h]
theorem Two.c1 {w : World} {b : Nat} {t : TypeId} {x y : Value} (h : Two w b t x y) : w.cell? ⟨b, 1, none⟩ = some y := by
  unfold Two at h; simp [World.cell?, h]
theorem Two.f0 {w : World} {b : Nat} {t : TypeId} {x y : Value} (h : Two w b t x y) : w.frozen? ⟨b, 0, none⟩ = false := by
  unfold Two at h; simp [World.frozen?, h]
theorem Two.f1 {w : World} {b : Nat} {t : TypeId} {x y : Value} (h : Two w b t x y) : w.frozen? ⟨b, 1, none⟩ = false := by
  unfold Two at h; simp [World.frozen?, h]
theorem Two.set1 {w : World} {b : Nat} {t : TypeId} {x y : Value} (h : Two w b t x y) (z : Value) : Two (w.setCell ⟨b, 1, none⟩ z) b t x z := by
  unfold Two at h ⊢; simp [World.setCell, Array.getElem?_modify, h]
theorem Two.set0 {w : World} {b : Nat} {t : TypeId} {x y : Value} (h : Two w b t x y) (z : Value) : Two (w.setCell ⟨b, 0, none⟩ z) b t z y := by
  unfold Two at h ⊢; simp [World.setCell, Array.getElem?_modify, h]
theorem Two.new (w : World) (t : TypeId) (x y : Value) : Two (w.alloc (.cells #[x, y] t)) w.heap.size t x y := by
  show (w.heap.push _)[w.heap.size]? = _
  simp

theorem quiet_left {P : Program} {f : FuncId} {args : Array Value} {w : World} {n : Nat} {v : Value}
    (h : Calls P f args (w.drewN n) fun e w' => e = .returned v ∧ w.drewN n = w') : Calls P f args (w.drewN n) fun e w'' => e = .returned v ∧ ∃ m, w'' = w.drewN m :=
  h.mono fun _ _ ⟨he, hm⟩ => ⟨he, n, hm.symm⟩

/-- A name. -/
def nameB (s : ByteArray) : Bool := decide (nend s 0 = s.size) && szOk 0 s.size
theorem nameB_impl (s : ByteArray) : (szOk 0 (nend s 0) && decide (nend s 0 = s.size)) = nameB s := by
  unfold nameB
  by_cases h : nend s 0 = s.size
  · rw [h]; simp
  · simp [h]
theorem nameB_stop (s : ByteArray) (i : Nat) (h : i < s.size) (hb : nb s[i] = false) (hn : nend s i = nend s 0) : nameB s = false := by
  have := nend_no s i h hb
  unfold nameB
  rw [show decide (nend s 0 = s.size) = false by simp; omega]; rfl
theorem nameB_all (s : ByteArray) (hn : nend s s.size = nend s 0) : nameB s = szOk 0 s.size := by
  have := nend_end s
  unfold nameB
  rw [show decide (nend s 0 = s.size) = true by simp; omega]; rfl

/-- What is told of a slice of bytes that came in. -/
def IsRow (w : World) (a : Option Addr) (len cap : Nat) (zs : List Int) : Prop :=
  (a = none ∧ len = 0 ∧ cap = 0 ∧ zs = []) ∨
  ∃ x, a = some x ∧ len ≤ cap ∧ cap ≤ maxLen ∧ zs.length = cap ∧ (∀ i, i < zs.length → w.cell? (x.add i) = some (.int .u8 (zs.getD i 0))) ∧ ∀ n ∈ zs, (Lit.int .u8 n).wf = true

end Go.Proofs.YthabmjadfomnkaaDoor
