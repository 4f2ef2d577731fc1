/- Contracts of the drawing function 'of'. -/
import Derived.Test.YthabmjadfomnkaaDoorPick
namespace Go.Proofs.YthabmjadfomnkaaDoor
open Go.RowKit
set_option linter.unusedVariables false

/-- All cells are texts of at most B bytes. -/
def strsOk (B : Nat) (vs : List Value) : Bool := vs.all fun v => match v with | .string s => decide (s.size ≤ B) | _ => false
/-- The block sb holds n texts of at most B bytes. -/
def StrRow (w : World) (sb n B : Nat) : Prop := ∀ i, i < n → ∃ s : ByteArray, s.size ≤ B ∧ w.cell? ⟨sb, i, none⟩ = some (.string s)
theorem cell_of {w : World} {b : Nat} {cs : Array Value} {t : TypeId} {fz : Nat × Nat} (h : w.heap[b]? = some (.cells cs t fz)) (i : Nat) : w.cell? ⟨b, i, none⟩ = cs[i]? := by
  simp [World.cell?, h]
theorem strs_new (w : World) (t : TypeId) (vs : List Value) (B : Nat) (h : strsOk B vs = true) : StrRow (w.alloc (.cells vs.toArray t)) w.heap.size vs.length B := by
  intro i hi
  have hb : (w.alloc (.cells vs.toArray t)).heap[w.heap.size]? = some (.cells vs.toArray t) := by
    show (w.heap.push _)[w.heap.size]? = _
    simp
  unfold strsOk at h
  rw [List.all_eq_true] at h
  have := h vs[i] (List.getElem_mem _)
  split at this
  · rename_i s hs
    refine ⟨s, by simpa using this, ?_⟩
    rw [cell_of hb]
    simp [hi, hs]
  · cases this

set_option maxHeartbeats 1000000 in
/-- of: one of the texts. -/
theorem of_any (b m sb n B : Nat) (w : World) (h1 : 1 ≤ n) (hn : n ≤ 1000) (hm : m ≤ 1000000) (hr : RdAt w b m) (hne : sb ≠ b) (hs : StrRow w sb n B) :
    Calls Tryd.prog 27 #[.pointer (some ⟨b, 0, none⟩), .slice (some ⟨sb, 0, none⟩) n n] w (DrewStr B b (m + 1) w) := by
  have HR := Lib.hid hr; clear hr
  have HS := Lib.hid hs; clear hs
  go_enter Tryd.func27, Tryd.ntmps27
  go_wp2_with fail
  refine (pick_any b m _ _ (by omega) hm HR.out).mono ?_
  rintro e w1 ⟨r, hr0, hr1, rfl, hk, hr'⟩
  obtain ⟨k, rfl⟩ := Int.eq_ofNat_of_zero_le hr0
  obtain ⟨s, hsz, hc⟩ := HS.out k (by omega)
  have hc1 : w1.cell? ⟨sb, k, none⟩ = some (.string s) := World.grownBy.cell hk hc (by simp; omega)
  have HK := Lib.hid hk; clear hk hc
  have HR' := Lib.hid hr'; clear hr'
  go_wp2
  go_ret
  exact ⟨s, hsz, rfl, HK.out, HR'.out⟩

end Go.Proofs.YthabmjadfomnkaaDoor
