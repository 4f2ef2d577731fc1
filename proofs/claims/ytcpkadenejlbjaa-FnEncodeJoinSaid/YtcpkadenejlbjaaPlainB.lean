/- Plain laws: base64. No program in sight. -/
import Derived.Test.YtcpkadenejlbjaaPlainL
import Derived.Lib.Bytealg
namespace Go.Proofs.Ytcpkadenejlbjaa

/-- The 64 signs. -/
def sgnL : List UInt8 := [65, 66, 67, 68, 69, 70, 71, 72, 73, 74, 75, 76, 77, 78, 79, 80, 81, 82, 83, 84, 85, 86, 87, 88, 89, 90, 97, 98, 99, 100, 101, 102, 103, 104, 105, 106, 107, 108, 109, 110, 111, 112, 113, 114, 115, 116, 117, 118, 119, 120, 121, 122, 48, 49, 50, 51, 52, 53, 54, 55, 56, 57, 43, 47]
/-- The sign of a number of six bits. -/
def sgn (n : Nat) : UInt8 := sgnL.getD n 0
/-- The number of a sign. -/
def vlI (c : UInt8) : Int := Lib.indexByte sgnL c
theorem vl_table : ∀ n : Fin 64, vlI (sgn n.1) = (n.1 : Int) ∧ sgn n.1 ≠ 61 ∧ sgn n.1 ≠ 45 := by decide +kernel
theorem vl_sgn (n : Nat) (h : n < 64) : vlI (sgn n) = (n : Int) := (vl_table ⟨n, h⟩).1
theorem sgn_ne (n : Nat) (h : n < 64) : sgn n ≠ 61 := (vl_table ⟨n, h⟩).2.1
theorem sgn_ne2 (n : Nat) (h : n < 64) : sgn n ≠ 45 := (vl_table ⟨n, h⟩).2.2
theorem vl_eq61 : vlI 61 = -1 := by decide +kernel
theorem vl_range (c : UInt8) : -1 ≤ vlI c ∧ vlI c < 64 := by
  have h : ∀ n : Fin 256, -1 ≤ vlI (UInt8.ofNat n.1) ∧ vlI (UInt8.ofNat n.1) < 64 := by decide +kernel
  have := h ⟨c.toNat, c.toNat_lt⟩
  simpa using this

/-- The number of three bytes. -/
def n24 (a b c : UInt8) : Nat := 65536 * a.toNat + 256 * b.toNat + c.toNat
theorem n24_lt (a b c : UInt8) : n24 a b c < 16777216 := by
  have := a.toNat_lt; have := b.toNat_lt; have := c.toNat_lt
  unfold n24; omega
/-- Four signs for one to three bytes. -/
def grp : List UInt8 → List UInt8
  | [] => []
  | [a] => [sgn (n24 a 0 0 / 262144), sgn (n24 a 0 0 / 4096 % 64), 61, 61]
  | [a, b] => [sgn (n24 a b 0 / 262144), sgn (n24 a b 0 / 4096 % 64), sgn (n24 a b 0 / 64 % 64), 61]
  | a :: b :: c :: _ => [sgn (n24 a b c / 262144), sgn (n24 a b c / 4096 % 64), sgn (n24 a b c / 64 % 64), sgn (n24 a b c % 64)]
/-- The base64 text of bytes. -/
def encL : List UInt8 → List UInt8
  | a :: b :: c :: r => grp [a, b, c] ++ encL r
  | [a, b] => grp [a, b]
  | [a] => grp [a]
  | [] => []
theorem encL_nil : encL [] = [] := by simp [encL]
theorem encL_three (a b c : UInt8) (r : List UInt8) : encL (a :: b :: c :: r) = grp [a, b, c] ++ encL r := by simp [encL]
/-- Induction by threes. -/
theorem three_ind {P : List UInt8 → Prop} (h0 : P []) (h1 : ∀ a, P [a]) (h2 : ∀ a b, P [a, b]) (h3 : ∀ a b c r, P r → P (a :: b :: c :: r)) : ∀ l, P l
  | [] => h0
  | [a] => h1 a
  | [a, b] => h2 a b
  | a :: b :: c :: r => h3 a b c r (three_ind h0 h1 h2 h3 r)
theorem encL_app (l m : List UInt8) (h : l.length % 3 = 0) : encL (l ++ m) = encL l ++ encL m := by
  induction l using three_ind with
  | h0 => simp [encL_nil]
  | h1 a => simp at h
  | h2 a b => simp at h
  | h3 a b c r ih =>
    simp only [List.cons_append, encL_three, List.append_assoc]
    rw [ih (by simp only [List.length_cons] at h; omega)]
theorem encL_grp (l : List UInt8) (h : l.length ≤ 3) : encL l = grp l := by
  match l, h with
  | [], _ => simp [encL, grp]
  | [a], _ => simp [encL]
  | [a, b], _ => simp [encL]
  | [a, b, c], _ => simp [encL_three, encL_nil]
  | a :: b :: c :: d :: r, h => simp only [List.length_cons] at h; omega
theorem grp_length (l : List UInt8) (h : l ≠ []) : (grp l).length = 4 := by
  match l with
  | [] => exact absurd rfl h
  | [a] => rfl
  | [a, b] => rfl
  | a :: b :: c :: r => rfl
theorem encL_length (l : List UInt8) : (encL l).length = (l.length + 2) / 3 * 4 := by
  induction l using three_ind with
  | h0 => simp [encL]
  | h1 a => simp [encL, grp]
  | h2 a b => simp [encL, grp]
  | h3 a b c r ih =>
    rw [encL_three, List.length_append, grp_length _ (by simp), ih]
    simp only [List.length_cons]; omega
theorem encL_mem45 (l : List UInt8) : ∀ x ∈ encL l, x ≠ 45 := by
  induction l using three_ind with
  | h0 => simp [encL]
  | h1 a =>
    have := n24_lt a 0 0
    intro x hx
    simp only [encL, grp, List.mem_cons, List.not_mem_nil, or_false] at hx
    rcases hx with rfl | rfl | rfl | rfl
    · exact sgn_ne2 _ (by omega)
    · exact sgn_ne2 _ (by omega)
    · decide
    · decide
  | h2 a b =>
    have := n24_lt a b 0
    intro x hx
    simp only [encL, grp, List.mem_cons, List.not_mem_nil, or_false] at hx
    rcases hx with rfl | rfl | rfl | rfl
    · exact sgn_ne2 _ (by omega)
    · exact sgn_ne2 _ (by omega)
    · exact sgn_ne2 _ (by omega)
    · decide
  | h3 a b c r ih =>
    have := n24_lt a b c
    intro x hx
    rw [encL_three, List.mem_append] at hx
    rcases hx with hx | hx
    · simp only [grp, List.mem_cons, List.not_mem_nil, or_false] at hx
      rcases hx with rfl | rfl | rfl | rfl
      · exact sgn_ne2 _ (by omega)
      · exact sgn_ne2 _ (by omega)
      · exact sgn_ne2 _ (by omega)
      · exact sgn_ne2 _ (by omega)
    · exact ih x hx

/-- The numbers of the signs at the beginning of a group. -/
def dig : List UInt8 → List Nat
  | [] => []
  | c :: r => if vlI c < 0 then [] else (vlI c).toNat :: dig r
def numD (ds : List Nat) : Nat := ds.foldl (fun n d => 64 * n + d) 0
/-- The three bytes of a number. -/
def bytes3 (n : Nat) : List UInt8 := [UInt8.ofNat (n / 65536), UInt8.ofNat (n / 256 % 256), UInt8.ofNat (n % 256)]
/-- The bytes for which the signs at the beginning of a group suffice. -/
def rd (g : List UInt8) : List UInt8 := (bytes3 (numD (dig g) * 64 ^ (4 - (dig g).length))).take ((dig g).length * 6 / 8)
/-- The program's raw decoding. -/
def rawI : List UInt8 → List UInt8
  | a :: b :: c :: d :: r => rd [a, b, c, d] ++ rawI r
  | l => rd l
theorem rawI_four (a b c d : UInt8) (r : List UInt8) : rawI (a :: b :: c :: d :: r) = rd [a, b, c, d] ++ rawI r := by simp [rawI]
theorem rd_nil : rd [] = [] := by simp [rd, dig]
theorem four_ind {P : List UInt8 → Prop} (h0 : P []) (h1 : ∀ a, P [a]) (h2 : ∀ a b, P [a, b]) (h3 : ∀ a b c, P [a, b, c]) (h4 : ∀ a b c d r, P r → P (a :: b :: c :: d :: r)) : ∀ l, P l
  | [] => h0
  | [a] => h1 a
  | [a, b] => h2 a b
  | [a, b, c] => h3 a b c
  | a :: b :: c :: d :: r => h4 a b c d r (four_ind h0 h1 h2 h3 h4 r)
theorem rawI_short (l : List UInt8) (h : l.length ≤ 4) : rawI l = rd l := by
  match l, h with
  | [], _ => simp [rawI]
  | [a], _ => simp [rawI]
  | [a, b], _ => simp [rawI]
  | [a, b, c], _ => simp [rawI]
  | [a, b, c, d], _ => simp [rawI, rd_nil]
  | a :: b :: c :: d :: e :: r, h => simp only [List.length_cons] at h; omega
theorem rawI_app (l m : List UInt8) (h : l.length % 4 = 0) : rawI (l ++ m) = rawI l ++ rawI m := by
  induction l using four_ind with
  | h0 => simp [rawI, rd_nil]
  | h1 a => simp at h
  | h2 a b => simp at h
  | h3 a b c => simp at h
  | h4 a b c d r ih =>
    simp only [List.cons_append, rawI_four, List.append_assoc]
    rw [ih (by simp only [List.length_cons] at h; omega)]

/-- A sign's number; others count as 0. -/
def vl0 (c : UInt8) : Nat := (vlI c).toNat
theorem vl0_sgn (n : Nat) (h : n < 64) : vl0 (sgn n) = n := by unfold vl0; rw [vl_sgn n h]; simp
theorem vl0_61 : vl0 61 = 0 := by unfold vl0; rw [vl_eq61]; rfl
theorem vl0_lt (c : UInt8) : vl0 c < 64 := by have := vl_range c; unfold vl0; omega
def n4 (a b c d : UInt8) : Nat := 64 * (64 * (64 * vl0 a + vl0 b) + vl0 c) + vl0 d
/-- The reference's raw decoding. -/
def rawS : List UInt8 → List UInt8
  | a :: b :: c :: d :: r => bytes3 (n4 a b c d) ++ rawS r
  | _ => []
theorem rawS_four (a b c d : UInt8) (r : List UInt8) : rawS (a :: b :: c :: d :: r) = bytes3 (n4 a b c d) ++ rawS r := by simp [rawS]
theorem rawS_app (l m : List UInt8) (h : l.length % 4 = 0) : rawS (l ++ m) = rawS l ++ rawS m := by
  induction l using four_ind with
  | h0 => simp [rawS]
  | h1 a => simp at h
  | h2 a b => simp at h
  | h3 a b c => simp at h
  | h4 a b c d r ih =>
    simp only [List.cons_append, rawS_four, List.append_assoc]
    rw [ih (by simp only [List.length_cons] at h; omega)]
theorem rawS_length (l : List UInt8) : (rawS l).length = l.length / 4 * 3 := by
  induction l using four_ind with
  | h0 => simp [rawS]
  | h1 a => simp [rawS]
  | h2 a b => simp [rawS]
  | h3 a b c => simp [rawS]
  | h4 a b c d r ih =>
    rw [rawS_four, List.length_append, ih]
    simp only [bytes3, List.length_cons, List.length_nil]; omega

theorem u8_of (a : UInt8) (n : Nat) (h : n = a.toNat) : UInt8.ofNat n = a := by subst h; simp
theorem bytes3_n24 (a b c : UInt8) : bytes3 (n24 a b c) = [a, b, c] := by
  have ha := a.toNat_lt; have hb := b.toNat_lt; have hc := c.toNat_lt
  unfold bytes3 n24
  rw [u8_of a _ (by omega), u8_of b _ (by omega), u8_of c _ (by omega)]
theorem digits_back (n : Nat) (h : n < 16777216) : 64 * (64 * (64 * (n / 262144) + n / 4096 % 64) + n / 64 % 64) + n % 64 = n := by omega
theorem dig_sgn (n : Nat) (h : n < 64) (r : List UInt8) : dig (sgn n :: r) = n :: dig r := by
  simp only [dig, vl_sgn n h]
  rw [if_neg (by omega)]; simp
theorem dig_61 (r : List UInt8) : dig (61 :: r) = [] := by simp [dig, vl_eq61]
theorem rd_grp3 (a b c : UInt8) : rd (grp [a, b, c]) = [a, b, c] := by
  have h := n24_lt a b c
  have hd := digits_back _ h
  unfold rd grp
  rw [dig_sgn _ (by omega), dig_sgn _ (by omega), dig_sgn _ (by omega), dig_sgn _ (by omega), dig]
  simp only [numD, List.foldl_cons, List.foldl_nil, List.length_cons, List.length_nil]
  rw [show 64 * (64 * (64 * (64 * 0 + n24 a b c / 262144) + n24 a b c / 4096 % 64) + n24 a b c / 64 % 64) + n24 a b c % 64 = n24 a b c by omega]
  simp [bytes3_n24]
theorem rd_grp2 (a b : UInt8) : rd (grp [a, b]) = [a, b] := by
  have h := n24_lt a b 0
  have hd := digits_back _ h
  have h0 : n24 a b 0 % 64 = 0 := by unfold n24; simp; omega
  unfold rd grp
  rw [dig_sgn _ (by omega), dig_sgn _ (by omega), dig_sgn _ (by omega), dig_61]
  simp only [numD, List.foldl_cons, List.foldl_nil, List.length_cons, List.length_nil]
  rw [show (64 * (64 * (64 * 0 + n24 a b 0 / 262144) + n24 a b 0 / 4096 % 64) + n24 a b 0 / 64 % 64) * 64 ^ (4 - (0 + 1 + 1 + 1)) = n24 a b 0 by omega]
  simp [bytes3_n24]
theorem rd_grp1 (a : UInt8) : rd (grp [a]) = [a] := by
  have h := n24_lt a 0 0
  have hd := digits_back _ h
  have h0 : n24 a 0 0 % 64 = 0 ∧ n24 a 0 0 / 64 % 64 = 0 := by unfold n24; simp; omega
  unfold rd grp
  rw [dig_sgn _ (by omega), dig_sgn _ (by omega), dig_61]
  simp only [numD, List.foldl_cons, List.foldl_nil, List.length_cons, List.length_nil]
  rw [show (64 * (64 * 0 + n24 a 0 0 / 262144) + n24 a 0 0 / 4096 % 64) * 64 ^ (4 - (0 + 1 + 1)) = n24 a 0 0 by omega]
  simp [bytes3_n24]
theorem grp_four (l : List UInt8) (h : l ≠ []) (r : List UInt8) : rawI (grp l ++ r) = rd (grp l) ++ rawI r ∧ rawI (grp l) = rd (grp l) := by
  have h4 := grp_length l h
  refine ⟨?_, rawI_short _ (by omega)⟩
  rw [rawI_app _ _ (by omega), rawI_short _ (by omega)]
/-- What was encoded is decoded. -/
theorem rawI_enc (l : List UInt8) : rawI (encL l) = l := by
  induction l using three_ind with
  | h0 => simp [encL, rawI, rd_nil]
  | h1 a => simp only [encL]; rw [(grp_four [a] (by simp) []).2, rd_grp1]
  | h2 a b => simp only [encL]; rw [(grp_four [a, b] (by simp) []).2, rd_grp2]
  | h3 a b c r ih => rw [encL_three, (grp_four [a, b, c] (by simp) _).1, rd_grp3, ih]; rfl
theorem encL_inj {l m : List UInt8} (h : encL l = encL m) : l = m := by rw [← rawI_enc l, h, rawI_enc]
/-- The zeros that fill up. -/
def padN (n : Nat) : Nat := (3 - n % 3) % 3
theorem rawS_enc (l : List UInt8) : rawS (encL l) = l ++ List.replicate (padN l.length) 0 := by
  induction l using three_ind with
  | h0 => simp [encL, rawS, padN]
  | h1 a =>
    have h := n24_lt a 0 0
    have h0 : n24 a 0 0 % 64 = 0 ∧ n24 a 0 0 / 64 % 64 = 0 := by unfold n24; simp; omega
    simp only [encL, grp, rawS_four, n4]
    rw [vl0_sgn _ (by omega), vl0_sgn _ (by omega), vl0_61]
    rw [show 64 * (64 * (64 * (n24 a 0 0 / 262144) + n24 a 0 0 / 4096 % 64) + 0) + 0 = n24 a 0 0 by omega, bytes3_n24]
    simp [rawS, padN]
  | h2 a b =>
    have h := n24_lt a b 0
    have h0 : n24 a b 0 % 64 = 0 := by unfold n24; simp; omega
    simp only [encL, grp, rawS_four, n4]
    rw [vl0_sgn _ (by omega), vl0_sgn _ (by omega), vl0_sgn _ (by omega), vl0_61]
    rw [show 64 * (64 * (64 * (n24 a b 0 / 262144) + n24 a b 0 / 4096 % 64) + n24 a b 0 / 64 % 64) + 0 = n24 a b 0 by omega, bytes3_n24]
    simp [rawS, padN]
  | h3 a b c r ih =>
    have h := n24_lt a b c
    rw [encL_three]
    simp only [grp, List.cons_append, List.nil_append, rawS_four, n4]
    rw [vl0_sgn _ (by omega), vl0_sgn _ (by omega), vl0_sgn _ (by omega), vl0_sgn _ (by omega)]
    rw [show 64 * (64 * (64 * (n24 a b c / 262144) + n24 a b c / 4096 % 64) + n24 a b c / 64 % 64) + n24 a b c % 64 = n24 a b c by omega, bytes3_n24, ih]
    have : padN (a :: b :: c :: r).length = padN r.length := by simp only [padN, List.length_cons]; omega
    rw [this]; rfl

/-- The bytes of a base64 text of at most 40 signs, as the program reads it. -/
def decI (t : List UInt8) : Option (List UInt8) := if t.length ≤ 40 ∧ encL (rawI t) = t then some (rawI t) else none
/-- The bytes of a base64 text: those whose text it is. -/
theorem decI_iff (t s : List UInt8) : decI t = some s ↔ t.length ≤ 40 ∧ encL s = t := by
  unfold decI
  split
  · rename_i h
    simp only [Option.some.injEq]
    constructor
    · rintro rfl; exact h
    · rintro ⟨_, rfl⟩; exact rawI_enc s
  · rename_i h
    simp only [false_iff, reduceCtorEq]
    rintro ⟨h1, rfl⟩
    exact h ⟨h1, by rw [rawI_enc]⟩
theorem dec_len {t s : List UInt8} (h : decI t = some s) : s.length ≤ 30 ∧ t.length % 4 = 0 ∧ t.length = (s.length + 2) / 3 * 4 := by
  obtain ⟨h1, rfl⟩ := (decI_iff t s).1 h
  have := encL_length s
  omega
theorem dec_hit {t : List UInt8} (cut : Nat) (h1 : t.length ≤ 40) (h : encL ((rawS t).take ((rawS t).length - cut)) = t) : decI t = some ((rawS t).take ((rawS t).length - cut)) :=
  (decI_iff _ _).2 ⟨h1, h⟩
theorem dec_miss {t : List UInt8} (h0 : ¬ encL ((rawS t).take ((rawS t).length - 0)) = t) (h1 : 1 ≤ (rawS t).length → ¬ encL ((rawS t).take ((rawS t).length - 1)) = t) (h2 : 2 ≤ (rawS t).length → ¬ encL ((rawS t).take ((rawS t).length - 2)) = t) : decI t = none := by
  cases hd : decI t with
  | none => rfl
  | some s =>
    exfalso
    obtain ⟨hl, rfl⟩ := (decI_iff t s).1 hd
    have hr := rawS_enc s
    have hlen : (rawS (encL s)).length = s.length + padN s.length := by rw [hr]; simp
    have hp : padN s.length = 0 ∨ padN s.length = 1 ∨ padN s.length = 2 := by unfold padN; omega
    have key : ∀ k, padN s.length = k → (rawS (encL s)).take ((rawS (encL s)).length - k) = s := by
      intro k hk
      rw [hlen, hk, Nat.add_sub_cancel, hr, List.take_left']
      rfl
    rcases hp with hp | hp | hp
    · exact h0 (by rw [key 0 hp])
    · exact h1 (by omega) (by rw [key 1 hp])
    · exact h2 (by omega) (by rw [key 2 hp])
theorem dec_none_mod {t : List UInt8} (h : t.length % 4 ≠ 0) : decI t = none := by
  cases hd : decI t with
  | none => rfl
  | some s => exact absurd (dec_len hd).2.1 h
theorem dec_none_long {t : List UInt8} (h : 40 < t.length) : decI t = none := by
  unfold decI; rw [if_neg (by omega)]

end Go.Proofs.Ytcpkadenejlbjaa
