/- utf8.word: eight bytes as one number; a number that has none of the eight high bits is of eight ASCII bytes. -/
import Derived.Test.YtjmjmnagnbgmfaaGreatDoorS3
import Derived.Laws.BitsAllLaws
namespace Go.Proofs.YtjmjmnagnbgmfaaGreatDoor
open Go.RowKit Go.Shelf Go.Lib

def hiBits : Nat := 9259542123273814144
def wordN (x0 x1 x2 x3 x4 x5 x6 x7 : Nat) : Nat := x0 ||| x1 * 256 ||| x2 * 65536 ||| x3 * 16777216 ||| x4 * 4294967296 ||| x5 * 1099511627776 ||| x6 * 281474976710656 ||| x7 * 72057594037927936

theorem and_hi_bit {n : Nat} (h : n &&& hiBits = 0) (i : Nat) (hi : hiBits.testBit i = true) : n.testBit i = false := by
  have := congrArg (fun m => m.testBit i) h
  simp only [Nat.testBit_and, hi, Bool.and_true, Nat.zero_testBit] at this
  exact this
theorem bit_mul {x : Nat} (k : Nat) : (x * 2 ^ k).testBit (k + 7) = x.testBit 7 := by
  rw [Nat.testBit_mul_two_pow]
  simp
theorem lt_of_bit7 {x : Nat} (hx : x < 256) (h : x.testBit 7 = false) : x < 128 := by
  rcases Nat.lt_or_ge x 128 with h1 | h1
  · exact h1
  · exfalso
    have : x.testBit 7 = true := by
      rw [Nat.testBit_eq_decide_div_mod_eq]
      simp
      omega
    rw [this] at h
    cases h

theorem word_ascii {x0 x1 x2 x3 x4 x5 x6 x7 : Nat} (h0 : x0 < 256) (h1 : x1 < 256) (h2 : x2 < 256) (h3 : x3 < 256) (h4 : x4 < 256) (h5 : x5 < 256) (h6 : x6 < 256) (h7 : x7 < 256)
    (h : wordN x0 x1 x2 x3 x4 x5 x6 x7 &&& hiBits = 0) : x0 < 128 ∧ x1 < 128 ∧ x2 < 128 ∧ x3 < 128 ∧ x4 < 128 ∧ x5 < 128 ∧ x6 < 128 ∧ x7 < 128 := by
  have b := fun i hi => and_hi_bit h i hi
  have c0 := b 7 (by decide +kernel)
  have c1 := b 15 (by decide +kernel)
  have c2 := b 23 (by decide +kernel)
  have c3 := b 31 (by decide +kernel)
  have c4 := b 39 (by decide +kernel)
  have c5 := b 47 (by decide +kernel)
  have c6 := b 55 (by decide +kernel)
  have c7 := b 63 (by decide +kernel)
  unfold wordN at c0 c1 c2 c3 c4 c5 c6 c7
  simp only [Nat.testBit_or, Bool.or_eq_false_iff] at c0 c1 c2 c3 c4 c5 c6 c7
  refine ⟨lt_of_bit7 h0 c0.1.1.1.1.1.1.1, lt_of_bit7 h1 ?_, lt_of_bit7 h2 ?_, lt_of_bit7 h3 ?_, lt_of_bit7 h4 ?_, lt_of_bit7 h5 ?_, lt_of_bit7 h6 ?_, lt_of_bit7 h7 ?_⟩
  · rw [← bit_mul 8]; exact c1.1.1.1.1.1.1.2
  · rw [← bit_mul 16]; exact c2.1.1.1.1.1.2
  · rw [← bit_mul 24]; exact c3.1.1.1.1.2
  · rw [← bit_mul 32]; exact c4.1.1.1.2
  · rw [← bit_mul 40]; exact c5.1.1.2
  · rw [← bit_mul 48]; exact c6.1.2
  · rw [← bit_mul 56]; exact c7.2

theorem wordN_lt {x0 x1 x2 x3 x4 x5 x6 x7 : Nat} (h0 : x0 < 256) (h1 : x1 < 256) (h2 : x2 < 256) (h3 : x3 < 256) (h4 : x4 < 256) (h5 : x5 < 256) (h6 : x6 < 256) (h7 : x7 < 256) : wordN x0 x1 x2 x3 x4 x5 x6 x7 < 2 ^ 64 := by
  unfold wordN
  repeat' apply Nat.or_lt_two_pow
  all_goals omega

theorem word_bits (x0 x1 x2 x3 x4 x5 x6 x7 : Nat) (h0 : x0 < 256) (h1 : x1 < 256) (h2 : x2 < 256) (h3 : x3 < 256) (h4 : x4 < 256) (h5 : x5 < 256) (h6 : x6 < 256) (h7 : x7 < 256) :
    bits BinOp.or IntKind.u64 (bits BinOp.or IntKind.u64 (bits BinOp.or IntKind.u64 (bits BinOp.or IntKind.u64 (bits BinOp.or IntKind.u64 (bits BinOp.or IntKind.u64 (bits BinOp.or IntKind.u64 (x0 : Int) ((x1 : Int) * 256)) ((x2 : Int) * 65536)) ((x3 : Int) * 16777216)) ((x4 : Int) * 4294967296)) ((x5 : Int) * 1099511627776)) ((x6 : Int) * 281474976710656)) ((x7 : Int) * 72057594037927936) =
      ((wordN x0 x1 x2 x3 x4 x5 x6 x7 : Nat) : Int) := by
  have step : ∀ (a y m : Nat), a < 18446744073709551616 → y * m < 18446744073709551616 → bits BinOp.or IntKind.u64 (a : Int) ((y : Int) * (m : Int)) = ((a ||| y * m : Nat) : Int) := by
    intro a y m ha hy
    rw [← Int.natCast_mul]
    exact u64_or_nat a (y * m) ha hy
  have lt : ∀ a y : Nat, a < 2 ^ 64 → y < 2 ^ 64 → (a ||| y) < 18446744073709551616 := fun a y ha hy => Nat.or_lt_two_pow (n := 64) ha hy
  have e1 := step x0 x1 256 (by omega) (by omega)
  have l1 := lt x0 (x1 * 256) (by omega) (by omega)
  have e2 := step _ x2 65536 l1 (by omega)
  have l2 := lt _ (x2 * 65536) (by simpa using l1) (by omega)
  have e3 := step _ x3 16777216 l2 (by omega)
  have l3 := lt _ (x3 * 16777216) (by simpa using l2) (by omega)
  have e4 := step _ x4 4294967296 l3 (by omega)
  have l4 := lt _ (x4 * 4294967296) (by simpa using l3) (by omega)
  have e5 := step _ x5 1099511627776 l4 (by omega)
  have l5 := lt _ (x5 * 1099511627776) (by simpa using l4) (by omega)
  have e6 := step _ x6 281474976710656 l5 (by omega)
  have l6 := lt _ (x6 * 281474976710656) (by simpa using l5) (by omega)
  have e7 := step _ x7 72057594037927936 l6 (by omega)
  unfold wordN
  rw [← e7, ← e6, ← e5, ← e4, ← e3, ← e2, ← e1]
  rfl

/-- The word of a text's first eight bytes. -/
def wordL (l : List UInt8) : Nat := wordN (l.getD 0 0).toNat (l.getD 1 0).toNat (l.getD 2 0).toNat (l.getD 3 0).toNat (l.getD 4 0).toNat (l.getD 5 0).toNat (l.getD 6 0).toNat (l.getD 7 0).toNat
theorem wordL_lt (l : List UInt8) : wordL l < 18446744073709551616 := by
  have := fun j => (l.getD j 0).toNat_lt
  exact wordN_lt (this 0) (this 1) (this 2) (this 3) (this 4) (this 5) (this 6) (this 7)
theorem wordL_ascii {l : List UInt8} (h : wordL l &&& hiBits = 0) (j : Nat) (hj : j < 8) : (l.getD j 0).toNat < 128 := by
  have := fun j => (l.getD j 0).toNat_lt
  have k := word_ascii (this 0) (this 1) (this 2) (this 3) (this 4) (this 5) (this 6) (this 7) h
  rcases (show j = 0 ∨ j = 1 ∨ j = 2 ∨ j = 3 ∨ j = 4 ∨ j = 5 ∨ j = 6 ∨ j = 7 by omega) with rfl | rfl | rfl | rfl | rfl | rfl | rfl | rfl
  · exact k.1
  · exact k.2.1
  · exact k.2.2.1
  · exact k.2.2.2.1
  · exact k.2.2.2.2.1
  · exact k.2.2.2.2.2.1
  · exact k.2.2.2.2.2.2.1
  · exact k.2.2.2.2.2.2.2

set_option maxHeartbeats 4000000 in
set_option maxRecDepth 1000000 in
theorem word_calls (K o n c : Nat) (l : List UInt8) (w : World) (hn : 8 ≤ n) (hm : n ≤ 140737488351232) (hcell : ∀ j, j < n → w.cell? ⟨K, o + j, none⟩ = some (.int .u8 (nat8 l j))) :
    Calls Tryz.prog 94 #[.slice (some ⟨K, o, none⟩) n c] w fun e w' => e = .returned (.int .u64 (wordL l)) ∧ ∃ q, w' = w.drewN q := by
  have hw := fun j => (l.getD j 0).toNat_lt
  have HW := Lib.hid (word_bits _ _ _ _ _ _ _ _ (hw 0) (hw 1) (hw 2) (hw 3) (hw 4) (hw 5) (hw 6) (hw 7))
  change Hid (bits BinOp.or IntKind.u64 (bits BinOp.or IntKind.u64 (bits BinOp.or IntKind.u64 (bits BinOp.or IntKind.u64 (bits BinOp.or IntKind.u64 (bits BinOp.or IntKind.u64 (bits BinOp.or IntKind.u64 (nat8 l 0) (nat8 l 1 * 256)) (nat8 l 2 * 65536)) (nat8 l 3 * 16777216)) (nat8 l 4 * 4294967296)) (nat8 l 5 * 1099511627776)) (nat8 l 6 * 281474976710656)) (nat8 l 7 * 72057594037927936) = ((wordL l : Nat) : Int)) at HW
  clear hw
  generalize ((wordL l : Nat) : Int) = r at HW ⊢
  have a0 := hcell 0 (by omega); have a1 := hcell 1 (by omega); have a2 := hcell 2 (by omega); have a3 := hcell 3 (by omega)
  have a4 := hcell 4 (by omega); have a5 := hcell 5 (by omega); have a6 := hcell 6 (by omega); have a7 := hcell 7 (by omega)
  clear hcell
  have b0 := nat8_bd l 0; have b1 := nat8_bd l 1; have b2 := nat8_bd l 2; have b3 := nat8_bd l 3
  have b4 := nat8_bd l 4; have b5 := nat8_bd l 5; have b6 := nat8_bd l 6; have b7 := nat8_bd l 7
  generalize nat8 l 0 = x0 at *
  generalize nat8 l 1 = x1 at *
  generalize nat8 l 2 = x2 at *
  generalize nat8 l 3 = x3 at *
  generalize nat8 l 4 = x4 at *
  generalize nat8 l 5 = x5 at *
  generalize nat8 l 6 = x6 at *
  generalize nat8 l 7 = x7 at *
  rw [Nat.add_zero] at a0
  have d0 : decide (0 < n) = true := by simp; omega
  have d1 : decide (1 < n) = true := by simp; omega
  have d2 : decide (2 < n) = true := by simp; omega
  have d3 : decide (3 < n) = true := by simp; omega
  have d4 : decide (4 < n) = true := by simp; omega
  have d5 : decide (5 < n) = true := by simp; omega
  have d6 : decide (6 < n) = true := by simp; omega
  have d7 : decide (7 < n) = true := by simp; omega
  go_enter Tryz.func94, Tryz.ntmps94
  go_wp2
  repeat (go_quiet (fail); try go_wp2)
  go_ret
  exact ⟨by rw [← HW.out]; rfl, _, rfl⟩
end Go.Proofs.YtjmjmnagnbgmfaaGreatDoor
