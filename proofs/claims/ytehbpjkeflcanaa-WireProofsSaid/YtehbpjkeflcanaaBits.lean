/- Bit arithmetic of an int that is built digit by digit, seven bits each. -/
import Derived.Laws.BitsLemmas
import Derived.Laws.Bits128
import Derived.RowKit
import Derived.Below
namespace Go.Proofs.Ytehbpjkeflcanaa
set_option linter.unusedSimpArgs false
set_option linter.unusedVariables false
open Go.RowKit

theorem i64_or_nat (a b : Nat) (ha : a < 2 ^ 62) (hb : b < 2 ^ 62) : bits .or .i64 (a : Int) (b : Int) = ((a ||| b : Nat) : Int) := by
  have := (bits_nat .i64 62 (by decide) (fun n h0 h1 => by rw [IntKind.wrap_i64]; omega) a b ha hb)
  first | exact this | exact this.1 | exact this.2 | exact this.2.1 | exact this.2.2
theorem or_digit (n d i : Nat) (hn : n < 2 ^ i) : n ||| d * 2 ^ i = n + d * 2 ^ i := by
  have h := Nat.shiftLeft_add_eq_or_of_lt hn d
  rw [Nat.shiftLeft_eq] at h
  rw [Nat.or_comm, ← h, Nat.add_comm]
theorem and127 (c : Nat) : bits .and .i64 (c : Int) 127 = ((c % 128 : Nat) : Int) := by
  rw [i64_and127]; omega
theorem pow7_le (i : Nat) (h : i ≤ 7) : (2 : Nat) ^ (7 * i) ≤ 562949953421312 :=
  Nat.le_trans (Nat.pow_le_pow_right (by decide) (Nat.mul_le_mul_left 7 h)) (by decide)
theorem digit_lt (c i : Nat) (h : i ≤ 7) : c % 128 * 2 ^ (7 * i) < 72057594037927936 := by
  have h1 := pow7_le i h
  have h2 : c % 128 < 128 := Nat.mod_lt _ (by decide)
  calc c % 128 * 2 ^ (7 * i) ≤ 127 * 562949953421312 := Nat.mul_le_mul (by omega) h1
    _ < _ := by decide
theorem shl_digit (c i : Nat) (h : i ≤ 7) : wrap64 (((c % 128 : Nat) : Int) * 2 ^ (7 * i)) = ((c % 128 * 2 ^ (7 * i) : Nat) : Int) := by
  have h1 := digit_lt c i h
  have e : ((c % 128 : Nat) : Int) * 2 ^ (7 * i) = ((c % 128 * 2 ^ (7 * i) : Nat) : Int) := by
    rw [Int.natCast_mul, Int.natCast_pow]; rfl
  rw [e]
  unfold wrap64
  omega
theorem or_i64_digit (n c i : Nat) (h : i ≤ 7) (hn : n < 2 ^ (7 * i)) : bits .or .i64 (n : Int) ((c % 128 * 2 ^ (7 * i) : Nat) : Int) = ((n + c % 128 * 2 ^ (7 * i) : Nat) : Int) := by
  have h1 := digit_lt c i h
  have h2 := pow7_le i h
  rw [i64_or_nat _ _ (by omega) (by omega), or_digit _ _ _ hn]
theorem digits_lt (n c i : Nat) (hn : n < 2 ^ (7 * i)) : n + c % 128 * 2 ^ (7 * i) < 2 ^ (7 * (i + 1)) := by
  have h2 : c % 128 < 128 := Nat.mod_lt _ (by decide)
  have e : 7 * (i + 1) = 7 * i + 7 := by omega
  rw [e, Nat.pow_add]
  have : c % 128 * 2 ^ (7 * i) ≤ 127 * 2 ^ (7 * i) := Nat.mul_le_mul_right _ (by omega)
  omega
/-- One digit of seven bits, as the walk spells it. -/
theorem digit_step (n c i : Nat) (h : i ≤ 7) (hc : c < 256) (hn : n < 2 ^ (7 * i)) : ∃ u v : Nat, wrap64 (c : Int) = c ∧ bits .and .i64 (c : Int) 127 = (c : Int) % 128 ∧
    wrap64 ((c : Int) % 128 * 2 ^ (7 * i)) = (u : Int) ∧ bits .or .i64 (n : Int) (u : Int) = (v : Int) ∧ v < 2 ^ (7 * (i + 1)) ∧ v < 144115188075855872 ∧ Hid (v = n + c % 128 * 2 ^ (7 * i)) :=
  ⟨c % 128 * 2 ^ (7 * i), n + c % 128 * 2 ^ (7 * i), by unfold wrap64; omega, by rw [and127]; omega,
    by rw [← shl_digit c i h]; congr 2, or_i64_digit n c i h hn, digits_lt n c i hn, by have := pow7_le i h; have := digit_lt c i h; omega, rfl⟩
end Go.Proofs.Ytehbpjkeflcanaa
