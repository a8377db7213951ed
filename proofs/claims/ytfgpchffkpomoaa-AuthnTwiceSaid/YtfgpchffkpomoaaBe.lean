/- A number's eight bytes, the highest first; and that they tell the number. In plain words. -/
import Derived.Test.YtfgpchffkpomoaaRefNum
namespace Go.Proofs.Ytfgpchffkpomoaa
set_option linter.unusedSimpArgs false
set_option linter.unusedVariables false

/-- k bytes of a number, the highest first. -/
def be : Nat → Nat → List UInt8
  | 0, _ => []
  | k + 1, n => be k (n / 256) ++ [UInt8.ofNat (n % 256)]
theorem be_length : ∀ (k n : Nat), (be k n).length = k
  | 0, _ => rfl
  | k + 1, n => by simp [be, be_length k]
/-- The first i bytes of the k are those of what is above. -/
theorem be_take : ∀ (k n i : Nat), i ≤ k → (be k n).take i = be i (n / 256 ^ (k - i))
  | 0, n, i, h => by
    obtain rfl : i = 0 := by omega
    rfl
  | k + 1, n, i, h => by
    by_cases e : i = k + 1
    · subst e
      rw [List.take_of_length_le (by rw [be_length]; exact Nat.le_refl _), Nat.sub_self, Nat.pow_zero, Nat.div_one]
    · rw [be, List.take_append_of_le_length (by rw [be_length]; omega), be_take k (n / 256) i (by omega), Nat.div_div_eq_div_mul, show k + 1 - i = (k - i) + 1 by omega, Nat.pow_succ, Nat.mul_comm]
theorem be_next (k n i : Nat) (h : i < k) : be (i + 1) (n / 256 ^ (k - (i + 1))) = be i (n / 256 ^ (k - i)) ++ [UInt8.ofNat (n / 256 ^ (k - (i + 1)) % 256)] := by
  rw [be, Nat.div_div_eq_div_mul, ← Nat.pow_succ, show (k - (i + 1)).succ = k - i by omega]
theorem be_inj : ∀ (k n m : Nat), n < 256 ^ k → m < 256 ^ k → be k n = be k m → n = m
  | 0, n, m, hn, hm, _ => by simp at hn hm; omega
  | k + 1, n, m, hn, hm, h => by
    unfold be at h
    obtain ⟨h1, h2⟩ := List.append_inj h (by rw [be_length, be_length])
    have e := be_inj k (n / 256) (m / 256) (Nat.div_lt_of_lt_mul (by rw [Nat.pow_succ] at hn; omega)) (Nat.div_lt_of_lt_mul (by rw [Nat.pow_succ] at hm; omega)) h1
    have h3 := congrArg UInt8.toNat (List.cons.inj h2).1
    rw [UInt8.toNat_ofNat', UInt8.toNat_ofNat'] at h3
    omega
def eight (n : Nat) : ByteArray := bs (be 8 n)
theorem eight_size (n : Nat) : (eight n).size = 8 := by unfold eight; rw [bs_size, be_length]
theorem eight_inj {n m : Nat} (hn : n < 18446744073709551616) (hm : m < 18446744073709551616) (h : eight n = eight m) : n = m := by
  refine be_inj 8 n m (by simpa using hn) (by simpa using hm) ?_
  have := congrArg (fun s : ByteArray => s.data.toList) h
  simpa [eight, bs] using this
end Go.Proofs.Ytfgpchffkpomoaa
