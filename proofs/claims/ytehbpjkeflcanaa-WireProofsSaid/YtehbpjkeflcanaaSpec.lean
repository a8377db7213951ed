/- What the document says of bytes, in plain Lean: numbers and texts that are read from a place on. -/
import Derived.Test.YtehbpjkeflcanaaLib
namespace Go.Proofs.Ytehbpjkeflcanaa
set_option linter.unusedSimpArgs false
set_option linter.unusedVariables false

/-- A number from place q on, its i-th digit next, n so far; k digits may still come. -/
def rdNum (s : ByteArray) : Nat → Nat → Nat → Nat → Except Nat (Nat × Nat)
  | 0, _, _, _ => .error 11
  | k + 1, q, i, n =>
    if s.size ≤ q then .error 10
    else if 128 ≤ byteAt s q then (if i = 7 then .error 11 else rdNum s k (q + 1) (i + 1) (n + byteAt s q % 128 * 2 ^ (7 * i)))
    else if byteAt s q = 0 ∧ 0 < i then .error 11
    else if 9007199254740992 < n + byteAt s q % 128 * 2 ^ (7 * i) then .error 11
    else .ok (n + byteAt s q % 128 * 2 ^ (7 * i), q + 1)

def num (s : ByteArray) (q : Nat) : Except Nat (Nat × Nat) := rdNum s 8 q 0 0

/-- n bytes from place q on. -/
def take_ (s : ByteArray) (q n : Nat) : Except Nat (ByteArray × Nat) :=
  if s.size - q < n then .error 10 else .ok (s.extract q (q + n), q + n)

def text (s : ByteArray) (q : Nat) : Except Nat (ByteArray × Nat) :=
  match num s q with
  | .error e => .error e
  | .ok (n, p) => if 1048576 < n then .error 4 else take_ s p n

def count (s : ByteArray) (most : Nat) (q : Nat) : Except Nat (Nat × Nat) :=
  match num s q with
  | .error e => .error e
  | .ok (n, p) => if most < n then .error 2 else .ok (n, p)

/-- A message: who signed it, its bytes, and the signature. -/
structure Sg where
  who : Int
  body : ByteArray
  sig : ByteArray

def signed (s : ByteArray) (q : Nat) : Except Nat (Sg × Nat) :=
  match num s q with
  | .error e => .error e
  | .ok (n, p) => match text s p with
    | .error e => .error e
    | .ok (t, p) => match text s p with
      | .error e => .error e
      | .ok (g, p) => .ok (⟨n, t, g⟩, p)

theorem rdNum_bd (s : ByteArray) : ∀ (k q i n m p : Nat), rdNum s k q i n = .ok (m, p) → q < p ∧ p ≤ s.size ∧ m ≤ 9007199254740992
  | 0, _, _, _, _, _ => by simp [rdNum]
  | k + 1, q, i, n, m, p => by
    unfold rdNum
    intro h
    split at h
    · cases h
    · split at h
      · split at h
        · cases h
        · have := rdNum_bd s k _ _ _ _ _ h
          omega
      · split at h
        · cases h
        · split at h
          · cases h
          · simp only [Except.ok.injEq, Prod.mk.injEq] at h
            omega
theorem num_bd {s : ByteArray} {q m p : Nat} (h : num s q = .ok (m, p)) : q < p ∧ p ≤ s.size ∧ m ≤ 9007199254740992 := rdNum_bd s _ _ _ _ _ _ h
theorem text_bd {s t : ByteArray} {q p : Nat} (h : text s q = .ok (t, p)) : q < p ∧ p ≤ s.size ∧ t.size ≤ 1048576 ∧ t.size < p - q + 1 := by
  unfold text at h
  split at h
  · cases h
  · rename_i n p' hn
    have := num_bd hn
    split at h
    · cases h
    · unfold take_ at h
      split at h
      · cases h
      · simp only [Except.ok.injEq, Prod.mk.injEq] at h
        obtain ⟨rfl, rfl⟩ := h
        simp only [ByteArray.size_extract]
        omega
theorem count_bd {s : ByteArray} {most q m p : Nat} (h : count s most q = .ok (m, p)) : q < p ∧ p ≤ s.size ∧ m ≤ most := by
  unfold count at h
  split at h
  · cases h
  · rename_i n p' hn
    have := num_bd hn
    split at h
    · cases h
    · simp only [Except.ok.injEq, Prod.mk.injEq] at h
      omega
end Go.Proofs.Ytehbpjkeflcanaa
