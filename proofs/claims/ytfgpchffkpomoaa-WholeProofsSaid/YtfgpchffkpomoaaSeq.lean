/- So many of a kind, read one behind the other: what is read is what was written, and the other way round. In plain words. -/
import Derived.Test.YtfgpchffkpomoaaPk18
namespace Go.Proofs.Ytfgpchffkpomoaa
set_option linter.unusedSimpArgs false
set_option linter.unusedVariables false

/-- n more, each by rd, behind those that were read. -/
def seqN {α : Type} (rd : Nat → Except Nat (α × Nat)) : Nat → Nat → List α → Except Nat (List α × Nat)
  | 0, q, l => .ok (l, q)
  | n + 1, q, l => match rd q with
    | .error e => .error e
    | .ok (m, p) => seqN rd n p (l ++ [m])
theorem seqN_ok {α : Type} {rd : Nat → Except Nat (α × Nat)} {q p : Nat} {m : α} (h : rd q = .ok (m, p)) (n : Nat) (l : List α) : seqN rd (n + 1) q l = seqN rd n p (l ++ [m]) := by
  rw [seqN, h]
theorem seqN_no {α : Type} {rd : Nat → Except Nat (α × Nat)} {q c : Nat} (h : rd q = .error c) (n : Nat) (l : List α) : seqN rd (n + 1) q l = .error c := by
  rw [seqN, h]
/-- A count, then so many. -/
def seqAt {α : Type} (s : ByteArray) (rd : Nat → Except Nat (α × Nat)) (most q : Nat) : Except Nat (List α × Nat) :=
  match count s most q with
  | .error e => .error e
  | .ok (n, p) => seqN rd n p []
theorem seqAt_of {α : Type} {s : ByteArray} {rd : Nat → Except Nat (α × Nat)} {most q n p : Nat} (h : count s most q = .ok (n, p)) : seqAt s rd most q = seqN rd n p [] := by unfold seqAt; rw [h]
theorem seqAt_no {α : Type} {s : ByteArray} {rd : Nat → Except Nat (α × Nat)} {most q c : Nat} (h : count s most q = .error c) : seqAt s rd most q = .error c := by unfold seqAt; rw [h]

section
variable {α : Type} {s : ByteArray} {rd : Nat → Except Nat (α × Nat)} {put : α → List UInt8} {good : α → Prop}
theorem seqN_put (hp : ∀ m q, good m → At s q (put m) → rd q = .ok (m, q + (put m).length)) : ∀ (l : List α) (q : Nat) (acc : List α), (∀ m ∈ l, good m) → At s q (l.flatMap put) → seqN rd l.length q acc = .ok (acc ++ l, q + (l.flatMap put).length)
  | [], q, acc, _, _ => by simp [seqN]
  | m :: l, q, acc, hg, h => by
    simp only [List.flatMap_cons] at h ⊢
    obtain ⟨a1, a2⟩ := at_append.1 h
    rw [List.length_cons, seqN_ok (hp m q (hg m (by simp)) a1), seqN_put hp l _ _ (fun x hx => hg x (by simp [hx])) a2]
    simp [Nat.add_assoc]
theorem seqN_get (hg : ∀ m q p, rd q = .ok (m, p) → At s q (put m) ∧ p = q + (put m).length ∧ p ≤ s.size) : ∀ (n q : Nat) (acc : List α) (r : List α) (p : Nat), seqN rd n q acc = .ok (r, p) → q ≤ s.size → ∃ l, r = acc ++ l ∧ l.length = n ∧ At s q (l.flatMap put) ∧ p = q + (l.flatMap put).length ∧ p ≤ s.size
  | 0, q, acc, r, p, h, hq => by
    simp only [seqN, Except.ok.injEq, Prod.mk.injEq] at h
    obtain ⟨rfl, rfl⟩ := h
    exact ⟨[], by simp, rfl, at_nil hq, by simp, hq⟩
  | n + 1, q, acc, r, p, h, hq => by
    cases hz : rd q with
    | error e => rw [seqN_no hz] at h; cases h
    | ok x =>
      obtain ⟨m, p1⟩ := x
      obtain ⟨a1, b1, c1⟩ := hg m q p1 hz
      rw [seqN_ok hz] at h
      obtain ⟨l, h1, h2, h3, h4, h5⟩ := seqN_get hg n p1 _ r p h c1
      refine ⟨m :: l, by rw [h1]; simp, by simp [h2], ?_, ?_, h5⟩
      · simp only [List.flatMap_cons]
        exact at_append.2 ⟨a1, by rw [← b1]; exact h3⟩
      · simp only [List.flatMap_cons, List.length_append]
        omega
/-- The place behind, for a reader that goes on within the text. -/
theorem seqN_bd (hb : ∀ m q p, rd q = .ok (m, p) → p ≤ s.size) : ∀ (n q : Nat) (acc : List α) (r : List α) (p : Nat), seqN rd n q acc = .ok (r, p) → q ≤ s.size → p ≤ s.size ∧ r.length = acc.length + n
  | 0, q, acc, r, p, h, hq => by
    simp only [seqN, Except.ok.injEq, Prod.mk.injEq] at h
    obtain ⟨rfl, rfl⟩ := h
    exact ⟨hq, by simp⟩
  | n + 1, q, acc, r, p, h, hq => by
    cases hz : rd q with
    | error e => rw [seqN_no hz] at h; cases h
    | ok x =>
      obtain ⟨m, p1⟩ := x
      rw [seqN_ok hz] at h
      have := seqN_bd hb n p1 _ r p h (hb m q p1 hz)
      simp only [List.length_append, List.length_singleton] at this
      omega
theorem seqAt_put (hp : ∀ m q, good m → At s q (put m) → rd q = .ok (m, q + (put m).length)) {l : List α} {q most : Nat} (hl : l.length ≤ most) (hm : most ≤ 5000) (hg : ∀ m ∈ l, good m) (h : At s q (putNum l.length ++ l.flatMap put)) : seqAt s rd most q = .ok (l, q + (putNum l.length ++ l.flatMap put).length) := by
  obtain ⟨a1, a2⟩ := at_append.1 h
  unfold seqAt count
  rw [num_put (by omega) a1]
  simp only
  rw [if_neg (by omega)]
  simp only
  rw [seqN_put hp l _ [] hg a2]
  simp [Nat.add_assoc]
theorem seqAt_get (hg : ∀ m q p, rd q = .ok (m, p) → At s q (put m) ∧ p = q + (put m).length ∧ p ≤ s.size) {l : List α} {q most p : Nat} (h : seqAt s rd most q = .ok (l, p)) : At s q (putNum l.length ++ l.flatMap put) ∧ p = q + (putNum l.length ++ l.flatMap put).length ∧ p ≤ s.size ∧ l.length ≤ most := by
  unfold seqAt count at h
  cases hx : num s q with
  | error e => rw [hx] at h; cases h
  | ok r =>
    obtain ⟨n, p1⟩ := r
    obtain ⟨a1, b1⟩ := num_get hx
    obtain ⟨_, hb, _⟩ := num_bd hx
    rw [hx] at h
    simp only at h
    by_cases hm : most < n
    · simp only [if_pos hm] at h; cases h
    · simp only [if_neg hm] at h
      obtain ⟨l', h1, h2, h3, h4, h5⟩ := seqN_get hg n p1 [] l p h hb
      obtain rfl : l = l' := by simpa using h1
      rw [h2]
      exact ⟨at_append.2 ⟨a1, by rw [← b1]; exact h3⟩, by rw [List.length_append]; omega, h5, by omega⟩
end

theorem text_get' {s t : ByteArray} {q p : Nat} (h : text s q = .ok (t, p)) : At s q (putText t) ∧ p = q + (putText t).length ∧ p ≤ s.size :=
  ⟨(text_get h).1, (text_get h).2, (text_bd h).2.1⟩
end Go.Proofs.Ytfgpchffkpomoaa
