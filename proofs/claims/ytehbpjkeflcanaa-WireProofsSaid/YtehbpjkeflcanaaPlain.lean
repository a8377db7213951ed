/- What is read is what was written, and the other way round: numbers, texts and messages. In plain words, with no program in sight. -/
import Derived.Test.YtehbpjkeflcanaaRefOf
import Derived.Test.YtehbpjkeflcanaaRefBytes
namespace Go.Proofs.Ytehbpjkeflcanaa
set_option linter.unusedSimpArgs false
set_option linter.unusedVariables false

/-- The bytes m stand in s from place q on. -/
def At (s : ByteArray) (q : Nat) (m : List UInt8) : Prop := q + m.length ≤ s.size ∧ ∀ i (h : i < m.length), byteAt s (q + i) = m[i].toNat

theorem at_nil {s : ByteArray} {q : Nat} (h : q ≤ s.size) : At s q [] := ⟨by simpa using h, fun i hi => by simp at hi⟩
theorem at_append {s : ByteArray} {q : Nat} {a b : List UInt8} : At s q (a ++ b) ↔ At s q a ∧ At s (q + a.length) b := by
  constructor
  · rintro ⟨h1, h2⟩
    simp only [List.length_append] at h1 h2
    refine ⟨⟨by omega, fun i hi => ?_⟩, ⟨by omega, fun i hi => ?_⟩⟩
    · have := h2 i (by omega)
      rwa [List.getElem_append_left hi] at this
    · have := h2 (a.length + i) (by omega)
      rw [List.getElem_append_right (by omega)] at this
      simp only [Nat.add_sub_cancel_left] at this
      rwa [Nat.add_assoc]
  · rintro ⟨⟨h1, h2⟩, ⟨h3, h4⟩⟩
    refine ⟨by simp only [List.length_append]; omega, fun i hi => ?_⟩
    simp only [List.length_append] at hi
    by_cases h : i < a.length
    · rw [List.getElem_append_left h]; exact h2 i h
    · rw [List.getElem_append_right (by omega)]
      have := h4 (i - a.length) (by omega)
      rwa [show q + a.length + (i - a.length) = q + i by omega] at this
theorem at_one {s : ByteArray} {q : Nat} {x : UInt8} : At s q [x] ↔ q < s.size ∧ byteAt s q = x.toNat := by
  constructor
  · rintro ⟨h1, h2⟩
    exact ⟨by simp only [List.length_singleton] at h1; omega, by simpa using h2 0 (by simp)⟩
  · rintro ⟨h1, h2⟩
    refine ⟨by simp only [List.length_singleton]; omega, fun i hi => ?_⟩
    have : i = 0 := by simpa using hi
    subst this
    simpa using h2
theorem at_cons {s : ByteArray} {q : Nat} {x : UInt8} {m : List UInt8} : At s q (x :: m) ↔ (q < s.size ∧ byteAt s q = x.toNat) ∧ At s (q + 1) m := by
  rw [show x :: m = [x] ++ m from rfl, at_append, at_one]; rfl
theorem byteAt_bs (l : List UInt8) (i : Nat) (h : i < l.length) : byteAt (bs l) i = l[i].toNat := by
  rw [← byteAt_eq (bs l) i (by rw [bs_size]; exact h)]
  rfl
theorem byteAt_append (s t : ByteArray) (i : Nat) (h : i < s.size) : byteAt (s ++ t) i = byteAt s i := by
  rw [← byteAt_eq s i h, ← byteAt_eq (s ++ t) i (by rw [ByteArray.size_append]; omega), ByteArray.getElem_append_left h]
theorem at_more {s t : ByteArray} {q : Nat} {m : List UInt8} (h : At s q m) : At (s ++ t) q m :=
  ⟨by rw [ByteArray.size_append]; have := h.1; omega, fun i hi => by rw [byteAt_append _ _ _ (by have := h.1; omega)]; exact h.2 i hi⟩
theorem at_self (l : List UInt8) : At (bs l) 0 l := ⟨by rw [bs_size]; omega, fun i hi => by rw [Nat.zero_add]; exact byteAt_bs l i hi⟩
theorem eq_bs {s : ByteArray} {l : List UInt8} (h : At s 0 l) (hl : l.length = s.size) : s = bs l := by
  refine ByteArray.ext_getElem (by rw [bs_size, hl]) (fun i hi hi' => ?_)
  rw [← UInt8.toNat_inj, byteAt_eq, byteAt_eq]
  have := h.2 i (by omega)
  rw [Nat.zero_add] at this
  rw [this, byteAt_bs]
theorem at_extract {s : ByteArray} {q n : Nat} (h : q + n ≤ s.size) : At s q (s.extract q (q + n)).data.toList := by
  have hs : (s.extract q (q + n)).size = n := by rw [ByteArray.size_extract]; omega
  refine ⟨by simp only [Array.length_toList, ByteArray.size_data, hs]; exact h, fun i hi => ?_⟩
  have hi' : i < (s.extract q (q + n)).size := by simp only [Array.length_toList, ByteArray.size_data] at hi; exact hi
  have e : (s.extract q (q + n)).data.toList[i] = (s.extract q (q + n))[i] := by simp [ByteArray.getElem_eq_getElem_data]
  rw [e, ByteArray.getElem_extract hi', byteAt_eq]
theorem extract_of_at {s t : ByteArray} {q : Nat} (h : At s q t.data.toList) : s.extract q (q + t.size) = t := by
  have h1 : q + t.size ≤ s.size := by simpa using h.1
  refine ByteArray.ext_getElem (by rw [ByteArray.size_extract]; omega) (fun i hi hi' => ?_)
  rw [ByteArray.getElem_extract hi, ← UInt8.toNat_inj, byteAt_eq]
  have := h.2 i (by simpa using hi')
  rw [this]
  simp [ByteArray.getElem_eq_getElem_data]

/-! Numbers. -/
theorem rdNum_put (s : ByteArray) : ∀ (k n q i acc : Nat), k + i = 8 → n < 128 ^ k → (0 < i → 0 < n) → acc + n * 2 ^ (7 * i) ≤ 9007199254740992 → At s q (putNum n) → rdNum s k q i acc = .ok (acc + n * 2 ^ (7 * i), q + (putNum n).length)
  | 0, n, q, i, acc, hk, hn, h0, _, _ => by
    simp at hn
    have := h0 (by omega)
    omega
  | k + 1, n, q, i, acc, hk, hn, h0, hb, h => by
    by_cases hs : n < 128
    · rw [putNum_small hs] at h ⊢
      obtain ⟨hq, hv⟩ := at_one.1 h
      have hv : byteAt s q = n := by rw [hv, UInt8.toNat_ofNat']; omega
      unfold rdNum
      rw [if_neg (by omega), hv, if_neg (by omega), if_neg (by omega), Nat.mod_eq_of_lt hs, if_neg (by omega)]
      rfl
    · rw [putNum_large hs] at h ⊢
      obtain ⟨⟨hq, hv⟩, h2⟩ := at_cons.1 h
      have hv : byteAt s q = 128 + n % 128 := by rw [hv, UInt8.toNat_ofNat']; omega
      have hk0 : k ≠ 0 := by rintro rfl; simp at hn; omega
      have hp : 2 ^ (7 * (i + 1)) = 128 * 2 ^ (7 * i) := by rw [show 7 * (i + 1) = 7 + 7 * i by omega, Nat.pow_add]
      have e : acc + n % 128 * 2 ^ (7 * i) + n / 128 * 2 ^ (7 * (i + 1)) = acc + n * 2 ^ (7 * i) := by
        rw [hp, ← Nat.mul_assoc, Nat.add_assoc, ← Nat.add_mul]
        congr 2
        omega
      unfold rdNum
      rw [if_neg (by omega), hv, if_pos (by omega), if_neg (by omega), show (128 + n % 128) % 128 = n % 128 by omega]
      rw [rdNum_put s k (n / 128) (q + 1) (i + 1) _ (by omega) (Nat.div_lt_of_lt_mul (by rw [Nat.pow_succ] at hn; omega)) (fun _ => by omega) (by rw [e]; exact hb) h2, e]
      simp only [List.length_cons]
      congr 2
      omega
theorem num_put {s : ByteArray} {q n : Nat} (hn : n ≤ 9007199254740992) (h : At s q (putNum n)) : num s q = .ok (n, q + (putNum n).length) := by
  have := rdNum_put s 8 n q 0 0 rfl (by omega) (fun h => by omega) (by omega) h
  simpa [num] using this
theorem rdNum_get (s : ByteArray) : ∀ (k q i acc m p : Nat), rdNum s k q i acc = .ok (m, p) → ∃ n, m = acc + n * 2 ^ (7 * i) ∧ (0 < i → 0 < n) ∧ At s q (putNum n) ∧ p = q + (putNum n).length
  | 0, _, _, _, _, _, h => by simp [rdNum] at h
  | k + 1, q, i, acc, m, p, h => by
    unfold rdNum at h
    by_cases hq : s.size ≤ q
    · rw [if_pos hq] at h; cases h
    rw [if_neg hq] at h
    have hc := byteAt_lt s q
    by_cases h1 : 128 ≤ byteAt s q
    · rw [if_pos h1] at h
      by_cases h7 : i = 7
      · rw [if_pos h7] at h; cases h
      rw [if_neg h7] at h
      obtain ⟨n, hm, hpos, hat, hp⟩ := rdNum_get s k _ _ _ _ _ h
      have hn := hpos (by omega)
      have hl : ¬ n * 128 + byteAt s q % 128 < 128 := by omega
      have hp2 : 2 ^ (7 * (i + 1)) = 128 * 2 ^ (7 * i) := by rw [show 7 * (i + 1) = 7 + 7 * i by omega, Nat.pow_add]
      refine ⟨n * 128 + byteAt s q % 128, ?_, fun _ => by omega, ?_, ?_⟩
      · rw [hm, hp2, ← Nat.mul_assoc, Nat.add_assoc, ← Nat.add_mul, Nat.add_comm (n * 128)]
      · rw [putNum_large hl, show (n * 128 + byteAt s q % 128) / 128 = n by omega, show (n * 128 + byteAt s q % 128) % 128 = byteAt s q % 128 by omega]
        exact at_cons.2 ⟨⟨by omega, by rw [UInt8.toNat_ofNat']; omega⟩, hat⟩
      · rw [putNum_large hl, show (n * 128 + byteAt s q % 128) / 128 = n by omega, List.length_cons]
        omega
    · rw [if_neg h1] at h
      by_cases h0 : byteAt s q = 0 ∧ 0 < i
      · rw [if_pos h0] at h; cases h
      rw [if_neg h0] at h
      split at h
      · cases h
      · simp only [Except.ok.injEq, Prod.mk.injEq] at h
        obtain ⟨rfl, rfl⟩ := h
        refine ⟨byteAt s q, by rw [Nat.mod_eq_of_lt (by omega)], fun _ => by omega, ?_, ?_⟩
        · rw [putNum_small (by omega)]
          exact at_one.2 ⟨by omega, by rw [UInt8.toNat_ofNat']; omega⟩
        · rw [putNum_small (by omega)]; rfl
theorem num_get {s : ByteArray} {q n p : Nat} (h : num s q = .ok (n, p)) : At s q (putNum n) ∧ p = q + (putNum n).length := by
  obtain ⟨m, hm, _, h1, h2⟩ := rdNum_get s 8 q 0 0 n p h
  have : n = m := by simpa using hm
  subst this
  exact ⟨h1, h2⟩

/-! Texts. -/
theorem text_put {s t : ByteArray} {q : Nat} (ht : t.size ≤ 1048576) (h : At s q (putText t)) : text s q = .ok (t, q + (putText t).length) := by
  unfold putText at h ⊢
  obtain ⟨h1, h2⟩ := at_append.1 h
  unfold text
  rw [num_put (by omega) h1]
  simp only
  rw [if_neg (by omega)]
  unfold take_
  have h3 : q + (putNum t.size).length + t.size ≤ s.size := by simpa using h2.1
  rw [if_neg (by omega), extract_of_at h2]
  simp [Nat.add_assoc]
theorem text_get {s t : ByteArray} {q p : Nat} (h : text s q = .ok (t, p)) : At s q (putText t) ∧ p = q + (putText t).length := by
  unfold text at h
  cases hx : num s q with
  | error e => rw [hx] at h; cases h
  | ok r =>
    obtain ⟨n, p1⟩ := r
    obtain ⟨h1, h2⟩ := num_get hx
    obtain ⟨_, hb, _⟩ := num_bd hx
    rw [hx] at h
    simp only at h
    split at h
    · cases h
    · unfold take_ at h
      split at h
      · cases h
      · simp only [Except.ok.injEq, Prod.mk.injEq] at h
        obtain ⟨rfl, rfl⟩ := h
        have hs : (s.extract p1 (p1 + n)).size = n := by rw [ByteArray.size_extract]; omega
        unfold putText
        rw [hs]
        refine ⟨at_append.2 ⟨h1, ?_⟩, ?_⟩
        · rw [← h2]; exact at_extract (by omega)
        · simp [hs, h2]; omega

/-! Messages. -/
theorem signed_put {s : ByteArray} {m : Sg} {q : Nat} (h0 : 0 ≤ m.who) (h1 : m.who ≤ 9007199254740992) (hb : m.body.size ≤ 1048576) (hg : m.sig.size ≤ 1048576) (h : At s q (putSg m)) : signed s q = .ok (m, q + (putSg m).length) := by
  obtain ⟨who, body, sig⟩ := m
  simp only at h0 h1 hb hg
  unfold putSg at h ⊢
  simp only at h ⊢
  obtain ⟨a1, h⟩ := at_append.1 h
  obtain ⟨a2, a3⟩ := at_append.1 h
  unfold signed
  rw [num_put (by omega) a1]
  simp only
  rw [text_put hb a2]
  simp only
  rw [text_put hg a3]
  simp only [List.length_append, Except.ok.injEq, Prod.mk.injEq, Sg.mk.injEq, and_true, true_and]
  exact ⟨by omega, by omega⟩
theorem signed_get {s : ByteArray} {m : Sg} {q p : Nat} (h : signed s q = .ok (m, p)) : At s q (putSg m) ∧ p = q + (putSg m).length := by
  unfold signed at h
  cases hx : num s q with
  | error e => rw [hx] at h; cases h
  | ok r =>
    obtain ⟨n, p1⟩ := r
    obtain ⟨a1, b1⟩ := num_get hx
    rw [hx] at h
    simp only at h
    cases hy : text s p1 with
    | error e => rw [hy] at h; cases h
    | ok r =>
      obtain ⟨t, p2⟩ := r
      obtain ⟨a2, b2⟩ := text_get hy
      rw [hy] at h
      simp only at h
      cases hz : text s p2 with
      | error e => rw [hz] at h; cases h
      | ok r =>
        obtain ⟨g, p3⟩ := r
        obtain ⟨a3, b3⟩ := text_get hz
        rw [hz] at h
        simp only [Except.ok.injEq, Prod.mk.injEq] at h
        obtain ⟨rfl, rfl⟩ := h
        unfold putSg
        simp only [Int.toNat_natCast, List.length_append]
        exact ⟨at_append.2 ⟨a1, by rw [← b1]; exact at_append.2 ⟨a2, by rw [← b2]; exact a3⟩⟩, by omega⟩
theorem many_put {s : ByteArray} : ∀ (l : List Sg) (q : Nat) (acc : List Sg), fitAllB l = true → At s q (l.flatMap putSg) → many s l.length q acc = .ok (acc ++ l, q + (l.flatMap putSg).length)
  | [], q, acc, _, _ => by simp [many]
  | m :: l, q, acc, hf, h => by
    simp only [List.flatMap_cons] at h ⊢
    obtain ⟨a1, a2⟩ := at_append.1 h
    unfold fitAllB at hf
    simp only [List.all_cons, Bool.and_eq_true] at hf
    obtain ⟨f1, f2, f3, f4⟩ := (fitsB_iff m).1 hf.1
    rw [List.length_cons, many_ok (signed_put f1 (by omega) (by omega) (by omega) a1), many_put l _ _ hf.2 a2]
    simp [Nat.add_assoc]
theorem many_get {s : ByteArray} : ∀ (n q : Nat) (acc : List Sg) (r : List Sg) (p : Nat), many s n q acc = .ok (r, p) → q ≤ s.size → ∃ l, r = acc ++ l ∧ l.length = n ∧ At s q (l.flatMap putSg) ∧ p = q + (l.flatMap putSg).length
  | 0, q, acc, r, p, h, hq => by
    simp only [many, Except.ok.injEq, Prod.mk.injEq] at h
    obtain ⟨rfl, rfl⟩ := h
    exact ⟨[], by simp, rfl, at_nil hq, by simp⟩
  | n + 1, q, acc, r, p, h, hq => by
    cases hz : signed s q with
    | error e => rw [many_no hz] at h; cases h
    | ok x =>
      obtain ⟨m, p1⟩ := x
      obtain ⟨a1, b1⟩ := signed_get hz
      rw [many_ok hz] at h
      obtain ⟨l, h1, h2, h3, h4⟩ := many_get n p1 _ r p h (signed_bd hz).2
      refine ⟨m :: l, by rw [h1]; simp, by simp [h2], ?_, ?_⟩
      · simp only [List.flatMap_cons]
        exact at_append.2 ⟨a1, by rw [← b1]; exact h3⟩
      · simp only [List.flatMap_cons, List.length_append]
        omega
theorem manyAt_put {s : ByteArray} {l : List Sg} {q most : Nat} (hl : l.length ≤ most) (hm : most ≤ 1000) (hf : fitAllB l = true) (h : At s q (putNum l.length ++ l.flatMap putSg)) : manyAt s most q = .ok (l, q + (putNum l.length ++ l.flatMap putSg).length) := by
  obtain ⟨a1, a2⟩ := at_append.1 h
  unfold manyAt count
  rw [num_put (by omega) a1]
  simp only
  rw [if_neg (by omega)]
  simp only
  rw [many_put l _ [] hf a2]
  simp [Nat.add_assoc]
theorem manyAt_get {s : ByteArray} {l : List Sg} {q most p : Nat} (h : manyAt s most q = .ok (l, p)) : At s q (putNum l.length ++ l.flatMap putSg) ∧ p = q + (putNum l.length ++ l.flatMap putSg).length := by
  unfold manyAt count at h
  cases hx : num s q with
  | error e => rw [hx] at h; cases h
  | ok r =>
    obtain ⟨n, p1⟩ := r
    obtain ⟨a1, b1⟩ := num_get hx
    obtain ⟨_, hb, _⟩ := num_bd hx
    rw [hx] at h
    simp only at h
    by_cases hm : most < n
    · simp only [if_pos hm] at h; cases h
    · simp only [if_neg hm] at h
      obtain ⟨l', h1, h2, h3, h4⟩ := many_get n p1 [] l p h hb
      obtain rfl : l = l' := by simpa using h1
      rw [h2]
      exact ⟨at_append.2 ⟨a1, by rw [← b1]; exact h3⟩, by rw [List.length_append]; omega⟩
end Go.Proofs.Ytehbpjkeflcanaa
