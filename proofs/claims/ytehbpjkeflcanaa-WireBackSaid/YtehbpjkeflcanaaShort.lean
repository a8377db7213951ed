/- What is cut short is refused as short; what has more bytes, as having a tail. In plain words. -/
import Derived.Test.YtehbpjkeflcanaaPlainBd
namespace Go.Proofs.Ytehbpjkeflcanaa
set_option linter.unusedSimpArgs false
set_option linter.unusedVariables false

/-- s' is the first bytes of s. -/
def Pre (s' s : ByteArray) : Prop := s'.size ≤ s.size ∧ ∀ j, j < s'.size → byteAt s' j = byteAt s j
/-- What is read from a piece: the same, or it is short. -/
def Cut {α : Type} (s' : ByteArray) (p : Nat) (r r' : Except Nat (α × Nat)) : Prop := (p ≤ s'.size ∧ r' = r) ∨ (s'.size < p ∧ r' = .error 10)

theorem pre_at {s' s : ByteArray} {q : Nat} {m : List UInt8} (h : Pre s' s) (ha : At s q m) (hl : q + m.length ≤ s'.size) : At s' q m :=
  ⟨hl, fun i hi => by rw [h.2 _ (by omega)]; exact ha.2 i hi⟩
theorem pre_extract (s : ByteArray) (k : Nat) (hk : k ≤ s.size) : Pre (s.extract 0 k) s := by
  have hs : (s.extract 0 k).size = k := by rw [ByteArray.size_extract]; omega
  refine ⟨by omega, fun j hj => ?_⟩
  rw [← byteAt_eq _ _ hj, ← byteAt_eq s j (by omega), ByteArray.getElem_extract hj]
  simp
theorem rdNum_pre {s' s : ByteArray} (h : Pre s' s) : ∀ (k q i acc m p : Nat), rdNum s k q i acc = .ok (m, p) → Cut s' p (.ok (m, p)) (rdNum s' k q i acc)
  | 0, _, _, _, _, _, hr => by simp [rdNum] at hr
  | k + 1, q, i, acc, m, p, hr => by
    have hb := rdNum_bd s _ _ _ _ _ _ hr
    by_cases hq : s'.size ≤ q
    · refine .inr ⟨by omega, ?_⟩
      unfold rdNum
      rw [if_pos hq]
    · have e := h.2 q (by omega)
      unfold rdNum at hr ⊢
      rw [if_neg (by have := h.1; omega)] at hr
      rw [if_neg hq, e]
      by_cases h1 : 128 ≤ byteAt s q
      · rw [if_pos h1] at hr ⊢
        by_cases h7 : i = 7
        · rw [if_pos h7] at hr; cases hr
        · rw [if_neg h7] at hr ⊢
          exact rdNum_pre h k _ _ _ _ _ hr
      · rw [if_neg h1] at hr ⊢
        refine .inl ⟨?_, hr⟩
        split at hr
        · cases hr
        · split at hr
          · cases hr
          · simp only [Except.ok.injEq, Prod.mk.injEq] at hr
            omega
theorem num_pre {s' s : ByteArray} (h : Pre s' s) {q n p : Nat} (hr : num s q = .ok (n, p)) : Cut s' p (.ok (n, p)) (num s' q) := rdNum_pre h _ _ _ _ _ _ hr
theorem text_pre {s' s t : ByteArray} (h : Pre s' s) {q p : Nat} (hr : text s q = .ok (t, p)) : Cut s' p (.ok (t, p)) (text s' q) := by
  obtain ⟨ha, hp⟩ := text_get hr
  obtain ⟨_, _, ht, _⟩ := text_bd hr
  by_cases hl : p ≤ s'.size
  · refine .inl ⟨hl, ?_⟩
    rw [hp]
    exact text_put ht (pre_at h ha (by omega))
  · refine .inr ⟨by omega, ?_⟩
    unfold putText at ha hp
    obtain ⟨a1, _⟩ := at_append.1 ha
    have hn := num_put (by omega) a1
    unfold text
    rcases num_pre h hn with ⟨h1, h2⟩ | ⟨h1, h2⟩
    · rw [h2]
      simp only
      rw [if_neg (by omega)]
      unfold take_
      rw [if_pos]
      simp only [List.length_append, Array.length_toList, ByteArray.size_data] at hp
      omega
    · rw [h2]
theorem signed_pre {s' s : ByteArray} (h : Pre s' s) {q p : Nat} {m : Sg} (hr : signed s q = .ok (m, p)) : Cut s' p (.ok (m, p)) (signed s' q) := by
  unfold signed at hr ⊢
  cases hx : num s q with
  | error e => rw [hx] at hr; cases hr
  | ok r =>
    obtain ⟨n, p1⟩ := r
    rw [hx] at hr
    simp only at hr
    cases hy : text s p1 with
    | error e => rw [hy] at hr; cases hr
    | ok r =>
      obtain ⟨t, p2⟩ := r
      have b2 := text_bd hy
      rw [hy] at hr
      simp only at hr
      cases hz : text s p2 with
      | error e => rw [hz] at hr; cases hr
      | ok r =>
        obtain ⟨g, p3⟩ := r
        have b3 := text_bd hz
        rw [hz] at hr
        simp only [Except.ok.injEq, Prod.mk.injEq] at hr
        obtain ⟨rfl, rfl⟩ := hr
        rcases num_pre h hx with ⟨c1, d1⟩ | ⟨c1, d1⟩
        · rw [d1]
          simp only
          rcases text_pre h hy with ⟨c2, d2⟩ | ⟨c2, d2⟩
          · rw [d2]
            simp only
            rcases text_pre h hz with ⟨c3, d3⟩ | ⟨c3, d3⟩
            · rw [d3]; exact .inl ⟨c3, rfl⟩
            · rw [d3]; exact .inr ⟨c3, rfl⟩
          · rw [d2]; exact .inr ⟨by omega, rfl⟩
        · rw [d1]; exact .inr ⟨by omega, rfl⟩
theorem many_mono {s : ByteArray} : ∀ {n q p : Nat} {l m : List Sg}, many s n q l = .ok (m, p) → q ≤ p
  | 0, q, p, l, m, h => by simp [many] at h; omega
  | n + 1, q, p, l, m, h => by
    cases hz : signed s q with
    | error e => rw [many_no hz] at h; cases h
    | ok r =>
      rw [many_ok (m := r.1) (p := r.2) hz] at h
      have := many_mono h
      have := (signed_bd (m := r.1) (p := r.2) hz).1
      omega
theorem many_pre {s' s : ByteArray} (h : Pre s' s) : ∀ (n q p : Nat) (acc r : List Sg), many s n q acc = .ok (r, p) → q ≤ s'.size → Cut s' p (.ok (r, p)) (many s' n q acc)
  | 0, q, p, acc, r, hr, hq => by
    simp only [many, Except.ok.injEq, Prod.mk.injEq] at hr
    obtain ⟨rfl, rfl⟩ := hr
    exact .inl ⟨hq, by simp [many]⟩
  | n + 1, q, p, acc, r, hr, hq => by
    cases hz : signed s q with
    | error e => rw [many_no hz] at hr; cases hr
    | ok x =>
      obtain ⟨m, p1⟩ := x
      rw [many_ok hz] at hr
      rcases signed_pre h hz with ⟨c1, d1⟩ | ⟨c1, d1⟩
      · rw [many_ok d1]
        exact many_pre h n p1 p _ r hr c1
      · rw [many_no d1]
        have := many_mono hr
        exact .inr ⟨by omega, rfl⟩
theorem manyAt_pre {s' s : ByteArray} (h : Pre s' s) {most q p : Nat} {l : List Sg} (hr : manyAt s most q = .ok (l, p)) : Cut s' p (.ok (l, p)) (manyAt s' most q) := by
  unfold manyAt count at hr ⊢
  cases hx : num s q with
  | error e => rw [hx] at hr; cases hr
  | ok r =>
    obtain ⟨n, p1⟩ := r
    rw [hx] at hr
    simp only at hr
    by_cases hm : most < n
    · simp only [if_pos hm] at hr; cases hr
    · simp only [if_neg hm] at hr
      have := many_mono hr
      rcases num_pre h hx with ⟨c1, d1⟩ | ⟨c1, d1⟩
      · rw [d1]
        simp only [if_neg hm]
        exact many_pre h n p1 p [] l hr c1
      · rw [d1]
        exact .inr ⟨by omega, rfl⟩
theorem manyAt_mono {s : ByteArray} {most q p : Nat} {l : List Sg} (hr : manyAt s most q = .ok (l, p)) : q < p := by
  unfold manyAt count at hr
  cases hx : num s q with
  | error e => rw [hx] at hr; cases hr
  | ok r =>
    obtain ⟨n, p1⟩ := r
    have := num_bd hx
    rw [hx] at hr
    simp only at hr
    by_cases hm : most < n
    · simp only [if_pos hm] at hr; cases hr
    · simp only [if_neg hm] at hr
      have := many_mono hr
      omega

theorem body_short {s' s : ByteArray} {b : Bd} (hp : Pre s' s) (hl : s'.size < s.size) (h : rdBody s = .ok b) : rdBody s' = .error 10 := by
  rw [rdBody_all] at h ⊢
  cases hx0 : num s 0 with
  | error e => rw [hx0] at h; cases h
  | ok r =>
    obtain ⟨x0, p0⟩ := r
    rw [hx0] at h
    simp only at h
    rcases num_pre hp hx0 with ⟨c0, d0⟩ | ⟨c0, d0⟩
    rotate_left
    · rw [d0]
    rw [d0]
    simp only
    cases hx1 : num s p0 with
    | error e => rw [hx1] at h; cases h
    | ok r =>
      obtain ⟨x1, p1⟩ := r
      rw [hx1] at h
      simp only at h
      rcases num_pre hp hx1 with ⟨c1, d1⟩ | ⟨c1, d1⟩
      rotate_left
      · rw [d1]
      rw [d1]
      simp only
      cases hx2 : num s p1 with
      | error e => rw [hx2] at h; cases h
      | ok r =>
        obtain ⟨x2, p2⟩ := r
        rw [hx2] at h
        simp only at h
        rcases num_pre hp hx2 with ⟨c2, d2⟩ | ⟨c2, d2⟩
        rotate_left
        · rw [d2]
        rw [d2]
        simp only
        cases hx3 : num s p2 with
        | error e => rw [hx3] at h; cases h
        | ok r =>
          obtain ⟨x3, p3⟩ := r
          rw [hx3] at h
          simp only at h
          rcases num_pre hp hx3 with ⟨c3, d3⟩ | ⟨c3, d3⟩
          rotate_left
          · rw [d3]
          rw [d3]
          simp only
          cases hx4 : num s p3 with
          | error e => rw [hx4] at h; cases h
          | ok r =>
            obtain ⟨x4, p4⟩ := r
            rw [hx4] at h
            simp only at h
            rcases num_pre hp hx4 with ⟨c4, d4⟩ | ⟨c4, d4⟩
            rotate_left
            · rw [d4]
            rw [d4]
            simp only
            unfold rdRest at h ⊢
            cases hx5 : text s p4 with
            | error e => rw [hx5] at h; cases h
            | ok r =>
              obtain ⟨x5, p5⟩ := r
              rw [hx5] at h
              simp only at h
              rcases text_pre hp hx5 with ⟨c5, d5⟩ | ⟨c5, d5⟩
              rotate_left
              · rw [d5]
              rw [d5]
              simp only
              cases hx6 : text s p5 with
              | error e => rw [hx6] at h; cases h
              | ok r =>
                obtain ⟨x6, p6⟩ := r
                rw [hx6] at h
                simp only at h
                rcases text_pre hp hx6 with ⟨c6, d6⟩ | ⟨c6, d6⟩
                rotate_left
                · rw [d6]
                rw [d6]
                simp only
                cases hx7 : manyAt s 64 p6 with
                | error e => rw [hx7] at h; cases h
                | ok r =>
                  obtain ⟨x7, p7⟩ := r
                  rw [hx7] at h
                  simp only at h
                  rcases manyAt_pre hp hx7 with ⟨c7, d7⟩ | ⟨c7, d7⟩
                  rotate_left
                  · rw [d7]
                  rw [d7]
                  simp only
                  split at h
                  · cases h
                  · omega

/-- A body's bytes, and more: refused for the tail. -/
theorem of_more {b : Bd} {s t : ByteArray} (h : bytesE b = (s, 0)) (ht : 0 < t.size) (hl : s.size + t.size ≤ 1048576) : ofBody (s ++ t) = (zeroBd, 12) := by
  obtain ⟨_, hs, hr, _⟩ := of_bytes h
  have ha : At (s ++ t) 0 (putBody b) := at_more (by rw [hs]; exact at_self _)
  have hn : (putBody b).length = s.size := by rw [hs, bs_size]
  unfold ofBody
  rw [if_neg (by rw [ByteArray.size_append]; omega), body_put hr ha, if_pos (by rw [ByteArray.size_append]; omega)]
  rfl
/-- A body's first bytes: refused as short. -/
theorem of_short_bytes {b : Bd} {s : ByteArray} (h : bytesE b = (s, 0)) {k : Nat} (hk : k < s.size) : ofBody (s.extract 0 k) = (zeroBd, 10) := by
  obtain ⟨_, hs, hr, hb⟩ := of_bytes h
  have hn : (putBody b).length = s.size := by rw [hs, bs_size]
  have hok : rdBody s = .ok b := by rw [body_put hr (by rw [hs]; exact at_self _), if_neg (by omega)]
  have hz : (s.extract 0 k).size = k := by rw [ByteArray.size_extract]; omega
  unfold ofBody
  rw [if_neg (by omega), body_short (pre_extract s k (by omega)) (by omega) hok]
  rfl
theorem bytes_pos {b : Bd} {s : ByteArray} (h : bytesE b = (s, 0)) : 0 < s.size := by
  obtain ⟨_, hs, _, _⟩ := of_bytes h
  rw [hs, bs_size, putBody_eq, List.length_append]
  have := putNum_pos b.kind.toNat
  omega
end Go.Proofs.Ytehbpjkeflcanaa
