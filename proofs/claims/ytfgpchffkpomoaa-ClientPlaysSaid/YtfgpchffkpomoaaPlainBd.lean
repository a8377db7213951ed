/- A body that is read is the body that was written, and the other way round. In plain words. -/
import Derived.Test.YtfgpchffkpomoaaPk18
namespace Go.Proofs.Ytfgpchffkpomoaa
set_option linter.unusedSimpArgs false
set_option linter.unusedVariables false

theorem rdBody_all (s : ByteArray) : rdBody s = (match num s 0 with
  | .error e => .error e
  | .ok (a, p) => match num s p with
    | .error e => .error e
    | .ok (b, p) => match num s p with
      | .error e => .error e
      | .ok (c, p) => match num s p with
        | .error e => .error e
        | .ok (d, p) => match num s p with
          | .error e => .error e
          | .ok (e, p) => rdRest s a b c d e p) := by
  rw [rdBody_nums]
  simp only [rdNums]
  cases num s 0 with
  | error _ => rfl
  | ok r =>
    obtain ⟨x0, p0⟩ := r
    simp only
    cases num s p0 with
    | error _ => rfl
    | ok r =>
      obtain ⟨x1, p1⟩ := r
      simp only
      cases num s p1 with
      | error _ => rfl
      | ok r =>
        obtain ⟨x2, p2⟩ := r
        simp only
        cases num s p2 with
        | error _ => rfl
        | ok r =>
          obtain ⟨x3, p3⟩ := r
          simp only
          cases num s p3 with
          | error _ => rfl
          | ok r => rfl

theorem body_put {s : ByteArray} {b : Bd} (hr : rightE b = 0) (h : At s 0 (putBody b)) : rdBody s = if (putBody b).length < s.size then .error 12 else .ok b := by
  obtain ⟨k1, k2, v1, v2, q1, q2, c1, c2, t1, t2, d1, d2, l1, hfa⟩ := right_ok hr
  obtain ⟨kind, view, seq, client, stamp, digest, tx, list⟩ := b
  simp only at k1 k2 v1 v2 q1 q2 c1 c2 t1 t2 d1 d2 l1 hfa
  rw [putBody_eq] at h ⊢
  simp only at h ⊢
  obtain ⟨a1, h⟩ := at_append.1 h
  obtain ⟨a2, h⟩ := at_append.1 h
  obtain ⟨a3, h⟩ := at_append.1 h
  obtain ⟨a4, h⟩ := at_append.1 h
  obtain ⟨a5, h⟩ := at_append.1 h
  obtain ⟨a6, h⟩ := at_append.1 h
  obtain ⟨a7, a8⟩ := at_append.1 h
  rw [rdBody_all, num_put (by omega) a1]
  simp only
  rw [num_put (by omega) a2]
  simp only
  rw [num_put (by omega) a3]
  simp only
  rw [num_put (by omega) a4]
  simp only
  rw [num_put (by omega) a5]
  simp only
  unfold rdRest
  rw [text_put (by omega) a6]
  simp only
  rw [text_put (by omega) a7]
  simp only
  rw [manyAt_put l1 (by decide) hfa a8]
  simp only [List.length_append]
  rw [show (kind.toNat : Int) = kind by omega, show (view.toNat : Int) = view by omega, show (seq.toNat : Int) = seq by omega, show (client.toNat : Int) = client by omega, show (stamp.toNat : Int) = stamp by omega]
  congr 1
  simp only [eq_iff_iff]
  omega

theorem body_get {s : ByteArray} {b : Bd} (h : rdBody s = .ok b) : At s 0 (putBody b) ∧ (putBody b).length = s.size := by
  rw [rdBody_all] at h
  cases hx0 : num s 0 with
  | error e => rw [hx0] at h; cases h
  | ok r =>
    obtain ⟨x0, p0⟩ := r
    obtain ⟨a0, b0⟩ := num_get hx0
    rw [hx0] at h
    simp only at h
    cases hx1 : num s p0 with
    | error e => rw [hx1] at h; cases h
    | ok r =>
      obtain ⟨x1, p1⟩ := r
      obtain ⟨a1, b1⟩ := num_get hx1
      rw [hx1] at h
      simp only at h
      cases hx2 : num s p1 with
      | error e => rw [hx2] at h; cases h
      | ok r =>
        obtain ⟨x2, p2⟩ := r
        obtain ⟨a2, b2⟩ := num_get hx2
        rw [hx2] at h
        simp only at h
        cases hx3 : num s p2 with
        | error e => rw [hx3] at h; cases h
        | ok r =>
          obtain ⟨x3, p3⟩ := r
          obtain ⟨a3, b3⟩ := num_get hx3
          rw [hx3] at h
          simp only at h
          cases hx4 : num s p3 with
          | error e => rw [hx4] at h; cases h
          | ok r =>
            obtain ⟨x4, p4⟩ := r
            obtain ⟨a4, b4⟩ := num_get hx4
            rw [hx4] at h
            simp only at h
            unfold rdRest at h
            cases hx5 : text s p4 with
            | error e => rw [hx5] at h; cases h
            | ok r =>
              obtain ⟨x5, p5⟩ := r
              obtain ⟨a5, b5⟩ := text_get hx5
              rw [hx5] at h
              simp only at h
              cases hx6 : text s p5 with
              | error e => rw [hx6] at h; cases h
              | ok r =>
                obtain ⟨x6, p6⟩ := r
                obtain ⟨a6, b6⟩ := text_get hx6
                rw [hx6] at h
                simp only at h
                cases hx7 : manyAt s 64 p6 with
                | error e => rw [hx7] at h; cases h
                | ok r =>
                  obtain ⟨x7, p7⟩ := r
                  obtain ⟨a7, b7⟩ := manyAt_get hx7
                  rw [hx7] at h
                  simp only at h
                  have hp := manyAt_bd hx7
                  split at h
                  · cases h
                  · simp only [Except.ok.injEq] at h
                    subst h
                    rw [putBody_eq]
                    simp only [Int.toNat_natCast]
                    refine ⟨at_append.2 ⟨a0, ?_⟩, by simp only [List.length_append] at *; omega⟩
                    rw [← b0]
                    refine at_append.2 ⟨a1, ?_⟩
                    rw [← b1]
                    refine at_append.2 ⟨a2, ?_⟩
                    rw [← b2]
                    refine at_append.2 ⟨a3, ?_⟩
                    rw [← b3]
                    refine at_append.2 ⟨a4, ?_⟩
                    rw [← b4]
                    refine at_append.2 ⟨a5, ?_⟩
                    rw [← b5]
                    refine at_append.2 ⟨a6, ?_⟩
                    rw [← b6]
                    exact a7

theorem rdBody_err {s : ByteArray} : rdBody s ≠ .error 0 := by
  rw [rdBody_all]
  intro h
  cases hx : num s 0 with
  | error e => rw [hx] at h; have := num_err hx; simp only [Except.error.injEq] at h; omega
  | ok r =>
    obtain ⟨x0, p0⟩ := r
    rw [hx] at h
    simp only at h
    clear hx
    cases hx : num s p0 with
    | error e => rw [hx] at h; have := num_err hx; simp only [Except.error.injEq] at h; omega
    | ok r =>
      obtain ⟨x1, p1⟩ := r
      rw [hx] at h
      simp only at h
      clear hx
      cases hx : num s p1 with
      | error e => rw [hx] at h; have := num_err hx; simp only [Except.error.injEq] at h; omega
      | ok r =>
        obtain ⟨x2, p2⟩ := r
        rw [hx] at h
        simp only at h
        clear hx
        cases hx : num s p2 with
        | error e => rw [hx] at h; have := num_err hx; simp only [Except.error.injEq] at h; omega
        | ok r =>
          obtain ⟨x3, p3⟩ := r
          rw [hx] at h
          simp only at h
          clear hx
          cases hx : num s p3 with
          | error e => rw [hx] at h; have := num_err hx; simp only [Except.error.injEq] at h; omega
          | ok r =>
            obtain ⟨x4, p4⟩ := r
            rw [hx] at h
            simp only at h
            clear hx
            unfold rdRest at h
            cases hx : text s p4 with
            | error e => rw [hx] at h; have := text_err hx; simp only [Except.error.injEq] at h; omega
            | ok r =>
              obtain ⟨x5, p5⟩ := r
              rw [hx] at h
              simp only at h
              clear hx
              cases hx : text s p5 with
              | error e => rw [hx] at h; have := text_err hx; simp only [Except.error.injEq] at h; omega
              | ok r =>
                obtain ⟨x6, p6⟩ := r
                rw [hx] at h
                simp only at h
                clear hx
                cases hx : manyAt s 64 p6 with
                | error e => rw [hx] at h; have := manyAt_err hx; simp only [Except.error.injEq] at h; omega
                | ok r =>
                  obtain ⟨x7, p7⟩ := r
                  rw [hx] at h
                  simp only at h
                  clear hx
                  split at h
                  · simp at h
                  · cases h

/-- A body that may be, and whose bytes are not too many, is read from its bytes. -/
theorem of_bytes {b : Bd} {s : ByteArray} (h : bytesE b = (s, 0)) : ofBody s = (b, 0) ∧ s = bs (putBody b) ∧ rightE b = 0 ∧ s.size ≤ 1048576 := by
  unfold bytesE at h
  by_cases hr : rightE b = 0
  · rw [if_pos hr] at h
    by_cases hl : 1048576 < (putBody b).length
    · rw [if_pos hl] at h
      simp only [Prod.mk.injEq] at h
      omega
    · rw [if_neg hl] at h
      simp only [Prod.mk.injEq, and_true] at h
      have hs : s.size = (putBody b).length := by rw [← h, bs_size]
      refine ⟨?_, h.symm, hr, by omega⟩
      unfold ofBody
      rw [if_neg (by omega), body_put hr (by rw [← h]; exact at_self _), if_neg (by omega)]
      simp only
      rw [if_pos hr]
  · rw [if_neg hr] at h
    simp only [Prod.mk.injEq] at h
    exact absurd h.2 hr
/-- Bytes that are read as a body are its bytes. -/
theorem bytes_of {b : Bd} {s : ByteArray} (h : ofBody s = (b, 0)) : bytesE b = (s, 0) := by
  unfold ofBody at h
  by_cases hl : 1048576 < s.size
  · rw [if_pos hl] at h
    simp only [Prod.mk.injEq] at h
    omega
  · rw [if_neg hl] at h
    split at h
    · rename_i c hc
      simp only [Prod.mk.injEq] at h
      have hc0 : c = 0 := by omega
      subst hc0
      exact absurd hc rdBody_err
    · rename_i b' hb
      by_cases hr : rightE b' = 0
      · rw [if_pos hr] at h
        simp only [Prod.mk.injEq, and_true] at h
        subst h
        obtain ⟨h1, h2⟩ := body_get hb
        unfold bytesE
        rw [if_pos hr, if_neg (by omega), ← eq_bs h1 h2]
      · rw [if_neg hr] at h
        simp only [Prod.mk.injEq] at h
        exact absurd h.2 hr
end Go.Proofs.Ytfgpchffkpomoaa
