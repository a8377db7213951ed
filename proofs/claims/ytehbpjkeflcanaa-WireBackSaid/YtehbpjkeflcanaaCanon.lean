/- Bytes that are read as a body are just its bytes: the walk. -/
import Derived.Test.YtehbpjkeflcanaaPlainBd
import Derived.Test.YtehbpjkeflcanaaReads
namespace Go.Proofs.Ytehbpjkeflcanaa
set_option linter.unusedSimpArgs false
set_option linter.unusedVariables false
open Go.RowKit

theorem of_zero {b : Bd} {s : ByteArray} {x : Int} (h : ofBody s = (b, x)) (hx : x ≠ 0) : b = zeroBd := by
  unfold ofBody at h
  split at h
  · simp only [Prod.mk.injEq] at h; exact h.1.symm
  · split at h
    · simp only [Prod.mk.injEq] at h; exact h.1.symm
    · split at h
      · simp only [Prod.mk.injEq] at h; exact absurd h.2.symm hx
      · simp only [Prod.mk.injEq] at h; exact h.1.symm

set_option maxRecDepth 100000 in
theorem wireCanon_calls (s : ByteArray) (w : World) (_hs : s.size ≤ maxLen) : Calls Try.prog 7 #[.string s] w (BoolPost true w) := by
  obtain ⟨⟨b, x⟩, hr⟩ : ∃ r, ofBody s = r := ⟨_, rfl⟩
  by_cases hx : x = 0
  · subst hx
    have H1 := Lib.hid (of_calls s)
    unfold OfPost at H1
    rw [hr] at H1
    have H2 := Lib.hid (body_calls b)
    unfold StrErr at H2
    rw [bytes_of hr] at H2
    clear hr
    obtain ⟨kind, view, seq, client, stamp, digest, tx, list⟩ := b
    unfold Bd.val Bd.cells at *
    simp only at *
    go_enter Try.func7, Try.ntmps7
    go_wp2_with fail
    refine (H1.out _).mono ?_
    rintro e w1 ⟨A, c, rfl, hb1, ho1⟩
    have HO1 := Lib.hid ho1
    have HB1 := Lib.hid (hb1.alloc hb1.size (.cells #[.int .i64 kind, .int .i64 view, .int .i64 seq, .int .i64 client, .int .i64 stamp, .string digest, .string tx, .slice A list.length c] 24))
    clear ho1 hb1
    go_wp2_with fail
    refine (H2.out A c _ (Sl.of_own (HO1.out.alloc _))).mono ?_
    rintro e w2 ⟨rfl, hb2⟩
    have HB := Lib.hid (HB1.out.trans (hb2.mono HB1.out.size))
    clear hb2
    go_wp2_with (first | (go_at_call 18; refine (awake_calls _).mono ?_; rintro e wn ⟨rfl, hbn⟩; have HBn := Lib.hid (HB.out.trans (hbn.mono HB.out.size)); clear HB hbn; have HB := HBn; clear HBn))
    go_ret
    exact ⟨rfl, HB.out⟩
  · obtain rfl := of_zero hr hx
    have hd : (x == 0) = false := by simpa using hx
    have H1 := Lib.hid (of_two hr)
    unfold TwoPost at H1
    simp only [zeroBd, List.length_nil] at H1
    clear hr hx
    go_enter Try.func7, Try.ntmps7
    go_wp2_with fail
    refine (H1.out _).mono ?_
    rintro e w1 ⟨A, c, rfl, hb1⟩
    have HB := Lib.hid (hb1.alloc hb1.size (.cells #[.int .i64 0, .int .i64 0, .int .i64 0, .int .i64 0, .int .i64 0, .string ⟨#[]⟩, .string ⟨#[]⟩, .slice A 0 c] 24))
    clear hb1
    go_wp2_with (first | (go_at_call 18; refine (awake_calls _).mono ?_; rintro e wn ⟨rfl, hbn⟩; have HBn := Lib.hid (HB.out.trans (hbn.mono HB.out.size)); clear HB hbn; have HB := HBn; clear HBn))
    go_ret
    exact ⟨rfl, HB.out⟩
end Go.Proofs.Ytehbpjkeflcanaa
