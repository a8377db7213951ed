/- A body's bytes are read as it, with a byte more they are refused, and with some fewer too: the walk. -/
import Derived.Test.YtehbpjkeflcanaaShort
import Derived.Test.YtehbpjkeflcanaaCanon
namespace Go.Proofs.Ytehbpjkeflcanaa
set_option linter.unusedSimpArgs false
set_option linter.unusedVariables false
open Go.RowKit

theorem bytes_err {b : Bd} {s : ByteArray} {x : Int} (h : bytesE b = (s, x)) (hx : x ≠ 0) : s = ⟨#[]⟩ ∧ ((rightE b = x) ∨ (rightE b = 0 ∧ x = 4)) := by
  unfold bytesE at h
  by_cases hr : rightE b = 0
  · rw [if_pos hr] at h
    by_cases hl : 1048576 < (putBody b).length
    · rw [if_pos hl] at h
      simp only [Prod.mk.injEq] at h
      exact ⟨h.1.symm, .inr ⟨hr, h.2.symm⟩⟩
    · rw [if_neg hl] at h
      simp only [Prod.mk.injEq] at h
      exact absurd h.2.symm hx
  · rw [if_neg hr] at h
    simp only [Prod.mk.injEq] at h
    exact ⟨h.1.symm, .inl h.2⟩
theorem tmod_bd (cut : Int) (n : Nat) (hn : 0 < n) : ∃ k : Nat, k < n ∧ (Int.tmod cut n = k ∨ (Int.tmod cut n = -(k : Int) ∧ 0 < k)) := by
  have h1 := Int.natAbs_tmod cut n
  have h2 : (Int.tmod cut n).natAbs < n := by rw [h1, Int.natAbs_natCast]; exact Nat.mod_lt _ hn
  refine ⟨(Int.tmod cut n).natAbs, h2, ?_⟩
  omega

set_option maxHeartbeats 1000000 in
set_option maxRecDepth 100000 in
theorem wireBack_calls (b : Bd) (A : Option Addr) (c : Nat) (cut : Int) (more : ByteArray) (w : World) (hs : SgS w A c b.list) (hm : more.size ≤ 140737488351232) : Calls Try.prog 6 #[b.val A c, .int .i64 cut, .string more] w (BoolPost true w) := by
  have H1 := Lib.hid (body_calls b)
  unfold StrErr at H1
  obtain ⟨⟨s, x⟩, hr⟩ : ∃ r, bytesE b = r := ⟨_, rfl⟩
  rw [hr] at H1
  have HS := Lib.hid hs
  have HB := Lib.hid ((Below.refl w.heap.size w).alloc (Nat.le_refl _) (.cells (b.cells A c) 24))
  have HX := Lib.hid (Box.new w (b.cells A c) 24)
  by_cases hx : x = 0
  · subst hx
    have H2 := Lib.hid (of_calls s)
    unfold OfPost at H2
    rw [(of_bytes hr).1] at H2
    have H3 := Lib.hid (fun B p q w hs ht => same_calls b b A B p q w hs ht)
    rw [sameBd_refl] at H3
    have HMORE := Lib.hid (fun (h1 : 0 < more.size) (h2 : s.size + more.size ≤ 1048576) => of_two (of_more hr h1 h2))
    have HSHORT := Lib.hid (fun (k : Nat) (h1 : k < s.size) => of_two (of_short_bytes hr h1))
    have hpos := bytes_pos hr
    have hsb := (of_bytes hr).2.2.2
    obtain ⟨k, hk, hkk⟩ := tmod_bd cut s.size hpos
    have HKK := Lib.hid hkk
    have hd0 : ((s.size : Int) == 0) = false := by rw [beq_eq_false_iff_ne]; omega
    have HSH := Lib.hid (HSHORT.out k hk)
    unfold TwoPost at HSH HMORE
    simp only [zeroBd, List.length_nil] at HSH HMORE
    clear hr hs hkk HSHORT
    obtain ⟨kind, view, seq, client, stamp, digest, tx, list⟩ := b
    unfold Bd.val Bd.cells at *
    simp only at *
    go_enter Try.func6, Try.ntmps6
    go_wp2_with fail
    refine (H1.out A c _ (HS.out.below HB.out)).mono ?_
    rintro e w1 ⟨rfl, hb1⟩
    have HX1 := Lib.hid (HX.out.call hb1)
    have HB1 := Lib.hid (HB.out.trans (hb1.mono HB.out.size))
    clear HX HB hb1
    go_wp2_with fail
    refine (H2.out _).mono ?_
    rintro e w2 ⟨B, d, rfl, hb2, ho2⟩
    have HX2 := Lib.hid ((HX1.out.call hb2).alloc (.cells #[.int .i64 kind, .int .i64 view, .int .i64 seq, .int .i64 client, .int .i64 stamp, .string digest, .string tx, .slice B list.length d] 24))
    have HO2 := Lib.hid (ho2.alloc (.cells #[.int .i64 kind, .int .i64 view, .int .i64 seq, .int .i64 client, .int .i64 stamp, .string digest, .string tx, .slice B list.length d] 24))
    have hbb := HB1.out.trans (hb2.mono HB1.out.size)
    have HB := Lib.hid (hbb.alloc hbb.size (.cells #[.int .i64 kind, .int .i64 view, .int .i64 seq, .int .i64 client, .int .i64 stamp, .string digest, .string tx, .slice B list.length d] 24))
    obtain ⟨e0, e1, e2, e3, e4, e5, e6, e7⟩ := boxS HX2.out
    clear hb2 ho2 hbb HX1 HB1
    by_cases h0 : 0 < more.size
    · have hd3 : more.toList.isEmpty = false := by have := has_text more; rw [decide_eq_true h0] at this; simpa using this
      by_cases h1 : s.size + more.size ≤ 1048576
      · have hd4 : decide ((s.size : Int) + (more.size : Int) ≤ 1048576) = true := by simp; omega
        have hcat : ¬ 9223372036854775807 < s.size + more.size := by omega
        have HM2 := Lib.hid (HMORE.out h0 h1)
        clear HMORE
        rcases HKK.out with hq | ⟨hq, hk0⟩
        · have hd5 : decide ((k : Int) < 0) = false := by simp
          go_wp2_with (first | (go_at_call 22; refine (H3.out B c d _ (HS.out.below HB.out) (Sl.of_own HO2.out)).mono ?_; rintro e wn ⟨rfl, hbn⟩; have HBn := Lib.hid (HB.out.trans (hbn.mono HB.out.size)); clear HB hbn; have HB := HBn; clear HBn) | (go_at_call 23; with_reducible refine (HM2.out _).mono ?_; rintro e w4 ⟨A4, c4, rfl, hb4⟩; have HB4 := Lib.hid (HB.out.trans (hb4.mono HB.out.size)); have HB3 := Lib.hid (HB4.out.alloc HB4.out.size (.cells #[.int .i64 0, .int .i64 0, .int .i64 0, .int .i64 0, .int .i64 0, .string ⟨#[]⟩, .string ⟨#[]⟩, .slice A4 0 c4] 24)); clear HB hb4; have HB := HB3; clear HB3 HB4) | (go_at_call 23; with_reducible refine (HSH.out _).mono ?_; rintro e w5 ⟨A5, c5, rfl, hb5⟩; have HB5 := Lib.hid (HB.out.trans (hb5.mono HB.out.size)); have HB6 := Lib.hid (HB5.out.alloc HB5.out.size (.cells #[.int .i64 0, .int .i64 0, .int .i64 0, .int .i64 0, .int .i64 0, .string ⟨#[]⟩, .string ⟨#[]⟩, .slice A5 0 c5] 24)); clear HB hb5; have HB := HB6; clear HB6 HB5) | (go_at_call 18; refine (awake_calls _).mono ?_; rintro e wn ⟨rfl, hbn⟩; have HBn := Lib.hid (HB.out.trans (hbn.mono HB.out.size)); clear HB hbn; have HB := HBn; clear HBn))
          go_ret
          exact ⟨rfl, HB.out⟩
        · have hd5 : decide (-(k : Int) < 0) = true := by simp; omega
          have hneg : 0 - -(k : Int) = (k : Int) := by omega
          go_wp2_with (first | (go_at_call 22; refine (H3.out B c d _ (HS.out.below HB.out) (Sl.of_own HO2.out)).mono ?_; rintro e wn ⟨rfl, hbn⟩; have HBn := Lib.hid (HB.out.trans (hbn.mono HB.out.size)); clear HB hbn; have HB := HBn; clear HBn) | (go_at_call 23; with_reducible refine (HM2.out _).mono ?_; rintro e w4 ⟨A4, c4, rfl, hb4⟩; have HB4 := Lib.hid (HB.out.trans (hb4.mono HB.out.size)); have HB3 := Lib.hid (HB4.out.alloc HB4.out.size (.cells #[.int .i64 0, .int .i64 0, .int .i64 0, .int .i64 0, .int .i64 0, .string ⟨#[]⟩, .string ⟨#[]⟩, .slice A4 0 c4] 24)); clear HB hb4; have HB := HB3; clear HB3 HB4) | (go_at_call 23; with_reducible refine (HSH.out _).mono ?_; rintro e w5 ⟨A5, c5, rfl, hb5⟩; have HB5 := Lib.hid (HB.out.trans (hb5.mono HB.out.size)); have HB6 := Lib.hid (HB5.out.alloc HB5.out.size (.cells #[.int .i64 0, .int .i64 0, .int .i64 0, .int .i64 0, .int .i64 0, .string ⟨#[]⟩, .string ⟨#[]⟩, .slice A5 0 c5] 24)); clear HB hb5; have HB := HB6; clear HB6 HB5) | (go_at_call 18; refine (awake_calls _).mono ?_; rintro e wn ⟨rfl, hbn⟩; have HBn := Lib.hid (HB.out.trans (hbn.mono HB.out.size)); clear HB hbn; have HB := HBn; clear HBn))
          go_ret
          exact ⟨rfl, HB.out⟩
      · have hd4 : decide ((s.size : Int) + (more.size : Int) ≤ 1048576) = false := by simp; omega
        clear HMORE
        rcases HKK.out with hq | ⟨hq, hk0⟩
        · have hd5 : decide ((k : Int) < 0) = false := by simp
          go_wp2_with (first | (go_at_call 22; refine (H3.out B c d _ (HS.out.below HB.out) (Sl.of_own HO2.out)).mono ?_; rintro e wn ⟨rfl, hbn⟩; have HBn := Lib.hid (HB.out.trans (hbn.mono HB.out.size)); clear HB hbn; have HB := HBn; clear HBn) | (go_at_call 23; with_reducible refine (HSH.out _).mono ?_; rintro e w5 ⟨A5, c5, rfl, hb5⟩; have HB5 := Lib.hid (HB.out.trans (hb5.mono HB.out.size)); have HB6 := Lib.hid (HB5.out.alloc HB5.out.size (.cells #[.int .i64 0, .int .i64 0, .int .i64 0, .int .i64 0, .int .i64 0, .string ⟨#[]⟩, .string ⟨#[]⟩, .slice A5 0 c5] 24)); clear HB hb5; have HB := HB6; clear HB6 HB5) | (go_at_call 18; refine (awake_calls _).mono ?_; rintro e wn ⟨rfl, hbn⟩; have HBn := Lib.hid (HB.out.trans (hbn.mono HB.out.size)); clear HB hbn; have HB := HBn; clear HBn))
          go_ret
          exact ⟨rfl, HB.out⟩
        · have hd5 : decide (-(k : Int) < 0) = true := by simp; omega
          have hneg : 0 - -(k : Int) = (k : Int) := by omega
          go_wp2_with (first | (go_at_call 22; refine (H3.out B c d _ (HS.out.below HB.out) (Sl.of_own HO2.out)).mono ?_; rintro e wn ⟨rfl, hbn⟩; have HBn := Lib.hid (HB.out.trans (hbn.mono HB.out.size)); clear HB hbn; have HB := HBn; clear HBn) | (go_at_call 23; with_reducible refine (HSH.out _).mono ?_; rintro e w5 ⟨A5, c5, rfl, hb5⟩; have HB5 := Lib.hid (HB.out.trans (hb5.mono HB.out.size)); have HB6 := Lib.hid (HB5.out.alloc HB5.out.size (.cells #[.int .i64 0, .int .i64 0, .int .i64 0, .int .i64 0, .int .i64 0, .string ⟨#[]⟩, .string ⟨#[]⟩, .slice A5 0 c5] 24)); clear HB hb5; have HB := HB6; clear HB6 HB5) | (go_at_call 18; refine (awake_calls _).mono ?_; rintro e wn ⟨rfl, hbn⟩; have HBn := Lib.hid (HB.out.trans (hbn.mono HB.out.size)); clear HB hbn; have HB := HBn; clear HBn))
          go_ret
          exact ⟨rfl, HB.out⟩
    · have hd3 : more.toList.isEmpty = true := by have := has_text more; rw [decide_eq_false h0] at this; simpa using this
      clear HMORE
      rcases HKK.out with hq | ⟨hq, hk0⟩
      · have hd5 : decide ((k : Int) < 0) = false := by simp
        go_wp2_with (first | (go_at_call 22; refine (H3.out B c d _ (HS.out.below HB.out) (Sl.of_own HO2.out)).mono ?_; rintro e wn ⟨rfl, hbn⟩; have HBn := Lib.hid (HB.out.trans (hbn.mono HB.out.size)); clear HB hbn; have HB := HBn; clear HBn) | (go_at_call 23; with_reducible refine (HSH.out _).mono ?_; rintro e w5 ⟨A5, c5, rfl, hb5⟩; have HB5 := Lib.hid (HB.out.trans (hb5.mono HB.out.size)); have HB6 := Lib.hid (HB5.out.alloc HB5.out.size (.cells #[.int .i64 0, .int .i64 0, .int .i64 0, .int .i64 0, .int .i64 0, .string ⟨#[]⟩, .string ⟨#[]⟩, .slice A5 0 c5] 24)); clear HB hb5; have HB := HB6; clear HB6 HB5) | (go_at_call 18; refine (awake_calls _).mono ?_; rintro e wn ⟨rfl, hbn⟩; have HBn := Lib.hid (HB.out.trans (hbn.mono HB.out.size)); clear HB hbn; have HB := HBn; clear HBn))
        go_ret
        exact ⟨rfl, HB.out⟩
      · have hd5 : decide (-(k : Int) < 0) = true := by simp; omega
        have hneg : 0 - -(k : Int) = (k : Int) := by omega
        go_wp2_with (first | (go_at_call 22; refine (H3.out B c d _ (HS.out.below HB.out) (Sl.of_own HO2.out)).mono ?_; rintro e wn ⟨rfl, hbn⟩; have HBn := Lib.hid (HB.out.trans (hbn.mono HB.out.size)); clear HB hbn; have HB := HBn; clear HBn) | (go_at_call 23; with_reducible refine (HSH.out _).mono ?_; rintro e w5 ⟨A5, c5, rfl, hb5⟩; have HB5 := Lib.hid (HB.out.trans (hb5.mono HB.out.size)); have HB6 := Lib.hid (HB5.out.alloc HB5.out.size (.cells #[.int .i64 0, .int .i64 0, .int .i64 0, .int .i64 0, .int .i64 0, .string ⟨#[]⟩, .string ⟨#[]⟩, .slice A5 0 c5] 24)); clear HB hb5; have HB := HB6; clear HB6 HB5) | (go_at_call 18; refine (awake_calls _).mono ?_; rintro e wn ⟨rfl, hbn⟩; have HBn := Lib.hid (HB.out.trans (hbn.mono HB.out.size)); clear HB hbn; have HB := HBn; clear HBn))
        go_ret
        exact ⟨rfl, HB.out⟩
  · obtain ⟨rfl, hor⟩ := bytes_err hr hx
    have hd : (x == 0) = false := by simpa using hx
    have H4 := Lib.hid (rright_calls b A c)
    rw [right_eq] at H4
    clear hr hs
    rcases hor with hor | ⟨hor, rfl⟩
    · rw [hor] at H4
      clear hor hx
      obtain ⟨kind, view, seq, client, stamp, digest, tx, list⟩ := b
      unfold Bd.val Bd.cells at *
      simp only at *
      go_enter Try.func6, Try.ntmps6
      go_wp2_with fail
      refine (H1.out A c _ (HS.out.below HB.out)).mono ?_
      rintro e w1 ⟨rfl, hb1⟩
      have HX1 := Lib.hid (HX.out.call hb1)
      have HB1 := Lib.hid (HB.out.trans (hb1.mono HB.out.size))
      clear HX HB hb1
      have HB := HB1
      clear HB1
      obtain ⟨e0, e1, e2, e3, e4, e5, e6, e7⟩ := boxS HX1.out
      go_wp2_with (first | (go_at_call 17; refine (H4.out _ (HS.out.below HB.out)).mono ?_; rintro e wn ⟨rfl, hbn⟩; have HBn := Lib.hid (HB.out.trans (hbn.mono HB.out.size)); clear HB hbn; have HB := HBn; clear HBn) | (go_at_call 18; refine (awake_calls _).mono ?_; rintro e wn ⟨rfl, hbn⟩; have HBn := Lib.hid (HB.out.trans (hbn.mono HB.out.size)); clear HB hbn; have HB := HBn; clear HBn))
      go_ret
      exact ⟨rfl, HB.out⟩
    · rw [hor] at H4
      clear hor hx
      obtain ⟨kind, view, seq, client, stamp, digest, tx, list⟩ := b
      unfold Bd.val Bd.cells at *
      simp only at *
      go_enter Try.func6, Try.ntmps6
      go_wp2_with fail
      refine (H1.out A c _ (HS.out.below HB.out)).mono ?_
      rintro e w1 ⟨rfl, hb1⟩
      have HX1 := Lib.hid (HX.out.call hb1)
      have HB1 := Lib.hid (HB.out.trans (hb1.mono HB.out.size))
      clear HX HB hb1
      have HB := HB1
      clear HB1
      obtain ⟨e0, e1, e2, e3, e4, e5, e6, e7⟩ := boxS HX1.out
      go_wp2_with (first | (go_at_call 17; refine (H4.out _ (HS.out.below HB.out)).mono ?_; rintro e wn ⟨rfl, hbn⟩; have HBn := Lib.hid (HB.out.trans (hbn.mono HB.out.size)); clear HB hbn; have HB := HBn; clear HBn) | (go_at_call 18; refine (awake_calls _).mono ?_; rintro e wn ⟨rfl, hbn⟩; have HBn := Lib.hid (HB.out.trans (hbn.mono HB.out.size)); clear HB hbn; have HB := HBn; clear HBn))
      go_ret
      exact ⟨rfl, HB.out⟩
end Go.Proofs.Ytehbpjkeflcanaa
