/- Numbers, laid and read: both sides say the same: the walk. -/
import Derived.Test.YtehbpjkeflcanaaRefGet
import Derived.Test.YtehbpjkeflcanaaAwake
namespace Go.Proofs.Ytehbpjkeflcanaa
set_option linter.unusedSimpArgs false
set_option linter.unusedVariables false
open Go.RowKit

theorem getInt_out {s : ByteArray} {p : Int} (h : ¬ (0 ≤ p ∧ p ≤ s.size)) : getInt s p = (0, 0, 1) := by unfold getInt; rw [if_neg h]
theorem putInt_out {n : Int} (h : ¬ (0 ≤ n ∧ n ≤ 9007199254740992)) : putInt n = (⟨#[]⟩, 1) := by unfold putInt; rw [if_neg h]
theorem putInt_in {n : Int} (h : 0 ≤ n ∧ n ≤ 9007199254740992) : putInt n = (bs (putNum n.toNat), 0) := by unfold putInt; rw [if_pos h]

set_option maxRecDepth 100000 in
theorem wireInts_calls (n : Int) (s : ByteArray) (p : Int) (w : World) (hs : s.size ≤ maxLen) : Calls Try.prog 9 #[.int .i64 n, .string s, .int .i64 p] w (BoolPost true w) := by
  have H1 := Lib.hid (putInt_calls n)
  have H2 := Lib.hid (fun w => getInt_calls s p w hs)
  have HB := Lib.hid (Below.refl w.heap.size w)
  unfold StrErr at H1
  unfold GetIntPost at H2
  by_cases hn : 0 ≤ n ∧ n ≤ 9007199254740992
  · rw [putInt_in hn] at H1
    have H4 := Lib.hid (fun w => rNumber_calls n w hn.1 hn.2)
    obtain ⟨t, ht⟩ : ∃ t, t = bs (putNum n.toNat) := ⟨_, rfl⟩
    rw [← ht] at H1 H4
    have hd0 : decide (n < 0) = false := by simp; omega
    have hd1 : decide (9007199254740992 < n) = false := by simp; omega
    clear ht hn
    by_cases hp : 0 ≤ p ∧ p ≤ s.size
    · obtain ⟨q, rfl⟩ := Int.eq_ofNat_of_zero_le hp.1
      have hp1 : q ≤ s.size := by omega
      have H5 := Lib.hid (fun w => rInt_calls s q w hs hp1)
      unfold GetIntPost at H5
      obtain ⟨r, hr⟩ : ∃ r, r = getInt s q := ⟨_, rfl⟩
      rw [← hr] at H2 H5
      obtain ⟨x, y, z⟩ := r
      have hd2 : decide ((q : Int) < 0) = false := by simp
      have hd3 : decide ((s.size : Int) < (q : Int)) = false := by simp; omega
      clear hr hp
      go_enter Try.func9, Try.ntmps9
      go_wp2_with (first | (go_at_call 25; refine (H1.out _).mono ?_; rintro e wn ⟨rfl, hbn⟩; have HBn := Lib.hid (HB.out.trans (hbn.mono HB.out.size)); clear HB hbn; have HB := HBn; clear HBn) | (go_at_call 26; refine (H2.out _).mono ?_; rintro e wn ⟨rfl, hbn⟩; have HBn := Lib.hid (HB.out.trans (hbn.mono HB.out.size)); clear HB hbn; have HB := HBn; clear HBn) | (go_at_call 27; refine (H4.out _).mono ?_; rintro e wn ⟨rfl, hbn⟩; have HBn := Lib.hid (HB.out.trans (hbn.mono HB.out.size)); clear HB hbn; have HB := HBn; clear HBn) | (go_at_call 28; refine (H5.out _).mono ?_; rintro e wn ⟨rfl, hbn⟩; have HBn := Lib.hid (HB.out.trans (hbn.mono HB.out.size)); clear HB hbn; have HB := HBn; clear HBn) | (go_at_call 18; refine (awake_calls _).mono ?_; rintro e wn ⟨rfl, hbn⟩; have HBn := Lib.hid (HB.out.trans (hbn.mono HB.out.size)); clear HB hbn; have HB := HBn; clear HBn))
      go_ret
      exact ⟨rfl, HB.out⟩
    · rw [getInt_out hp] at H2
      by_cases hp0 : p < 0
      · have hd3 : decide (p < 0) = true := by simp; omega
        clear hp hp0
        go_enter Try.func9, Try.ntmps9
        go_wp2_with (first | (go_at_call 25; refine (H1.out _).mono ?_; rintro e wn ⟨rfl, hbn⟩; have HBn := Lib.hid (HB.out.trans (hbn.mono HB.out.size)); clear HB hbn; have HB := HBn; clear HBn) | (go_at_call 26; refine (H2.out _).mono ?_; rintro e wn ⟨rfl, hbn⟩; have HBn := Lib.hid (HB.out.trans (hbn.mono HB.out.size)); clear HB hbn; have HB := HBn; clear HBn) | (go_at_call 27; refine (H4.out _).mono ?_; rintro e wn ⟨rfl, hbn⟩; have HBn := Lib.hid (HB.out.trans (hbn.mono HB.out.size)); clear HB hbn; have HB := HBn; clear HBn) | (go_at_call 18; refine (awake_calls _).mono ?_; rintro e wn ⟨rfl, hbn⟩; have HBn := Lib.hid (HB.out.trans (hbn.mono HB.out.size)); clear HB hbn; have HB := HBn; clear HBn))
        go_ret
        exact ⟨rfl, HB.out⟩
      · have hd3 : decide (p < 0) = false := by simp; omega
        have hd4 : decide ((s.size : Int) < p) = true := by simp; omega
        clear hp hp0
        go_enter Try.func9, Try.ntmps9
        go_wp2_with (first | (go_at_call 25; refine (H1.out _).mono ?_; rintro e wn ⟨rfl, hbn⟩; have HBn := Lib.hid (HB.out.trans (hbn.mono HB.out.size)); clear HB hbn; have HB := HBn; clear HBn) | (go_at_call 26; refine (H2.out _).mono ?_; rintro e wn ⟨rfl, hbn⟩; have HBn := Lib.hid (HB.out.trans (hbn.mono HB.out.size)); clear HB hbn; have HB := HBn; clear HBn) | (go_at_call 27; refine (H4.out _).mono ?_; rintro e wn ⟨rfl, hbn⟩; have HBn := Lib.hid (HB.out.trans (hbn.mono HB.out.size)); clear HB hbn; have HB := HBn; clear HBn) | (go_at_call 18; refine (awake_calls _).mono ?_; rintro e wn ⟨rfl, hbn⟩; have HBn := Lib.hid (HB.out.trans (hbn.mono HB.out.size)); clear HB hbn; have HB := HBn; clear HBn))
        go_ret
        exact ⟨rfl, HB.out⟩
  · rw [putInt_out hn] at H1
    by_cases hn0 : n < 0
    · have hd0 : decide (n < 0) = true := by simp; omega
      clear hn hn0
      by_cases hp : 0 ≤ p ∧ p ≤ s.size
      · obtain ⟨q, rfl⟩ := Int.eq_ofNat_of_zero_le hp.1
        have hp1 : q ≤ s.size := by omega
        have H5 := Lib.hid (fun w => rInt_calls s q w hs hp1)
        unfold GetIntPost at H5
        obtain ⟨r, hr⟩ : ∃ r, r = getInt s q := ⟨_, rfl⟩
        rw [← hr] at H2 H5
        obtain ⟨x, y, z⟩ := r
        have hd2 : decide ((q : Int) < 0) = false := by simp
        have hd3 : decide ((s.size : Int) < (q : Int)) = false := by simp; omega
        clear hr hp
        go_enter Try.func9, Try.ntmps9
        go_wp2_with (first | (go_at_call 25; refine (H1.out _).mono ?_; rintro e wn ⟨rfl, hbn⟩; have HBn := Lib.hid (HB.out.trans (hbn.mono HB.out.size)); clear HB hbn; have HB := HBn; clear HBn) | (go_at_call 26; refine (H2.out _).mono ?_; rintro e wn ⟨rfl, hbn⟩; have HBn := Lib.hid (HB.out.trans (hbn.mono HB.out.size)); clear HB hbn; have HB := HBn; clear HBn) | (go_at_call 28; refine (H5.out _).mono ?_; rintro e wn ⟨rfl, hbn⟩; have HBn := Lib.hid (HB.out.trans (hbn.mono HB.out.size)); clear HB hbn; have HB := HBn; clear HBn) | (go_at_call 18; refine (awake_calls _).mono ?_; rintro e wn ⟨rfl, hbn⟩; have HBn := Lib.hid (HB.out.trans (hbn.mono HB.out.size)); clear HB hbn; have HB := HBn; clear HBn))
        go_ret
        exact ⟨rfl, HB.out⟩
      · rw [getInt_out hp] at H2
        by_cases hp0 : p < 0
        · have hd3 : decide (p < 0) = true := by simp; omega
          clear hp hp0
          go_enter Try.func9, Try.ntmps9
          go_wp2_with (first | (go_at_call 25; refine (H1.out _).mono ?_; rintro e wn ⟨rfl, hbn⟩; have HBn := Lib.hid (HB.out.trans (hbn.mono HB.out.size)); clear HB hbn; have HB := HBn; clear HBn) | (go_at_call 26; refine (H2.out _).mono ?_; rintro e wn ⟨rfl, hbn⟩; have HBn := Lib.hid (HB.out.trans (hbn.mono HB.out.size)); clear HB hbn; have HB := HBn; clear HBn) | (go_at_call 18; refine (awake_calls _).mono ?_; rintro e wn ⟨rfl, hbn⟩; have HBn := Lib.hid (HB.out.trans (hbn.mono HB.out.size)); clear HB hbn; have HB := HBn; clear HBn))
          go_ret
          exact ⟨rfl, HB.out⟩
        · have hd3 : decide (p < 0) = false := by simp; omega
          have hd4 : decide ((s.size : Int) < p) = true := by simp; omega
          clear hp hp0
          go_enter Try.func9, Try.ntmps9
          go_wp2_with (first | (go_at_call 25; refine (H1.out _).mono ?_; rintro e wn ⟨rfl, hbn⟩; have HBn := Lib.hid (HB.out.trans (hbn.mono HB.out.size)); clear HB hbn; have HB := HBn; clear HBn) | (go_at_call 26; refine (H2.out _).mono ?_; rintro e wn ⟨rfl, hbn⟩; have HBn := Lib.hid (HB.out.trans (hbn.mono HB.out.size)); clear HB hbn; have HB := HBn; clear HBn) | (go_at_call 18; refine (awake_calls _).mono ?_; rintro e wn ⟨rfl, hbn⟩; have HBn := Lib.hid (HB.out.trans (hbn.mono HB.out.size)); clear HB hbn; have HB := HBn; clear HBn))
          go_ret
          exact ⟨rfl, HB.out⟩
    · have hd0 : decide (n < 0) = false := by simp; omega
      have hd1 : decide (9007199254740992 < n) = true := by simp; omega
      clear hn hn0
      by_cases hp : 0 ≤ p ∧ p ≤ s.size
      · obtain ⟨q, rfl⟩ := Int.eq_ofNat_of_zero_le hp.1
        have hp1 : q ≤ s.size := by omega
        have H5 := Lib.hid (fun w => rInt_calls s q w hs hp1)
        unfold GetIntPost at H5
        obtain ⟨r, hr⟩ : ∃ r, r = getInt s q := ⟨_, rfl⟩
        rw [← hr] at H2 H5
        obtain ⟨x, y, z⟩ := r
        have hd2 : decide ((q : Int) < 0) = false := by simp
        have hd3 : decide ((s.size : Int) < (q : Int)) = false := by simp; omega
        clear hr hp
        go_enter Try.func9, Try.ntmps9
        go_wp2_with (first | (go_at_call 25; refine (H1.out _).mono ?_; rintro e wn ⟨rfl, hbn⟩; have HBn := Lib.hid (HB.out.trans (hbn.mono HB.out.size)); clear HB hbn; have HB := HBn; clear HBn) | (go_at_call 26; refine (H2.out _).mono ?_; rintro e wn ⟨rfl, hbn⟩; have HBn := Lib.hid (HB.out.trans (hbn.mono HB.out.size)); clear HB hbn; have HB := HBn; clear HBn) | (go_at_call 28; refine (H5.out _).mono ?_; rintro e wn ⟨rfl, hbn⟩; have HBn := Lib.hid (HB.out.trans (hbn.mono HB.out.size)); clear HB hbn; have HB := HBn; clear HBn) | (go_at_call 18; refine (awake_calls _).mono ?_; rintro e wn ⟨rfl, hbn⟩; have HBn := Lib.hid (HB.out.trans (hbn.mono HB.out.size)); clear HB hbn; have HB := HBn; clear HBn))
        go_ret
        exact ⟨rfl, HB.out⟩
      · rw [getInt_out hp] at H2
        by_cases hp0 : p < 0
        · have hd3 : decide (p < 0) = true := by simp; omega
          clear hp hp0
          go_enter Try.func9, Try.ntmps9
          go_wp2_with (first | (go_at_call 25; refine (H1.out _).mono ?_; rintro e wn ⟨rfl, hbn⟩; have HBn := Lib.hid (HB.out.trans (hbn.mono HB.out.size)); clear HB hbn; have HB := HBn; clear HBn) | (go_at_call 26; refine (H2.out _).mono ?_; rintro e wn ⟨rfl, hbn⟩; have HBn := Lib.hid (HB.out.trans (hbn.mono HB.out.size)); clear HB hbn; have HB := HBn; clear HBn) | (go_at_call 18; refine (awake_calls _).mono ?_; rintro e wn ⟨rfl, hbn⟩; have HBn := Lib.hid (HB.out.trans (hbn.mono HB.out.size)); clear HB hbn; have HB := HBn; clear HBn))
          go_ret
          exact ⟨rfl, HB.out⟩
        · have hd3 : decide (p < 0) = false := by simp; omega
          have hd4 : decide ((s.size : Int) < p) = true := by simp; omega
          clear hp hp0
          go_enter Try.func9, Try.ntmps9
          go_wp2_with (first | (go_at_call 25; refine (H1.out _).mono ?_; rintro e wn ⟨rfl, hbn⟩; have HBn := Lib.hid (HB.out.trans (hbn.mono HB.out.size)); clear HB hbn; have HB := HBn; clear HBn) | (go_at_call 26; refine (H2.out _).mono ?_; rintro e wn ⟨rfl, hbn⟩; have HBn := Lib.hid (HB.out.trans (hbn.mono HB.out.size)); clear HB hbn; have HB := HBn; clear HBn) | (go_at_call 18; refine (awake_calls _).mono ?_; rintro e wn ⟨rfl, hbn⟩; have HBn := Lib.hid (HB.out.trans (hbn.mono HB.out.size)); clear HB hbn; have HB := HBn; clear HBn))
          go_ret
          exact ⟨rfl, HB.out⟩
end Go.Proofs.Ytehbpjkeflcanaa
