/- Texts, laid and read: both sides say the same: the walk. -/
import Derived.Test.YtehbpjkeflcanaaRefGet
import Derived.Test.YtehbpjkeflcanaaAwake
import Derived.Test.YtehbpjkeflcanaaInts
namespace Go.Proofs.Ytehbpjkeflcanaa
set_option linter.unusedSimpArgs false
set_option linter.unusedVariables false
open Go.RowKit

theorem getText_out {s : ByteArray} {p : Int} (h : ¬ (0 ≤ p ∧ p ≤ s.size)) : getText s p = (⟨#[]⟩, 0, 1) := by unfold getText; rw [if_neg h]
theorem putText_out {t : ByteArray} (h : ¬ t.size ≤ 1048576) : putTextE t = (⟨#[]⟩, 4) := by unfold putTextE; rw [if_neg h]
theorem putText_in {t : ByteArray} (h : t.size ≤ 1048576) : putTextE t = (bs (putText t), 0) := by unfold putTextE; rw [if_pos h]

set_option maxRecDepth 100000 in
theorem wireTexts_calls (u : ByteArray) (s : ByteArray) (p : Int) (w : World) (hs : s.size ≤ maxLen) (hu : u.size ≤ maxLen) : Calls Try.prog 10 #[.string u, .string s, .int .i64 p] w (BoolPost true w) := by
  have H1 := Lib.hid (fun w => putText_calls u w hu)
  have H2 := Lib.hid (fun w => getText_calls s p w hs)
  have HB := Lib.hid (Below.refl w.heap.size w)
  unfold StrErr at H1
  unfold GetTextPost at H2
  by_cases hn : u.size ≤ 1048576
  · rw [putText_in hn] at H1
    have H4 := Lib.hid (fun w => rLaid_calls u w (by omega))
    obtain ⟨t, ht⟩ : ∃ t, t = bs (putText u) := ⟨_, rfl⟩
    rw [← ht] at H1 H4
    have hd1 : decide ((1048576 : Int) < (u.size : Int)) = false := by simp; omega
    clear ht hn
    by_cases hp : 0 ≤ p ∧ p ≤ s.size
    · obtain ⟨q, rfl⟩ := Int.eq_ofNat_of_zero_le hp.1
      have hp1 : q ≤ s.size := by omega
      have H5 := Lib.hid (fun w => rText_calls s q w hs hp1)
      unfold GetTextPost at H5
      obtain ⟨r, hr⟩ : ∃ r, r = getText s q := ⟨_, rfl⟩
      rw [← hr] at H2 H5
      obtain ⟨x, y, z⟩ := r
      have hd2 : decide ((q : Int) < 0) = false := by simp
      have hd3 : decide ((s.size : Int) < (q : Int)) = false := by simp; omega
      clear hr hp
      go_enter Try.func10, Try.ntmps10
      go_wp2_with (first | (go_at_call 29; refine (H1.out _).mono ?_; rintro e wn ⟨rfl, hbn⟩; have HBn := Lib.hid (HB.out.trans (hbn.mono HB.out.size)); clear HB hbn; have HB := HBn; clear HBn) | (go_at_call 30; refine (H2.out _).mono ?_; rintro e wn ⟨rfl, hbn⟩; have HBn := Lib.hid (HB.out.trans (hbn.mono HB.out.size)); clear HB hbn; have HB := HBn; clear HBn) | (go_at_call 31; refine (H4.out _).mono ?_; rintro e wn ⟨rfl, hbn⟩; have HBn := Lib.hid (HB.out.trans (hbn.mono HB.out.size)); clear HB hbn; have HB := HBn; clear HBn) | (go_at_call 32; refine (H5.out _).mono ?_; rintro e wn ⟨rfl, hbn⟩; have HBn := Lib.hid (HB.out.trans (hbn.mono HB.out.size)); clear HB hbn; have HB := HBn; clear HBn) | (go_at_call 18; refine (awake_calls _).mono ?_; rintro e wn ⟨rfl, hbn⟩; have HBn := Lib.hid (HB.out.trans (hbn.mono HB.out.size)); clear HB hbn; have HB := HBn; clear HBn))
      go_ret
      exact ⟨rfl, HB.out⟩
    · rw [getText_out hp] at H2
      by_cases hp0 : p < 0
      · have hd3 : decide (p < 0) = true := by simp; omega
        clear hp hp0
        go_enter Try.func10, Try.ntmps10
        go_wp2_with (first | (go_at_call 29; refine (H1.out _).mono ?_; rintro e wn ⟨rfl, hbn⟩; have HBn := Lib.hid (HB.out.trans (hbn.mono HB.out.size)); clear HB hbn; have HB := HBn; clear HBn) | (go_at_call 30; refine (H2.out _).mono ?_; rintro e wn ⟨rfl, hbn⟩; have HBn := Lib.hid (HB.out.trans (hbn.mono HB.out.size)); clear HB hbn; have HB := HBn; clear HBn) | (go_at_call 31; refine (H4.out _).mono ?_; rintro e wn ⟨rfl, hbn⟩; have HBn := Lib.hid (HB.out.trans (hbn.mono HB.out.size)); clear HB hbn; have HB := HBn; clear HBn) | (go_at_call 18; refine (awake_calls _).mono ?_; rintro e wn ⟨rfl, hbn⟩; have HBn := Lib.hid (HB.out.trans (hbn.mono HB.out.size)); clear HB hbn; have HB := HBn; clear HBn))
        go_ret
        exact ⟨rfl, HB.out⟩
      · have hd3 : decide (p < 0) = false := by simp; omega
        have hd4 : decide ((s.size : Int) < p) = true := by simp; omega
        clear hp hp0
        go_enter Try.func10, Try.ntmps10
        go_wp2_with (first | (go_at_call 29; refine (H1.out _).mono ?_; rintro e wn ⟨rfl, hbn⟩; have HBn := Lib.hid (HB.out.trans (hbn.mono HB.out.size)); clear HB hbn; have HB := HBn; clear HBn) | (go_at_call 30; refine (H2.out _).mono ?_; rintro e wn ⟨rfl, hbn⟩; have HBn := Lib.hid (HB.out.trans (hbn.mono HB.out.size)); clear HB hbn; have HB := HBn; clear HBn) | (go_at_call 31; refine (H4.out _).mono ?_; rintro e wn ⟨rfl, hbn⟩; have HBn := Lib.hid (HB.out.trans (hbn.mono HB.out.size)); clear HB hbn; have HB := HBn; clear HBn) | (go_at_call 18; refine (awake_calls _).mono ?_; rintro e wn ⟨rfl, hbn⟩; have HBn := Lib.hid (HB.out.trans (hbn.mono HB.out.size)); clear HB hbn; have HB := HBn; clear HBn))
        go_ret
        exact ⟨rfl, HB.out⟩
  · rw [putText_out hn] at H1
    have hd1 : decide ((1048576 : Int) < (u.size : Int)) = true := by simp; omega
    clear hn
    by_cases hp : 0 ≤ p ∧ p ≤ s.size
    · obtain ⟨q, rfl⟩ := Int.eq_ofNat_of_zero_le hp.1
      have hp1 : q ≤ s.size := by omega
      have H5 := Lib.hid (fun w => rText_calls s q w hs hp1)
      unfold GetTextPost at H5
      obtain ⟨r, hr⟩ : ∃ r, r = getText s q := ⟨_, rfl⟩
      rw [← hr] at H2 H5
      obtain ⟨x, y, z⟩ := r
      have hd2 : decide ((q : Int) < 0) = false := by simp
      have hd3 : decide ((s.size : Int) < (q : Int)) = false := by simp; omega
      clear hr hp
      go_enter Try.func10, Try.ntmps10
      go_wp2_with (first | (go_at_call 29; refine (H1.out _).mono ?_; rintro e wn ⟨rfl, hbn⟩; have HBn := Lib.hid (HB.out.trans (hbn.mono HB.out.size)); clear HB hbn; have HB := HBn; clear HBn) | (go_at_call 30; refine (H2.out _).mono ?_; rintro e wn ⟨rfl, hbn⟩; have HBn := Lib.hid (HB.out.trans (hbn.mono HB.out.size)); clear HB hbn; have HB := HBn; clear HBn) | (go_at_call 32; refine (H5.out _).mono ?_; rintro e wn ⟨rfl, hbn⟩; have HBn := Lib.hid (HB.out.trans (hbn.mono HB.out.size)); clear HB hbn; have HB := HBn; clear HBn) | (go_at_call 18; refine (awake_calls _).mono ?_; rintro e wn ⟨rfl, hbn⟩; have HBn := Lib.hid (HB.out.trans (hbn.mono HB.out.size)); clear HB hbn; have HB := HBn; clear HBn))
      go_ret
      exact ⟨rfl, HB.out⟩
    · rw [getText_out hp] at H2
      by_cases hp0 : p < 0
      · have hd3 : decide (p < 0) = true := by simp; omega
        clear hp hp0
        go_enter Try.func10, Try.ntmps10
        go_wp2_with (first | (go_at_call 29; refine (H1.out _).mono ?_; rintro e wn ⟨rfl, hbn⟩; have HBn := Lib.hid (HB.out.trans (hbn.mono HB.out.size)); clear HB hbn; have HB := HBn; clear HBn) | (go_at_call 30; refine (H2.out _).mono ?_; rintro e wn ⟨rfl, hbn⟩; have HBn := Lib.hid (HB.out.trans (hbn.mono HB.out.size)); clear HB hbn; have HB := HBn; clear HBn) | (go_at_call 18; refine (awake_calls _).mono ?_; rintro e wn ⟨rfl, hbn⟩; have HBn := Lib.hid (HB.out.trans (hbn.mono HB.out.size)); clear HB hbn; have HB := HBn; clear HBn))
        go_ret
        exact ⟨rfl, HB.out⟩
      · have hd3 : decide (p < 0) = false := by simp; omega
        have hd4 : decide ((s.size : Int) < p) = true := by simp; omega
        clear hp hp0
        go_enter Try.func10, Try.ntmps10
        go_wp2_with (first | (go_at_call 29; refine (H1.out _).mono ?_; rintro e wn ⟨rfl, hbn⟩; have HBn := Lib.hid (HB.out.trans (hbn.mono HB.out.size)); clear HB hbn; have HB := HBn; clear HBn) | (go_at_call 30; refine (H2.out _).mono ?_; rintro e wn ⟨rfl, hbn⟩; have HBn := Lib.hid (HB.out.trans (hbn.mono HB.out.size)); clear HB hbn; have HB := HBn; clear HBn) | (go_at_call 18; refine (awake_calls _).mono ?_; rintro e wn ⟨rfl, hbn⟩; have HBn := Lib.hid (HB.out.trans (hbn.mono HB.out.size)); clear HB hbn; have HB := HBn; clear HBn))
        go_ret
        exact ⟨rfl, HB.out⟩
end Go.Proofs.Ytehbpjkeflcanaa
