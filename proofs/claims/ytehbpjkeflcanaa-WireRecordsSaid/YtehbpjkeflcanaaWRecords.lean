/- Records, laid and read: both sides say the same, there and back: the walk. -/
import Derived.Test.YtehbpjkeflcanaaOfRec
import Derived.Test.YtehbpjkeflcanaaWPutRec
import Derived.Test.YtehbpjkeflcanaaSameRec
import Derived.Test.YtehbpjkeflcanaaAwake
namespace Go.Proofs.Ytehbpjkeflcanaa
set_option linter.unusedSimpArgs false
set_option linter.unusedVariables false
open Go.RowKit

set_option maxHeartbeats 1000000 in
set_option maxRecDepth 100000 in
theorem wireRecords_calls (A : Option Addr) (c : Nat) (l : List Rc) (s : ByteArray) (w : World) (hA : RcS w A c l) (hs : s.size ≤ maxLen) : Calls Try.prog 14 #[.slice A l.length c, .string s] w (BoolPost true w) := by
  have hfit := hA.fits
  have HA := Lib.hid hA
  have H1 := Lib.hid (fun A c w hs => wrecs_calls A c l w hs)
  have H2 := Lib.hid (fun w hs => rrecs_calls A c l w hs)
  have H3 := Lib.hid (fun A B p q w hs ht => sameRecs_calls A B p q l l w hs ht)
  rw [sameR_iff.2 rfl] at H3
  have H4 := Lib.hid (fun w => ofRecs_calls s w hs)
  have H5 := Lib.hid (fun w => rofRecs_calls s w hs)
  unfold StrErr at H1 H2
  unfold OfRecsPost at H4 H5
  obtain ⟨⟨a, x⟩, hr⟩ : ∃ r, recsE l = r := ⟨_, rfl⟩
  rw [hr] at H1 H2
  obtain ⟨⟨l2, y⟩, hr2⟩ : ∃ r, ofRecsE s = r := ⟨_, rfl⟩
  rw [hr2] at H4 H5
  have H6 := Lib.hid (fun A B p q w hs ht => sameRecs_calls A B p q l2 l2 w hs ht)
  rw [sameR_iff.2 rfl] at H6
  simp only at H1 H2 H4 H5
  have HB := Lib.hid (Below.refl w.heap.size w)
  clear hr2 hs hA
  have HW1 := Lib.hid hr
  clear hr
  go_enter Try.func14, Try.ntmps14
  go_wp2_with fail
  refine (H1.out A c _ HA.out).mono ?_
  rintro e w2 ⟨rfl, hb2⟩
  have HB2 := Lib.hid hb2
  clear hb2
  go_wp2_with fail
  refine (H2.out _ (HA.out.below HB2.out)).mono ?_
  rintro e w3 ⟨rfl, hb3⟩
  have HB4 := Lib.hid (HB2.out.trans (hb3.mono HB2.out.size))
  clear hb3 HB2
  by_cases hx : x = 0
  · subst hx
    have hok := recs_ok HW1.out
    have H7 := Lib.hid (fun w => ofRecs_calls a w (by have := hok.2; simp only [maxLen]; omega))
    unfold OfRecsPost at H7
    rw [hok.1] at H7
    simp only at H7
    clear hok
    go_wp2_with fail
    refine (H7.out _).mono ?_
    rintro e w5 ⟨A5, c5, rfl, hb5, ho5⟩
    have HB5 := Lib.hid (HB4.out.trans (hb5.mono HB4.out.size))
    have HO5 := Lib.hid ho5
    clear hb5 ho5 HB4
    go_wp2_with fail
    refine (H3.out A5 A c5 c _ (Sl.of_own HO5.out) (HA.out.below HB5.out)).mono ?_
    rintro e w6 ⟨rfl, hb6⟩
    have HB6 := Lib.hid (HB5.out.trans (hb6.mono HB5.out.size))
    clear hb6 HB5 HO5
    go_wp2_with fail
    refine (H4.out _).mono ?_
    rintro e w7 ⟨A7, c7, rfl, hb7, ho7⟩
    have HB7 := Lib.hid (HB6.out.trans (hb7.mono HB6.out.size))
    have HO7 := Lib.hid ho7
    clear hb7 ho7 HB6
    go_wp2_with fail
    refine (H5.out _).mono ?_
    rintro e w8 ⟨A8, c8, rfl, hb8, ho8⟩
    have HO7b := Lib.hid (own_ch HO7.out (Ch.of_below (S := fun _ => False) hb8) (fun k hk => ⟨(own_row HO7.out hk).2, fun h => h⟩))
    have HB := Lib.hid (HB7.out.trans (hb8.mono HB7.out.size))
    have HO8 := Lib.hid ho8
    clear hb8 ho8 HB7 HO7
    go_wp2_with (first | (go_at_call 51; refine (H6.out A7 A8 c7 c8 _ (Sl.of_own HO7b.out) (Sl.of_own HO8.out)).mono ?_; rintro e wn ⟨rfl, hbn⟩; have HBn := Lib.hid (HB.out.trans (hbn.mono HB.out.size)); clear HB hbn; have HB := HBn; clear HBn) | (go_at_call 18; refine (awake_calls _).mono ?_; rintro e wn ⟨rfl, hbn⟩; have HBn := Lib.hid (HB.out.trans (hbn.mono HB.out.size)); clear HB hbn; have HB := HBn; clear HBn))
    go_ret
    exact ⟨rfl, HB.out⟩
  · have hd : (x == 0) = false := by simpa using hx
    clear hx
    go_wp2_with fail
    refine (H4.out _).mono ?_
    rintro e w7 ⟨A7, c7, rfl, hb7, ho7⟩
    have HB7 := Lib.hid (HB4.out.trans (hb7.mono HB4.out.size))
    have HO7 := Lib.hid ho7
    clear hb7 ho7 HB4
    go_wp2_with fail
    refine (H5.out _).mono ?_
    rintro e w8 ⟨A8, c8, rfl, hb8, ho8⟩
    have HO7b := Lib.hid (own_ch HO7.out (Ch.of_below (S := fun _ => False) hb8) (fun k hk => ⟨(own_row HO7.out hk).2, fun h => h⟩))
    have HB := Lib.hid (HB7.out.trans (hb8.mono HB7.out.size))
    have HO8 := Lib.hid ho8
    clear hb8 ho8 HB7 HO7
    go_wp2_with (first | (go_at_call 51; refine (H6.out A7 A8 c7 c8 _ (Sl.of_own HO7b.out) (Sl.of_own HO8.out)).mono ?_; rintro e wn ⟨rfl, hbn⟩; have HBn := Lib.hid (HB.out.trans (hbn.mono HB.out.size)); clear HB hbn; have HB := HBn; clear HBn) | (go_at_call 18; refine (awake_calls _).mono ?_; rintro e wn ⟨rfl, hbn⟩; have HBn := Lib.hid (HB.out.trans (hbn.mono HB.out.size)); clear HB hbn; have HB := HBn; clear HBn))
    go_ret
    exact ⟨rfl, HB.out⟩
end Go.Proofs.Ytehbpjkeflcanaa
