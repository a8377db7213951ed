/- Proofs, laid and read: both sides say the same, there and back: the walk. -/
import Derived.Test.YtehbpjkeflcanaaOfPf
import Derived.Test.YtehbpjkeflcanaaWPutPf
import Derived.Test.YtehbpjkeflcanaaSamePf
import Derived.Test.YtehbpjkeflcanaaAwake
namespace Go.Proofs.Ytehbpjkeflcanaa
set_option linter.unusedSimpArgs false
set_option linter.unusedVariables false
open Go.RowKit

theorem samePf_yes (c : Int) (l : List Pt) : samePf c l c l = true := decide_eq_true ⟨rfl, rfl⟩
set_option maxHeartbeats 2000000 in
set_option maxRecDepth 100000 in
theorem wireProofs_calls (n : Int) (A : Option Addr) (c : Nat) (l : List Pm) (s : ByteArray) (w : World) (hA : PmS w A c l) (hs : s.size ≤ maxLen) : Calls Try.prog 15 #[.agg #[.int .i64 n, .slice A l.length c], .string s] w (BoolPost true w) := by
  have HA := Lib.hid hA
  have H1 := Lib.hid (fun w hs => wproof_calls n A c l w hs)
  have H2 := Lib.hid (fun w hs => rproof_calls n A c l w hs)
  have H4 := Lib.hid (fun w => ofPf_calls s w hs)
  have H5 := Lib.hid (fun w => rofPf_calls s w hs)
  unfold StrErr at H1 H2
  unfold OfPfPost at H4 H5
  obtain ⟨⟨a, x⟩, hr⟩ : ∃ r, proofE n (l.map Pm.pt) = r := ⟨_, rfl⟩
  rw [hr] at H1 H2
  obtain ⟨⟨⟨n2, l2⟩, y⟩, hr2⟩ : ∃ r, ofPfE s = r := ⟨_, rfl⟩
  rw [hr2] at H4 H5
  simp only at H1 H2 H4 H5
  clear hr2 hs hA
  have HW1 := Lib.hid hr
  clear hr
  have HBX := Lib.hid (Box.new w #[.int .i64 n, .slice A l.length c] 76)
  have HB0 := Lib.hid ((Below.refl w.heap.size w).alloc (Nat.le_refl _) (.cells #[.int .i64 n, .slice A l.length c] 76))
  obtain ⟨W, hW⟩ : ∃ W, W = w.alloc (.cells #[.int .i64 n, .slice A l.length c] 76) := ⟨_, rfl⟩
  rw [← hW] at HBX HB0
  have HWW := Lib.hid hW
  clear hW
  obtain ⟨k0, k1, _⟩ := HBX.out.facts2
  go_enter Try.func15, Try.ntmps15
  go_wp2_with fail
  rw [← HWW.out]
  refine (H1.out _ (HA.out.below HB0.out)).mono ?_
  rintro e w2 ⟨rfl, hb2⟩
  have HST := Lib.hid ((St.mk HB0.out HBX.out).call (Nat.le_refl _) hb2)
  clear hb2 k0 k1
  obtain ⟨k0, k1, _⟩ := HST.out.x.facts2
  go_wp2_with fail
  refine (H2.out _ (HA.out.below HST.out.b)).mono ?_
  rintro e w3 ⟨rfl, hb3⟩
  have HST3 := Lib.hid (HST.out.call (Nat.le_refl _) hb3)
  clear hb3 k0 k1
  obtain ⟨k0, k1, _⟩ := HST3.out.x.facts2
  by_cases hx : x = 0
  · subst hx
    have hok := proof_back HW1.out
    have H7 := Lib.hid (fun w => ofPf_calls a w (by have := hok.2; simp only [maxLen]; omega))
    unfold OfPfPost at H7
    rw [hok.1] at H7
    simp only at H7
    clear hok
    go_wp2_with fail
    refine (H7.out _).mono ?_
    rintro e w5 ⟨A5, c5, ms5, rfl, hb5, ho5, he5⟩
    have HST5 := Lib.hid (St.alloc (HST3.out.call (Nat.le_refl _) hb5) (Nat.le_refl _) (.cells #[.int .i64 n, .slice A5 ms5.length c5] 76))
    have HO5 := Lib.hid (ho5.below ((Below.refl _ _).alloc (Nat.le_refl _) (.cells #[.int .i64 n, .slice A5 ms5.length c5] 76)))
    obtain ⟨m0, m1, _⟩ := (Box.new w5 #[.int .i64 n, .slice A5 ms5.length c5] 76).facts2
    have H3 := Lib.hid (fun w hs ht => sameProof_calls n n A5 A c5 c ms5 l w hs ht)
    rw [he5, samePf_yes] at H3
    clear hb5 ho5 he5 k0 k1 HST HST3
    obtain ⟨k0, k1, _⟩ := HST5.out.x.facts2
    go_wp2_with fail
    refine (H3.out _ HO5.out.pm (HA.out.below HST5.out.b)).mono ?_
    rintro e w6 ⟨rfl, hb6⟩
    have HST6 := Lib.hid (HST5.out.call (Nat.le_refl _) hb6)
    clear hb6 m0 m1
    go_wp2_with fail
    refine (H4.out _).mono ?_
    rintro e w7 ⟨A7, c7, ms7, rfl, hb7, ho7, he7⟩
    have HST7 := Lib.hid (HST6.out.call (Nat.le_refl _) hb7)
    have HO7 := Lib.hid (ho7.below ((Below.refl _ _).alloc (Nat.le_refl _) (.cells #[.int .i64 n2, .slice A7 ms7.length c7] 76)))
    have HE7 := Lib.hid he7
    have HB7 := Lib.hid (HST7.out.b.alloc HST7.out.b.size (.cells #[.int .i64 n2, .slice A7 ms7.length c7] 76))
    have HX7 := Lib.hid (Box.new w7 #[.int .i64 n2, .slice A7 ms7.length c7] 76)
    clear hb7 ho7 he7 k0 k1
    go_wp2_with fail
    refine (H5.out _).mono ?_
    rintro e w8 ⟨A8, c8, ms8, rfl, hb8, ho8, he8⟩
    have HO7b := Lib.hid ((HO7.out.below hb8).below ((Below.refl _ _).alloc (Nat.le_refl _) (.cells #[.int .i64 n2, .slice A8 ms8.length c8] 76)))
    have HO8 := Lib.hid (ho8.below ((Below.refl _ _).alloc (Nat.le_refl _) (.cells #[.int .i64 n2, .slice A8 ms8.length c8] 76)))
    have HB := Lib.hid ((HB7.out.trans (hb8.mono HB7.out.size)).alloc (HB7.out.trans (hb8.mono HB7.out.size)).size (.cells #[.int .i64 n2, .slice A8 ms8.length c8] 76))
    have HX8 := Lib.hid ((HX7.out.call hb8).alloc (.cells #[.int .i64 n2, .slice A8 ms8.length c8] 76))
    obtain ⟨m0, m1, _⟩ := HX8.out.facts2
    obtain ⟨o0, o1, _⟩ := (Box.new w8 #[.int .i64 n2, .slice A8 ms8.length c8] 76).facts2
    have H6 := Lib.hid (fun w hs ht => sameProof_calls n2 n2 A7 A8 c7 c8 ms7 ms8 w hs ht)
    rw [HE7.out, he8, samePf_yes] at H6
    clear hb8 ho8 he8
    go_wp2_with (first | (go_at_call 56; refine (H6.out _ HO7b.out.pm HO8.out.pm).mono ?_; rintro e wn ⟨rfl, hbn⟩; have HBn := Lib.hid (HB.out.trans (hbn.mono HB.out.size)); clear HB hbn; have HB := HBn; clear HBn) | (go_at_call 18; refine (awake_calls _).mono ?_; rintro e wn ⟨rfl, hbn⟩; have HBn := Lib.hid (HB.out.trans (hbn.mono HB.out.size)); clear HB hbn; have HB := HBn; clear HBn))
    go_ret
    exact ⟨rfl, HB.out⟩
  · have hd : (x == 0) = false := by simpa using hx
    clear hx
    have HST6 := HST3
    go_wp2_with fail
    refine (H4.out _).mono ?_
    rintro e w7 ⟨A7, c7, ms7, rfl, hb7, ho7, he7⟩
    have HST7 := Lib.hid (HST6.out.call (Nat.le_refl _) hb7)
    have HO7 := Lib.hid (ho7.below ((Below.refl _ _).alloc (Nat.le_refl _) (.cells #[.int .i64 n2, .slice A7 ms7.length c7] 76)))
    have HE7 := Lib.hid he7
    have HB7 := Lib.hid (HST7.out.b.alloc HST7.out.b.size (.cells #[.int .i64 n2, .slice A7 ms7.length c7] 76))
    have HX7 := Lib.hid (Box.new w7 #[.int .i64 n2, .slice A7 ms7.length c7] 76)
    clear hb7 ho7 he7 k0 k1
    go_wp2_with fail
    refine (H5.out _).mono ?_
    rintro e w8 ⟨A8, c8, ms8, rfl, hb8, ho8, he8⟩
    have HO7b := Lib.hid ((HO7.out.below hb8).below ((Below.refl _ _).alloc (Nat.le_refl _) (.cells #[.int .i64 n2, .slice A8 ms8.length c8] 76)))
    have HO8 := Lib.hid (ho8.below ((Below.refl _ _).alloc (Nat.le_refl _) (.cells #[.int .i64 n2, .slice A8 ms8.length c8] 76)))
    have HB := Lib.hid ((HB7.out.trans (hb8.mono HB7.out.size)).alloc (HB7.out.trans (hb8.mono HB7.out.size)).size (.cells #[.int .i64 n2, .slice A8 ms8.length c8] 76))
    have HX8 := Lib.hid ((HX7.out.call hb8).alloc (.cells #[.int .i64 n2, .slice A8 ms8.length c8] 76))
    obtain ⟨m0, m1, _⟩ := HX8.out.facts2
    obtain ⟨o0, o1, _⟩ := (Box.new w8 #[.int .i64 n2, .slice A8 ms8.length c8] 76).facts2
    have H6 := Lib.hid (fun w hs ht => sameProof_calls n2 n2 A7 A8 c7 c8 ms7 ms8 w hs ht)
    rw [HE7.out, he8, samePf_yes] at H6
    clear hb8 ho8 he8
    go_wp2_with (first | (go_at_call 56; refine (H6.out _ HO7b.out.pm HO8.out.pm).mono ?_; rintro e wn ⟨rfl, hbn⟩; have HBn := Lib.hid (HB.out.trans (hbn.mono HB.out.size)); clear HB hbn; have HB := HBn; clear HBn) | (go_at_call 18; refine (awake_calls _).mono ?_; rintro e wn ⟨rfl, hbn⟩; have HBn := Lib.hid (HB.out.trans (hbn.mono HB.out.size)); clear HB hbn; have HB := HBn; clear HBn))
    go_ret
    exact ⟨rfl, HB.out⟩
end Go.Proofs.Ytehbpjkeflcanaa
