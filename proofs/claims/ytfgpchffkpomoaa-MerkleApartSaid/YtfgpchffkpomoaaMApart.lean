/- Two lists of records have one root just if they are the same: the walk. -/
import Derived.Test.YtfgpchffkpomoaaMSound
import Derived.Test.YtfgpchffkpomoaaPk28
namespace Go.Proofs.Ytfgpchffkpomoaa
set_option linter.unusedSimpArgs false
set_option linter.unusedVariables false
open Go.RowKit

set_option maxHeartbeats 4000000 in
set_option maxRecDepth 100000 in
theorem merkleApart_calls (A : Option Addr) (c : Nat) (l : List Rc) (A2 : Option Addr) (c2 : Nat) (l2 : List Rc) (W : World) (hs : RcS W A c l) (hc : l.length ≤ c) (hs2 : RcS W A2 c2 l2) (hc2 : l2.length ≤ c2) :
    Calls Try.prog 8 #[.slice A l.length c, .slice A2 l2.length c2] W fun e w' => e = .returned (.bool true) ∧ Below W.heap.size W w' := by
  have hfit := hs.fits
  have hfit2 := hs2.fits
  have HN := Lib.hid (newBook_calls W)
  have HF := Lib.hid (fun w hs => few_calls A c l w hs hc)
  have HF2 := Lib.hid (fun w hs => few_calls A2 c2 l2 w hs hc2)
  have HS := Lib.hid hs
  have HS2 := Lib.hid hs2
  have hl2 : (fewP l).length ≤ 200 := by unfold fewP; simp; omega
  have hm2 : (fewP l2).length ≤ 200 := by unfold fewP; simp; omega
  obtain ⟨L, hL⟩ : ∃ L, L = fewP l := ⟨_, rfl⟩
  obtain ⟨M, hM⟩ : ∃ L, L = fewP l2 := ⟨_, rfl⟩
  have HSL := Lib.hid (show RcS W A c L by rw [hL]; exact hs.take 200)
  have HSM := Lib.hid (show RcS W A2 c2 M by rw [hM]; exact hs2.take 200)
  rw [← hL] at HF hl2
  rw [← hM] at HF2 hm2
  clear hL hM hs hc hs2 hc2
  go_enter Try.func8, Try.ntmps8
  go_wp2_with fail
  refine HN.out.mono ?_
  rintro e w1 ⟨b, t, m, n, rfl, hb1, hk1, hb, ht, hm, hn⟩
  have hz1 := hb1.size
  have HB1 := Lib.hid hb1
  have HS1 := Lib.hid (HS.out.below HB1.out)
  have HS12 := Lib.hid (HS2.out.below HB1.out)
  have HSL1 := Lib.hid (HSL.out.below HB1.out)
  have HSM1 := Lib.hid (HSM.out.below HB1.out)
  have HO := Lib.hid (off_new (m := m) HSL.out (by omega))
  have HOM := Lib.hid (off_new (m := m) HSM.out (by omega))
  have HRT := Lib.hid (mRoot_calls b t m n [] [] A c L w1 hk1 (by decide) HSL1.out HO.out)
  have hml := hk1.all_lt.2.2.1
  clear hk1 hb1 hb ht hn
  go_wp2_with fail
  refine (HF.out _ HS1.out).mono ?_
  rintro e wx ⟨rfl, hw⟩
  subst hw
  go_wp2_with fail
  refine (HF2.out _ HS12.out).mono ?_
  rintro e wx ⟨rfl, hw⟩
  subst hw
  go_wp2_with fail
  refine HRT.out.mono ?_
  rintro e w2 ⟨T2, x2, rfl, hx2, e2, l2', ch2, k2⟩
  have HSL2 := Lib.hid (HSL1.out.off ch2 HO.out)
  have HSM2 := Lib.hid (HSM1.out.off ch2 HOM.out)
  have HC2 := Lib.hid ((Ch.of_below (S := fun _ => False) HB1.out).step ch2 (by omega) (fun i hi e => by omega))
  have hz2 := HC2.out.size
  have HRM := Lib.hid (mRoot_calls b t m n T2 [] A2 c2 M w2 k2 (by simp at l2'; omega) HSM2.out HOM.out)
  have HX2 := Lib.hid hx2.out
  have HRI := Lib.hid (fun w hs => rrise_calls A c L w hs)
  have HRJ := Lib.hid (fun w hs => rrise_calls A2 c2 M w hs)
  have HAW := Lib.hid (fun w => awake4_calls w)
  obtain ⟨cd, hcd⟩ : ∃ cd, cd = riseE L := ⟨_, rfl⟩
  rw [← hcd] at HRI ⊢
  have HCD := Lib.hid hcd
  clear ch2 k2 hx2 hcd
  go_wp2_with fail
  refine HRM.out.mono ?_
  rintro e w3 ⟨T3, x3, rfl, hx3, e3, l3, ch3, k3⟩
  have HC3 := Lib.hid (HC2.out.step ch3 hz2 (fun i hi e => by omega))
  have hz3 := HC3.out.size
  have HSL3 := Lib.hid (HSL2.out.off ch3 HO.out)
  have HSM3 := Lib.hid (HSM2.out.off ch3 HOM.out)
  have HX3 := Lib.hid hx3.out
  obtain ⟨cd2, hcd2⟩ : ∃ cd, cd = riseE M := ⟨_, rfl⟩
  rw [← hcd2] at HRJ ⊢
  have HCD2 := Lib.hid hcd2
  clear ch3 k3 hx3 hcd2
  by_cases h1 : cd = 0
  · by_cases h2 : cd2 = 0
    · have hrL : riseE L = 0 := by rw [← HCD.out]; exact h1
      have hrM : riseE M = 0 := by rw [← HCD2.out]; exact h2
      obtain ⟨xa, xb⟩ := HX2.out.1 hrL
      obtain ⟨ya, yb⟩ := HX3.out.1 hrM
      have hb2 := xb.ext e3
      have hq : (x2.toList == x3.toList) = sameR L M := by
        rw [beq_list, Bool.eq_iff_iff, decide_eq_true_eq, sameR_iff, xa, ya, ← hb2.2]
        constructor
        · exact root_inj (T := T3) (by simp at l2'; omega) hb2.1 yb (rise_short hrL) (rise_short hrM) (by omega) (by omega)
        · rintro rfl; rfl
      have HSR := Lib.hid (sameRecs_calls A A2 c c2 L M w3 HSL3.out HSM3.out)
      obtain ⟨q, hqq⟩ : ∃ q, q = sameR L M := ⟨_, rfl⟩
      rw [← hqq] at hq HSR
      subst h1
      subst h2
      clear hqq hrL hrM xa xb ya yb hb2
      cases q
      all_goals
        go_wp2_with fail
        refine HSR.out.mono ?_
        rintro e w4 ⟨rfl, hb4⟩
        have HC4 := Lib.hid (HC3.out.step (Ch.of_below (S := fun _ => False) hb4) hz3 (fun _ _ e => e))
        have hz4 := HC4.out.size
        go_wp2_with fail
        refine (HAW.out _).mono ?_
        rintro e w5 ⟨rfl, hb5⟩
        go_wp2
        go_ret
        exact ⟨rfl, (HC4.out.step (Ch.of_below (S := fun _ => False) hb5) hz4 (fun _ _ e => e)).below (fun _ _ e => e)⟩
    · have hd2 : (cd2 == 0) = false := by rw [beq_eq_false_iff_ne]; exact h2
      subst h1
      clear h2
      go_wp2_with fail
      refine (HRI.out _ HSL3.out).mono ?_
      rintro e w4 ⟨rfl, hb4⟩
      have HC4 := Lib.hid (HC3.out.step (Ch.of_below (S := fun _ => False) hb4) hz3 (fun _ _ e => e))
      have hz4 := HC4.out.size
      have HSM4 := Lib.hid (HSM3.out.below hb4)
      go_wp2_with fail
      refine (HRJ.out _ HSM4.out).mono ?_
      rintro e w5 ⟨rfl, hb5⟩
      have HC5 := Lib.hid (HC4.out.step (Ch.of_below (S := fun _ => False) hb5) hz4 (fun _ _ e => e))
      have hz5 := HC5.out.size
      go_wp2_with fail
      refine (HAW.out _).mono ?_
      rintro e w6 ⟨rfl, hb6⟩
      go_wp2
      go_ret
      exact ⟨rfl, (HC5.out.step (Ch.of_below (S := fun _ => False) hb6) hz5 (fun _ _ e => e)).below (fun _ _ e => e)⟩
  · have hd1 : (cd == 0) = false := by rw [beq_eq_false_iff_ne]; exact h1
    clear h1
    go_wp2_with fail
    refine (HRI.out _ HSL3.out).mono ?_
    rintro e w4 ⟨rfl, hb4⟩
    have HC4 := Lib.hid (HC3.out.step (Ch.of_below (S := fun _ => False) hb4) hz3 (fun _ _ e => e))
    have hz4 := HC4.out.size
    go_wp2_with fail
    refine (HAW.out _).mono ?_
    rintro e w6 ⟨rfl, hb6⟩
    go_wp2
    go_ret
    exact ⟨rfl, (HC4.out.step (Ch.of_below (S := fun _ => False) hb6) hz4 (fun _ _ e => e)).below (fun _ _ e => e)⟩
end Go.Proofs.Ytfgpchffkpomoaa
