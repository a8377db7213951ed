/- The root of any records, or why they have none: the walk. -/
import Derived.Test.YtfgpchffkpomoaaMSound
import Derived.Test.YtfgpchffkpomoaaOver
namespace Go.Proofs.Ytfgpchffkpomoaa
set_option linter.unusedSimpArgs false
set_option linter.unusedVariables false
open Go.RowKit

set_option maxHeartbeats 4000000 in
set_option maxRecDepth 100000 in
theorem merkleRoots_calls (A : Option Addr) (c : Nat) (l : List Rc) (W : World) (hs : RcS W A c l) :
    Calls Try.prog 3 #[.slice A l.length c] W fun e w' => e = .returned (.bool true) ∧ Below W.heap.size W w' := by
  have hfit := hs.fits
  have HN := Lib.hid (newBook_calls W)
  have HS := Lib.hid hs
  have HRI := Lib.hid (fun w hs => rrise_calls A c l w hs)
  have HAW := Lib.hid (fun w => awake4_calls w)
  obtain ⟨cd, hcd⟩ : ∃ cd, cd = riseE l := ⟨_, rfl⟩
  rw [← hcd] at HRI
  have HCD := Lib.hid hcd
  clear hs hcd
  go_enter Try.func3, Try.ntmps3
  go_wp2_with fail
  refine HN.out.mono ?_
  rintro e w1 ⟨b, t, m, n, rfl, hb1, hk1, hb, ht, hm, hn⟩
  have hz1 := hb1.size
  have HB1 := Lib.hid hb1
  have HS1 := Lib.hid (HS.out.below HB1.out)
  have HO := Lib.hid (off_new (m := m) HS.out (by omega))
  have HK1 := Lib.hid hk1
  clear hk1 hb1 hb ht hn
  go_wp2_with fail
  refine (HRI.out _ HS1.out).mono ?_
  rintro e w2 ⟨rfl, hb2⟩
  have HB2 := Lib.hid (HB1.out.trans (hb2.mono hz1))
  have HS2 := Lib.hid (HS1.out.below hb2)
  have HK2 := Lib.hid (HK1.out.below hb2)
  have hz2 := HB2.out.size
  have hml := HK2.out.all_lt.2.2.1
  clear hb2
  have HRT := Lib.hid (mRoot_calls b t m n [] [] A c l w2 HK2.out (by decide) HS2.out HO.out)
  by_cases h0 : cd = 0
  · have hr : riseE l = 0 := by rw [← HCD.out]; exact h0
    have hsh := rise_short hr
    have h4 := (rise_ok hr).1
    have HSH := Lib.hid hsh
    have HR := Lib.hid hr
    subst h0
    clear hsh hr
    by_cases h2 : 200 < l.length
    · have hd : decide ((200 : Int) < (l.length : Int)) = true := by simp; omega
      go_wp2_with fail
      refine (HAW.out _).mono ?_
      rintro e w3 ⟨rfl, hb3⟩
      go_wp2
      go_ret
      exact ⟨rfl, HB2.out.trans (hb3.mono hz2)⟩
    · have hd : decide ((200 : Int) < (l.length : Int)) = false := by simp; omega
      go_wp2_with fail
      refine HRT.out.mono ?_
      rintro e w3 ⟨T3, x3, rfl, hx3, e3, l3, ch3, k3⟩
      rw [HR.out]
      obtain ⟨xa, xb⟩ := hx3.out.1 HR.out
      have HXA := Lib.hid xa
      have HXB := Lib.hid xb
      have HC3 := Lib.hid ((Ch.of_below (S := fun _ => False) HB2.out).step ch3 hz2 (fun i hi e => by omega))
      have hz3 := HC3.out.size
      have HR4 := Lib.hid (root4_calls b t m n T3 [] A c l w3 k3 (by simp at l3; omega) (HS2.out.off ch3 HO.out) h4 HSH.out HO.out)
      clear xa xb hx3 ch3 k3
      go_wp2_with fail
      refine HR4.out.mono ?_
      rintro e w4 ⟨T4, x4, rfl, hx4, e4, l4, ch4, k4⟩
      have hq : x3 = x4 := by rw [HXA.out, hx4.out.1, (HXB.out.ext e4).2]
      subst hq
      have HC4 := Lib.hid (HC3.out.step ch4 hz3 (fun i hi e => by omega))
      have hz4 := HC4.out.size
      clear hx4 ch4 k4
      go_wp2_with fail
      refine (HAW.out _).mono ?_
      rintro e w5 ⟨rfl, hb5⟩
      go_wp2
      go_ret
      exact ⟨rfl, (HC4.out.step (Ch.of_below (S := fun _ => False) hb5) hz4 (fun _ _ e => e)).below (fun _ _ e => e)⟩
  · have hd0 : (cd == 0) = false := by rw [beq_eq_false_iff_ne]; exact h0
    have HNE := Lib.hid (show riseE l ≠ 0 by rw [← HCD.out]; exact h0)
    clear h0
    go_wp2_with fail
    refine HRT.out.mono ?_
    rintro e w3 ⟨T3, x3, rfl, hx3, e3, l3, ch3, k3⟩
    obtain rfl := hx3.out.2 HNE.out
    rw [← HCD.out]
    have HC3 := Lib.hid ((Ch.of_below (S := fun _ => False) HB2.out).step ch3 hz2 (fun i hi e => by omega))
    have hz3 := HC3.out.size
    clear hx3 ch3 k3
    go_wp2_with fail
    refine (HAW.out _).mono ?_
    rintro e w5 ⟨rfl, hb5⟩
    go_wp2
    go_ret
    exact ⟨rfl, (HC3.out.step (Ch.of_below (S := fun _ => False) hb5) hz3 (fun _ _ e => e)).below (fun _ _ e => e)⟩
end Go.Proofs.Ytfgpchffkpomoaa
