/- Each proof that is made is accepted, and tells what there is: the walk. -/
import Derived.Test.YtfgpchffkpomoaaMSound
namespace Go.Proofs.Ytfgpchffkpomoaa
set_option linter.unusedSimpArgs false
set_option linter.unusedVariables false
open Go.RowKit

set_option maxHeartbeats 4000000 in
set_option maxRecDepth 100000 in
theorem merkleHolds_calls (A : Option Addr) (c : Nat) (l : List Rc) (key : ByteArray) (W : World) (hs : RcS W A c l) (hc : l.length ≤ c) :
    Calls Try.prog 5 #[.slice A l.length c, .string key] W fun e w' => e = .returned (.bool true) ∧ Below W.heap.size W w' := by
  have hfit := hs.fits
  have HN := Lib.hid (newBook_calls W)
  have HF := Lib.hid (fun w hs => few_calls A c l w hs hc)
  have HS := Lib.hid hs
  have HFL := Lib.hid (show (fewP l).length ≤ 200 by unfold fewP; simp; omega)
  have hl2 : (fewP l).length ≤ 200 := HFL.out
  obtain ⟨L, hL⟩ : ∃ L, L = fewP l := ⟨_, rfl⟩
  have HSL := Lib.hid (show RcS W A c L by rw [hL]; exact hs.take 200)
  rw [← hL] at HF hl2
  clear hL hs hc
  go_enter Try.func5, Try.ntmps5
  go_wp2_with fail
  refine HN.out.mono ?_
  rintro e w1 ⟨b, t, m, n, rfl, hb1, hk1, hb, ht, hm, hn⟩
  have hz1 := hb1.size
  have HB1 := Lib.hid hb1
  have HS1 := Lib.hid (HS.out.below HB1.out)
  have HSL1 := Lib.hid (HSL.out.below HB1.out)
  have HO := Lib.hid (off_new (m := m) HSL.out (by omega))
  have HRT := Lib.hid (mRoot_calls b t m n [] [] A c L w1 hk1 (by decide) HSL1.out HO.out)
  have hml := hk1.all_lt.2.2.1
  clear hk1 hb1 hb ht hn
  go_wp2_with fail
  refine (HF.out _ HS1.out).mono ?_
  rintro e wx ⟨rfl, hw⟩
  subst hw
  go_wp2_with fail
  refine HRT.out.mono ?_
  rintro e w2 ⟨T2, x2, rfl, hx2, e2, l2, ch2, k2⟩
  have HSL2 := Lib.hid (HSL1.out.off ch2 HO.out)
  have HC2 := Lib.hid ((Ch.of_below (S := fun _ => False) HB1.out).step ch2 (by omega) (fun i hi e => by omega))
  have hz2 := HC2.out.size
  have hz12 := ch2.size
  have HPV := Lib.hid (mProve_calls b t m n T2 [] A c L key w2 k2 (by simp at l2; omega) HSL2.out HO.out)
  have HX2 := Lib.hid hx2.out
  obtain ⟨cd, hcd⟩ : ∃ cd, cd = riseE L := ⟨_, rfl⟩
  rw [← hcd] at ⊢
  have HCD := Lib.hid hcd
  clear ch2 k2 hx2 hcd
  go_wp2_with fail
  refine HPV.out.mono ?_
  rintro e w3 ⟨T3, A3, c3, ps, cnt, cd2, rfl, hpv, e3, l3, ch3, k3, p3, r3⟩
  have hz3 := ch3.size
  have HC3 := Lib.hid (HC2.out.step ch3 hz2 (fun i hi e => by omega))
  have HSL3 := Lib.hid (HSL2.out.off ch3 HO.out)
  have HAW := Lib.hid (fun w => awake4_calls w)
  have HFT := Lib.hid (fun w => rfits4_calls key w)
  have hal := (Below.refl w3.heap.size w3).alloc (Nat.le_refl _) (.cells #[.int .i64 cnt, .slice A3 ps.length c3] 35)
  have HBX3 := Lib.hid (Box.new w3 #[.int .i64 cnt, .slice A3 ps.length c3] 35)
  have HC4 := Lib.hid (HC3.out.alloc (by omega) (.cells #[.int .i64 cnt, .slice A3 ps.length c3] 35))
  have HSL4 := Lib.hid (HSL3.out.below hal)
  have HPM := Lib.hid (p3.below hal)
  have HK4 := Lib.hid (k3.alloc (.cells #[.int .i64 cnt, .slice A3 ps.length c3] 35))
  have HOP := Lib.hid (show Off A3 ps.length m from fun _ k hk => by have := r3.1 k hk; omega)
  have HOX := Lib.hid (show ∀ x ∈ ps, Off x.A x.sides.length m from fun x hx _ k hk => by have := r3.2.1 x hx k hk; omega)
  have HCAP := Lib.hid r3.2.2
  have hpfit := p3.1.fits
  have HRI := Lib.hid (fun w hs => rrise_calls A c L w hs)
  clear ch3 k3 p3 r3 hal
  obtain ⟨x0, x1, y0, y1⟩ := HBX3.out.facts2
  by_cases hr : riseE L = 0
  · have hcd0 : cd = 0 := by rw [HCD.out, hr]
    subst hcd0
    rw [hr] at HRI
    by_cases hf : fitK key = true
    · obtain ⟨rfl, rfl, hps, hli, hsi⟩ := hpv.out.1 hr hf
      obtain ⟨hxa, hxb⟩ := HX2.out.1 hr
      have hroot := hxb.ext e3
      have HV := Lib.hid (mVerify_calls b t m n T3 [] x2 key L.length A3 c3 ps _ HK4.out (by simp at l2; omega) HPM.out HCAP.out HOP.out HOX.out)
      have HPX := Lib.hid (fun T' (he : Ext T3 T') => (hps.trans (proof_ext he hli hsi).symm : ps.map Pm.pt = proofP (hh T') L key))
      have HRX := Lib.hid (fun T' (he : Ext T3 T') => ((hxa.trans (hxb.ext (e3.trans he)).2.symm : x2 = rootP (hh T') L)))
      have HRB := Lib.hid (fun T' (he : Ext T3 T') => (hxb.ext (e3.trans he)).1)
      have HR := Lib.hid hr
      have HFK := Lib.hid hf
      clear hps hli hsi hxa hxb hroot hr hf hpv
      go_wp2_with fail
      refine HV.out.mono ?_
      rintro e w5 ⟨T5, v, has, cd5, rfl, hv, hvi, e5, l5, ch5, k5⟩
      have hv1 : (v, has, cd5) = verifyP (hh T5) (rootP (hh T5) L) key L.length (proofP (hh T5) L key) := by rw [hv.out, HPX.out T5 e5, HRX.out T5 e5]
      have h0 := (verify_honest (T := T5) HR.out HFK.out).2
      have hvn := hvi.out (by rw [← hv1] at h0; exact h0)
      rw [HPX.out T5 e5] at hvn
      have ht := verify_sound (T := T5) (by simp at l2; omega) (HRB.out T5 e5) HR.out (key := key) (count := L.length) (ps := proofP (hh T5) L key) hvn h0
      rw [← hv1] at h0 ht
      simp only at h0 ht
      subst h0
      have HC5 := Lib.hid (HC4.out.step ch5 HC4.out.size (fun i hi e => by omega))
      have hz5 := HC5.out.size
      have HTR := Lib.hid (truth_calls A c L key v has w5 (HSL4.out.off ch5 HO.out) (by omega))
      rw [ht] at HTR
      clear ht hv1 hvn hv hvi ch5 k5 x0 x1 y0 y1
      go_wp2_with fail
      refine HTR.out.mono ?_
      rintro e wx ⟨rfl, hw⟩
      subst hw
      go_wp2_with fail
      refine (HAW.out _).mono ?_
      rintro e w6 ⟨rfl, hb6⟩
      go_wp2
      go_ret
      exact ⟨rfl, (HC5.out.step (Ch.of_below (S := fun _ => False) hb6) hz5 (fun _ _ e => e)).below (fun _ _ e => e)⟩
    · have hf2 : fitK key = false := by simpa using hf
      obtain ⟨rfl, rfl, rfl⟩ := hpv.out.2.1 hr hf2
      rw [hf2] at HFT
      have hz4 := HC4.out.size
      clear hpv hf hf2 hr
      go_wp2_with fail
      refine (HRI.out _ HSL4.out).mono ?_
      rintro e w5 ⟨rfl, hb5⟩
      have HC5 := Lib.hid (HC4.out.step (Ch.of_below (S := fun _ => False) hb5) HC4.out.size (fun i hi e => e))
      have hz5 := HC5.out.size
      go_wp2_with fail
      refine (HFT.out _).mono ?_
      rintro e wx ⟨rfl, hw⟩
      subst hw
      go_wp2_with fail
      refine (HAW.out _).mono ?_
      rintro e w6 ⟨rfl, hb6⟩
      go_wp2
      go_ret
      exact ⟨rfl, (HC5.out.step (Ch.of_below (S := fun _ => False) hb6) hz5 (fun _ _ e => e)).below (fun _ _ e => e)⟩
  · have hd0 : (cd == 0) = false := by rw [beq_eq_false_iff_ne, HCD.out]; exact hr
    rw [← HCD.out] at HRI
    clear hpv hr
    go_wp2_with fail
    refine (HRI.out _ HSL4.out).mono ?_
    rintro e w5 ⟨rfl, hb5⟩
    have HC5 := Lib.hid (HC4.out.step (Ch.of_below (S := fun _ => False) hb5) HC4.out.size (fun i hi e => e))
    have hz5 := HC5.out.size
    go_wp2_with fail
    refine (HAW.out _).mono ?_
    rintro e w6 ⟨rfl, hb6⟩
    go_wp2
    go_ret
    exact ⟨rfl, (HC5.out.step (Ch.of_below (S := fun _ => False) hb6) hz5 (fun _ _ e => e)).below (fun _ _ e => e)⟩
end Go.Proofs.Ytfgpchffkpomoaa
