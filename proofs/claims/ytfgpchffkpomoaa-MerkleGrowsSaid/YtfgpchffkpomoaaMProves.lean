/- The proof of any key is the document's: the walk. -/
import Derived.Test.YtfgpchffkpomoaaMSound
import Derived.Test.YtfgpchffkpomoaaProof4
namespace Go.Proofs.Ytfgpchffkpomoaa
set_option linter.unusedSimpArgs false
set_option linter.unusedVariables false
open Go.RowKit

set_option maxHeartbeats 4000000 in
set_option maxRecDepth 100000 in
theorem merkleProves_calls (A : Option Addr) (c : Nat) (l : List Rc) (key : ByteArray) (W : World) (hs : RcS W A c l) (hc : l.length ≤ c) :
    Calls Try.prog 4 #[.slice A l.length c, .string key] W fun e w' => e = .returned (.bool true) ∧ Below W.heap.size W w' := by
  have hfit := hs.fits
  have HN := Lib.hid (newBook_calls W)
  have HF := Lib.hid (fun w hs => few_calls A c l w hs hc)
  have HS := Lib.hid hs
  have hl2 : (fewP l).length ≤ 200 := by unfold fewP; simp; omega
  obtain ⟨L, hL⟩ : ∃ L, L = fewP l := ⟨_, rfl⟩
  have HSL := Lib.hid (show RcS W A c L by rw [hL]; exact hs.take 200)
  rw [← hL] at HF hl2
  clear hL hs hc
  go_enter Try.func4, Try.ntmps4
  go_wp2_with fail
  refine HN.out.mono ?_
  rintro e w1 ⟨b, t, m, n, rfl, hb1, hk1, hb, ht, hm, hn⟩
  have hz1 := hb1.size
  have HB1 := Lib.hid hb1
  have HS1 := Lib.hid (HS.out.below HB1.out)
  have HSL1 := Lib.hid (HSL.out.below HB1.out)
  have HO := Lib.hid (off_new (m := m) HSL.out (by omega))
  have HPV := Lib.hid (mProve_calls b t m n [] [] A c L key w1 hk1 (by decide) HSL1.out HO.out)
  have hml := hk1.all_lt.2.2.1
  clear hk1 hb1 hb ht hn
  go_wp2_with fail
  refine (HF.out _ HS1.out).mono ?_
  rintro e wx ⟨rfl, hw⟩
  subst hw
  go_wp2_with fail
  refine HPV.out.mono ?_
  rintro e w3 ⟨T3, A3, c3, ps, cnt, cd2, rfl, hpv, e3, l3, ch3, k3, p3, r3⟩
  have hz3 := ch3.size
  have HC3 := Lib.hid ((Ch.of_below (S := fun _ => False) HB1.out).step ch3 hz1 (fun i hi e => by omega))
  have HSL3 := Lib.hid (HSL1.out.off ch3 HO.out)
  have HAW := Lib.hid (fun w => awake4_calls w)
  have HFT := Lib.hid (fun w => rfits4_calls key w)
  have hal := (Below.refl w3.heap.size w3).alloc (Nat.le_refl _) (.cells #[.int .i64 cnt, .slice A3 ps.length c3] 35)
  have HBX3 := Lib.hid (Box.new w3 #[.int .i64 cnt, .slice A3 ps.length c3] 35)
  have HC4 := Lib.hid (HC3.out.alloc (by omega) (.cells #[.int .i64 cnt, .slice A3 ps.length c3] 35))
  have HSL4 := Lib.hid (HSL3.out.below hal)
  have HPM := Lib.hid (p3.below hal)
  have HK4 := Lib.hid (k3.alloc (.cells #[.int .i64 cnt, .slice A3 ps.length c3] 35))
  have HOP := Lib.hid (show Off A3 ps.length m from fun _ k hk => by have := r3.1 k hk; omega)
  have HOX := Lib.hid (show ∀ x ∈ ps, Off x.A x.sides.length m from fun x hx _ k hk => by have := r3.2.1 x hx k hk; omega)
  have hpfit := p3.1.fits
  have HRI := Lib.hid (rrise_calls A c L _ HSL4.out)
  obtain ⟨cd, hcd⟩ : ∃ cd, cd = riseE L := ⟨_, rfl⟩
  rw [← hcd] at HRI
  have HCD := Lib.hid hcd
  have HPVV := Lib.hid hpv.out
  clear ch3 k3 p3 r3 hal hcd hpv
  go_wp2_with fail
  refine HRI.out.mono ?_
  rintro e w5 ⟨rfl, hb5⟩
  have HC5 := Lib.hid (HC4.out.step (Ch.of_below (S := fun _ => False) hb5) HC4.out.size (fun i hi e => e))
  have HBX5 := Lib.hid (HBX3.out.ch (Ch.of_below (S := fun _ => False) hb5) HBX3.out.lt (fun e => e))
  have HSL5 := Lib.hid (HSL4.out.below hb5)
  have HPM5 := Lib.hid (HPM.out.below hb5)
  have HK5 := Lib.hid (HK4.out.below hb5)
  have hz5 : w3.heap.size + 1 ≤ w5.heap.size := by have := hb5.size; simpa using this
  clear hb5
  obtain ⟨x0, x1, y0, y1⟩ := HBX5.out.facts2
  by_cases hr : riseE L = 0
  · have hcd0 : cd = 0 := by rw [HCD.out, hr]
    subst hcd0
    by_cases hf : fitK key = true
    · obtain ⟨rfl, rfl, hps, hli, hsi⟩ := HPVV.out.1 hr hf
      rw [hf] at HFT
      have HPX := Lib.hid (fun T' (he : Ext T3 T') => (hps.trans (proof_ext he hli hsi).symm : ps.map Pm.pt = proofP (hh T') L key))
      have HP4 := Lib.hid (fun w hb hs => proof4_calls b t m n T3 [] A c L key w hb (by simp at l3; omega) hs (by omega) (rise_short hr) (rise_rising hr) HO.out)
      clear hps hli hsi hr hf
      go_wp2_with fail
      refine (HFT.out _).mono ?_
      rintro e wx ⟨rfl, hw⟩
      subst hw
      go_wp2_with fail
      have hbk := HK5.out.drew
      have hrs : RcS wx.drew A c L := HSL5.out.drewN 1
      have hbx := HBX5.out.drew
      have hpm : PmS wx.drew A3 c3 ps := ⟨⟨HPM5.out.1.len, HPM5.out.1.fits, HPM5.out.1.at_⟩, fun x hx => (HPM5.out.2 x hx).drew⟩
      have hcc := HC5.out.drew
      go_region_held3 (fun w' => w'.cell? ⟨w3.heap.size, 0, none⟩ = some (.int .i64 L.length) ∧ w'.cell? ⟨w3.heap.size, 1, none⟩ = some (.slice A3 ps.length c3)) (first | exact ⟨hbx8.cell 0, hbx8.cell 1⟩ | exact ⟨hbx7.cell 0, hbx7.cell 1⟩ | exact ⟨hbx6.cell 0, hbx6.cell 1⟩ | exact ⟨hbx.cell 0, hbx.cell 1⟩) (first | (go_at_call 43; refine (HP4.out _ hbk hrs).mono ?_; rintro e w6 ⟨T6, B6, c6, ps6, rfl, q6, e6, l6, ch6, k6, p6, r6⟩; have hbx6 := hbx.ch ch6 hbx.lt (by omega); have hpm6 := hpm.off ch6 HOP.out HOX.out; have hc6 := hcc.step ch6 hcc.size (fun i hi e => by omega)) | (go_at_call 42; refine (sameProof_calls _ _ _ _ _ _ _ _ _ hpm6 p6).mono ?_; rintro e w7 ⟨he7, hb7⟩; rw [show samePf (L.length : Int) (ps.map Pm.pt) (L.length : Int) (ps6.map Pm.pt) = true by rw [q6.out, HPX.out T6 e6]; simp [samePf]] at he7; subst he7; have hbx7 := hbx6.ch (Ch.of_below (S := fun _ => False) hb7) hbx6.lt (fun e => e); have hc7 := hc6.step (Ch.of_below (S := fun _ => False) hb7) hc6.size (fun i hi e => e)) | (go_at_call 36; refine (HAW.out _).mono ?_; rintro e w8 ⟨rfl, hb8⟩; have hbx8 := hbx7.ch (Ch.of_below (S := fun _ => False) hb8) hbx7.lt (fun e => e); have hc8 := hc7.step (Ch.of_below (S := fun _ => False) hb8) hc7.size (fun i hi e => e)))
      all_goals go_wp2
      all_goals go_ret
      all_goals exact ⟨rfl, hc8.below (fun _ _ e => e)⟩
    · have hf2 : fitK key = false := by simpa using hf
      obtain ⟨rfl, rfl, rfl⟩ := HPVV.out.2.1 hr hf2
      rw [hf2] at HFT
      clear hf hf2 hr
      go_wp2_with fail
      refine (HFT.out _).mono ?_
      rintro e wx ⟨rfl, hw⟩
      subst hw
      go_wp2_with fail
      refine (HAW.out _).mono ?_
      rintro e w6 ⟨rfl, hb6⟩
      go_wp2
      go_ret
      exact ⟨rfl, (HC5.out.step (Ch.of_below (S := fun _ => False) hb6) HC5.out.size (fun _ _ e => e)).below (fun _ _ e => e)⟩
  · have hd0 : (cd == 0) = false := by rw [beq_eq_false_iff_ne, HCD.out]; exact hr
    obtain ⟨rfl, rfl, rfl⟩ := HPVV.out.2.2 hr
    rw [← HCD.out]
    clear hr
    go_wp2_with fail
    refine (HAW.out _).mono ?_
    rintro e w6 ⟨rfl, hb6⟩
    go_wp2
    go_ret
    exact ⟨rfl, (HC5.out.step (Ch.of_below (S := fun _ => False) hb6) HC5.out.size (fun _ _ e => e)).below (fun _ _ e => e)⟩
end Go.Proofs.Ytfgpchffkpomoaa
