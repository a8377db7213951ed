/- By a book of sums too each proof is accepted against its root, and tells what there is: the walk. -/
import Derived.Test.YtfgpchffkpomoaaPk40
import Derived.Test.YtfgpchffkpomoaaKeyTruth
import Derived.Test.YtfgpchffkpomoaaKeyed
import Derived.Test.YtfgpchffkpomoaaPk28
import Derived.Test.YtfgpchffkpomoaaPk27
namespace Go.Proofs.Ytfgpchffkpomoaa
set_option linter.unusedSimpArgs false
set_option linter.unusedVariables false
open Go.RowKit

theorem kd_same (T T' : List ByteArray) : Kd.hh T = Kd.hh T' := rfl
theorem off_nk {W : World} {A : Option Addr} {c m : Nat} {l : List Rc} (h : RcS W A c l) (hm : W.heap.size ≤ m) : Off A l.length m := fun h0 k hk => by have := h.row_lt h0 k hk; omega
theorem keyed_true {T : List ByteArray} {L : List Rc} {key v : ByteArray} {has : Bool} {cd : Int} (hr : riseE L = 0) (hf : fitK key = true) (h : (v, has, cd) = verifyP (Kd.hh T) (rootP (Kd.hh T) L) key L.length (proofP (Kd.hh T) L key)) : cd = 0 ∧ truthP L key v has = true := by
  obtain ⟨h1, h2⟩ := Kd.verify_honest (T := T) hr hf
  rw [← h] at h2
  refine ⟨h2, ?_⟩
  rw [verify_shown hf h1] at h
  have h3 := shown_truth (h := Kd.hh T) (rise_rising hr) key
  rw [← h] at h3
  exact h3
set_option maxHeartbeats 8000000 in
set_option maxRecDepth 100000 in
theorem merkleKeyed_cut (A : Option Addr) (c : Nat) (L : List Rc) (n0 : Nat) (key : ByteArray) (W : World) (hs : RcS W A c L) (hl : L.length ≤ 40) (hn : (n0 = L.length ∧ n0 ≤ 40) ∨ (40 < n0 ∧ L.length = 40 ∧ n0 ≤ c)) (hnf : n0 ≤ 9223372036854775807) (hA : n0 = 0 ∨ ∃ a, A = some a) :
    Calls Try.prog 9 #[.slice A n0 c, .string key] W fun e w' => e = .returned (.bool true) ∧ Below W.heap.size W w' := by
  have HN := Lib.hid (show Calls Try.prog 48 #[.slice none 0 0] W (KeyedPost [] W) from newKeyed_calls none 0 [] W ⟨rfl, by simp, fun j u hj => by simp at hj⟩)
  have HSL := Lib.hid hs
  have HAW := Lib.hid (fun w => awake4_calls w)
  have HFT := Lib.hid (fun w => rfits4_calls key w)
  have HRI := Lib.hid (fun w hs => rrise_calls A c L w hs)
  have HRT := Lib.hid (fun b t w hb hs hA => Kd.mRoot_calls b t b b [] [] A c L w hb (by decide) hs hA)
  have HPV := Lib.hid (fun b t T w hb hT hs hA => Kd.mProve_calls b t b b T [] A c L key w hb hT hs hA)
  have HTR := Lib.hid (fun v has w hs => truth_calls A c L key v has w hs (by omega))
  have hfit := hs.fits
  obtain ⟨cd, hcd⟩ : ∃ cd, cd = riseE L := ⟨_, rfl⟩
  rw [← hcd] at HRI
  have HCD := Lib.hid hcd
  clear hs hcd
  have hok : okSecrets [] = true := by decide
  have HOK := Lib.hid hok
  clear hok
  rcases hn with ⟨hnl, hn⟩ | ⟨hn, hL4, hnc⟩
  · have hd6 : decide ((40 : Int) < (n0 : Int)) = false := by simp; omega
    go_enter Try.func9, Try.ntmps9
    go_wp2_with fail
    refine HN.out.mono ?_
    rintro e w1 ⟨hb1, ⟨hno, rfl⟩ | ⟨-, b, t, rfl, hkb, hbz, htz⟩⟩
    · rw [HOK.out] at hno; cases hno
    · have HB1 := Lib.hid hb1
      have HK1 := Lib.hid (hkb.kd [] [])
      have HO := Lib.hid (off_nk (m := b) HSL.out hbz)
      have HROW := Lib.hid (fun h0 => HSL.out.row_lt h0)
      have HSL1 := Lib.hid (HSL.out.below hb1)
      have HRT1 := Lib.hid (HRT.out b t w1 HK1.out HSL1.out HO.out)
      have hbl := hkb.lt.1
      have hz1 := hb1.size
      have H4 := Lib.hid hnl
      clear hb1 hkb hnl
      rw [H4.out]
      rw [H4.out] at hd6
      clear hn hnf hA
      go_wp2_with fail
      refine HRT1.out.mono ?_
      rintro e w2 ⟨T2, x2, rfl, hx2, e2, l2, ch2, k2⟩
      have HSL2 := Lib.hid (HSL1.out.off ch2 HO.out)
      have HC2 := Lib.hid ((Ch.of_below (S := fun _ => False) HB1.out).step ch2 (by omega) (fun i hi e => by omega))
      have hz2 := HC2.out.size
      have hz12 := ch2.size
      have HPV2 := Lib.hid (HPV.out b t T2 w2 k2 (by simp at l2; omega) HSL2.out HO.out)
      have HX2 := Lib.hid hx2.out
      rw [← HCD.out]
      clear ch2 k2 hx2
      go_wp2_with fail
      refine HPV2.out.mono ?_
      rintro e w3 ⟨T3, A3, c3, ps, cnt, cd2, rfl, hpv, e3, l3, ch3, k3, p3, r3⟩
      have hz3 := ch3.size
      have HC3 := Lib.hid (HC2.out.step ch3 hz2 (fun i hi e => by omega))
      have HSL3 := Lib.hid (HSL2.out.off ch3 HO.out)
      have hal := (Below.refl w3.heap.size w3).alloc (Nat.le_refl _) (.cells #[.int .i64 cnt, .slice A3 ps.length c3] 35)
      have HBX3 := Lib.hid (Box.new w3 #[.int .i64 cnt, .slice A3 ps.length c3] 35)
      have HC4 := Lib.hid (HC3.out.alloc (by omega) (.cells #[.int .i64 cnt, .slice A3 ps.length c3] 35))
      have HSL4 := Lib.hid (HSL3.out.below hal)
      have HPM := Lib.hid (p3.below hal)
      have HK4 := Lib.hid (k3.alloc (.cells #[.int .i64 cnt, .slice A3 ps.length c3] 35))
      have HOP := Lib.hid (show Off A3 ps.length b from fun _ k hk => by have := r3.1 k hk; omega)
      have HOX := Lib.hid (show ∀ x ∈ ps, Off x.A x.sides.length b from fun x hx _ k hk => by have := r3.2.1 x hx k hk; omega)
      have HCP := Lib.hid r3.2.2
      have hpfit := p3.1.fits
      have HPVV := Lib.hid hpv.out
      clear ch3 k3 p3 r3 hal hpv
      obtain ⟨x0, x1, y0, y1⟩ := HBX3.out.facts2
      by_cases hr : riseE L = 0
      · have hcd0 : cd = 0 := by rw [HCD.out, hr]
        subst hcd0
        by_cases hf : fitK key = true
        · obtain ⟨rfl, rfl, hps, hli, hsi⟩ := HPVV.out.1 hr hf
          obtain ⟨hxa, hxb⟩ := HX2.out.1 hr
          have hx32 : x2.size = 32 := by rw [hxa]; exact Kd.hh_size T2 _
          have hd32 : ((x2.size : Int) == 32) = true := by rw [hx32]; rfl
          have HTT := Lib.hid (fun (T6 : List ByteArray) v has cd6 (h : (v, has, cd6) = verifyP (Kd.hh T6) x2 key L.length (ps.map Pm.pt)) => keyed_true (T := T6) (v := v) (has := has) (cd := cd6) hr hf (by rw [h, hxa, hps, kd_same T2 T6, kd_same T3 T6]))
          have HV := Lib.hid (Kd.mVerify_calls b t b b T3 [] x2 key L.length A3 c3 ps _ HK4.out (by simp at l2; omega) HPM.out HCP.out HOP.out HOX.out)
          clear hps hli hsi hxa hxb hr hf
          go_wp2_with fail
          refine HV.out.mono ?_
          rintro e w6 ⟨T6, v, has, cd6, rfl, hv, -, e6, l6, ch6, k6⟩
          obtain ⟨hc0, htr⟩ := HTT.out T6 v has cd6 hv.out
          subst hc0
          have HC6 := Lib.hid (HC4.out.step ch6 HC4.out.size (fun i hi e => by omega))
          have hz6 := HC6.out.size
          have HT6 := Lib.hid (HTR.out v has w6 (HSL4.out.off ch6 HO.out))
          rw [htr] at HT6
          clear htr hv ch6 k6 x0 x1 y0 y1 hx32
          go_wp2_with fail
          refine HT6.out.mono ?_
          rintro e wx ⟨rfl, hw⟩
          subst hw
          go_wp2_with fail
          refine (HAW.out _).mono ?_
          rintro e w7 ⟨rfl, hb7⟩
          go_wp2
          go_ret
          exact ⟨rfl, (HC6.out.step (Ch.of_below (S := fun _ => False) hb7) hz6 (fun _ _ e => e)).below (fun _ _ e => e)⟩
        · have hf2 : fitK key = false := by simpa using hf
          obtain ⟨rfl, rfl, rfl⟩ := HPVV.out.2.1 hr hf2
          have HFT2 := Lib.hid (fun w => HFT.out w)
          rw [hf2] at HFT2
          have hz4 := HC4.out.size
          clear hf hf2 hr
          go_wp2_with fail
          refine (HRI.out _ HSL4.out).mono ?_
          rintro e w5 ⟨rfl, hb5⟩
          have HC5 := Lib.hid (HC4.out.step (Ch.of_below (S := fun _ => False) hb5) HC4.out.size (fun i hi e => e))
          have hz5 := HC5.out.size
          go_wp2_with fail
          refine (HFT2.out _).mono ?_
          rintro e wx ⟨rfl, hw⟩
          subst hw
          go_wp2_with fail
          refine (HAW.out _).mono ?_
          rintro e w6 ⟨rfl, hb6⟩
          go_wp2
          go_ret
          exact ⟨rfl, (HC5.out.step (Ch.of_below (S := fun _ => False) hb6) hz5 (fun _ _ e => e)).below (fun _ _ e => e)⟩
      · have hd0 : (cd == 0) = false := by rw [beq_eq_false_iff_ne, HCD.out]; exact hr
        have hd1 : (cd != 0) = true := by rw [bne, hd0]; rfl
        obtain ⟨rfl, rfl, rfl⟩ := HPVV.out.2.2 hr
        rw [← HCD.out]
        clear hr
        go_wp2_with fail
        refine (HRI.out _ HSL4.out).mono ?_
        rintro e w5 ⟨rfl, hb5⟩
        have HC5 := Lib.hid (HC4.out.step (Ch.of_below (S := fun _ => False) hb5) HC4.out.size (fun i hi e => e))
        have hz5 := HC5.out.size
        go_wp2_with fail
        refine (HAW.out _).mono ?_
        rintro e w6 ⟨rfl, hb6⟩
        go_wp2
        go_ret
        exact ⟨rfl, (HC5.out.step (Ch.of_below (S := fun _ => False) hb6) hz5 (fun _ _ e => e)).below (fun _ _ e => e)⟩
  · have hd6 : decide ((40 : Int) < (n0 : Int)) = true := by simp; omega
    obtain ⟨a, rfl⟩ : ∃ a, A = some a := by rcases hA with h | h; omega; exact h
    have h1 : (40 : Int) ≤ (n0 : Int) := by omega
    have h2 : (40 : Int) ≤ (c : Int) := by omega
    go_enter Try.func9, Try.ntmps9
    go_wp2_with fail
    refine HN.out.mono ?_
    rintro e w1 ⟨hb1, ⟨hno, rfl⟩ | ⟨-, b, t, rfl, hkb, hbz, htz⟩⟩
    · rw [HOK.out] at hno; cases hno
    · have HB1 := Lib.hid hb1
      have HK1 := Lib.hid (hkb.kd [] [])
      have HO := Lib.hid (off_nk (m := b) HSL.out hbz)
      have HSL1 := Lib.hid (HSL.out.below hb1)
      have HRT1 := Lib.hid (HRT.out b t w1 HK1.out HSL1.out HO.out)
      have hbl := hkb.lt.1
      have hz1 := hb1.size
      have H4 := Lib.hid hL4
      clear hb1 hkb hL4 hn hnf hA
      go_wp2_with fail
      rw [show (Value.slice (some a) 40 c) = Value.slice (some a) L.length c by rw [H4.out]]
      refine HRT1.out.mono ?_
      rintro e w2 ⟨T2, x2, rfl, hx2, e2, l2, ch2, k2⟩
      have HSL2 := Lib.hid (HSL1.out.off ch2 HO.out)
      have HC2 := Lib.hid ((Ch.of_below (S := fun _ => False) HB1.out).step ch2 (by omega) (fun i hi e => by omega))
      have hz2 := HC2.out.size
      have hz12 := ch2.size
      have HPV2 := Lib.hid (HPV.out b t T2 w2 k2 (by simp at l2; omega) HSL2.out HO.out)
      have HX2 := Lib.hid hx2.out
      rw [← HCD.out]
      clear ch2 k2 hx2
      go_wp2_with fail
      refine HPV2.out.mono ?_
      rintro e w3 ⟨T3, A3, c3, ps, cnt, cd2, rfl, hpv, e3, l3, ch3, k3, p3, r3⟩
      have hz3 := ch3.size
      have HC3 := Lib.hid (HC2.out.step ch3 hz2 (fun i hi e => by omega))
      have HSL3 := Lib.hid (HSL2.out.off ch3 HO.out)
      have hal := (Below.refl w3.heap.size w3).alloc (Nat.le_refl _) (.cells #[.int .i64 cnt, .slice A3 ps.length c3] 35)
      have HBX3 := Lib.hid (Box.new w3 #[.int .i64 cnt, .slice A3 ps.length c3] 35)
      have HC4 := Lib.hid (HC3.out.alloc (by omega) (.cells #[.int .i64 cnt, .slice A3 ps.length c3] 35))
      have HSL4 := Lib.hid (HSL3.out.below hal)
      have HPM := Lib.hid (p3.below hal)
      have HK4 := Lib.hid (k3.alloc (.cells #[.int .i64 cnt, .slice A3 ps.length c3] 35))
      have HOP := Lib.hid (show Off A3 ps.length b from fun _ k hk => by have := r3.1 k hk; omega)
      have HOX := Lib.hid (show ∀ x ∈ ps, Off x.A x.sides.length b from fun x hx _ k hk => by have := r3.2.1 x hx k hk; omega)
      have HCP := Lib.hid r3.2.2
      have hpfit := p3.1.fits
      have HPVV := Lib.hid hpv.out
      clear ch3 k3 p3 r3 hal hpv
      obtain ⟨x0, x1, y0, y1⟩ := HBX3.out.facts2
      by_cases hr : riseE L = 0
      · have hcd0 : cd = 0 := by rw [HCD.out, hr]
        subst hcd0
        by_cases hf : fitK key = true
        · obtain ⟨rfl, rfl, hps, hli, hsi⟩ := HPVV.out.1 hr hf
          obtain ⟨hxa, hxb⟩ := HX2.out.1 hr
          have hx32 : x2.size = 32 := by rw [hxa]; exact Kd.hh_size T2 _
          have hd32 : ((x2.size : Int) == 32) = true := by rw [hx32]; rfl
          have HTT := Lib.hid (fun (T6 : List ByteArray) v has cd6 (h : (v, has, cd6) = verifyP (Kd.hh T6) x2 key L.length (ps.map Pm.pt)) => keyed_true (T := T6) (v := v) (has := has) (cd := cd6) hr hf (by rw [h, hxa, hps, kd_same T2 T6, kd_same T3 T6]))
          have HV := Lib.hid (Kd.mVerify_calls b t b b T3 [] x2 key L.length A3 c3 ps _ HK4.out (by simp at l2; omega) HPM.out HCP.out HOP.out HOX.out)
          clear hps hli hsi hxa hxb hr hf
          go_wp2_with fail
          refine HV.out.mono ?_
          rintro e w6 ⟨T6, v, has, cd6, rfl, hv, -, e6, l6, ch6, k6⟩
          obtain ⟨hc0, htr⟩ := HTT.out T6 v has cd6 hv.out
          subst hc0
          have HC6 := Lib.hid (HC4.out.step ch6 HC4.out.size (fun i hi e => by omega))
          have hz6 := HC6.out.size
          have HT6 := Lib.hid (HTR.out v has w6 (HSL4.out.off ch6 HO.out))
          rw [htr] at HT6
          clear htr hv ch6 k6 x0 x1 y0 y1 hx32
          go_wp2_with fail
          refine HT6.out.mono ?_
          rintro e wx ⟨rfl, hw⟩
          subst hw
          go_wp2_with fail
          refine (HAW.out _).mono ?_
          rintro e w7 ⟨rfl, hb7⟩
          go_wp2
          go_ret
          exact ⟨rfl, (HC6.out.step (Ch.of_below (S := fun _ => False) hb7) hz6 (fun _ _ e => e)).below (fun _ _ e => e)⟩
        · have hf2 : fitK key = false := by simpa using hf
          obtain ⟨rfl, rfl, rfl⟩ := HPVV.out.2.1 hr hf2
          have HFT2 := Lib.hid (fun w => HFT.out w)
          rw [hf2] at HFT2
          have hz4 := HC4.out.size
          clear hf hf2 hr
          go_wp2_with fail
          refine (HRI.out _ HSL4.out).mono ?_
          rintro e w5 ⟨rfl, hb5⟩
          have HC5 := Lib.hid (HC4.out.step (Ch.of_below (S := fun _ => False) hb5) HC4.out.size (fun i hi e => e))
          have hz5 := HC5.out.size
          go_wp2_with fail
          refine (HFT2.out _).mono ?_
          rintro e wx ⟨rfl, hw⟩
          subst hw
          go_wp2_with fail
          refine (HAW.out _).mono ?_
          rintro e w6 ⟨rfl, hb6⟩
          go_wp2
          go_ret
          exact ⟨rfl, (HC5.out.step (Ch.of_below (S := fun _ => False) hb6) hz5 (fun _ _ e => e)).below (fun _ _ e => e)⟩
      · have hd0 : (cd == 0) = false := by rw [beq_eq_false_iff_ne, HCD.out]; exact hr
        have hd1 : (cd != 0) = true := by rw [bne, hd0]; rfl
        obtain ⟨rfl, rfl, rfl⟩ := HPVV.out.2.2 hr
        rw [← HCD.out]
        clear hr
        go_wp2_with fail
        refine (HRI.out _ HSL4.out).mono ?_
        rintro e w5 ⟨rfl, hb5⟩
        have HC5 := Lib.hid (HC4.out.step (Ch.of_below (S := fun _ => False) hb5) HC4.out.size (fun i hi e => e))
        have hz5 := HC5.out.size
        go_wp2_with fail
        refine (HAW.out _).mono ?_
        rintro e w6 ⟨rfl, hb6⟩
        go_wp2
        go_ret
        exact ⟨rfl, (HC5.out.step (Ch.of_below (S := fun _ => False) hb6) hz5 (fun _ _ e => e)).below (fun _ _ e => e)⟩
theorem merkleKeyed_calls (A : Option Addr) (c : Nat) (l : List Rc) (key : ByteArray) (W : World) (hs : RcS W A c l) (hc : l.length ≤ c) :
    Calls Try.prog 9 #[.slice A l.length c, .string key] W fun e w' => e = .returned (.bool true) ∧ Below W.heap.size W w' := by
  refine merkleKeyed_cut A c (l.take 40) l.length key W (hs.take 40) (by simp; omega) ?_ hs.fits ?_
  · rcases Nat.lt_or_ge 40 l.length with h | h
    · exact .inr ⟨h, by simp; omega, hc⟩
    · exact .inl ⟨by simp; omega, h⟩
  · rcases Nat.eq_zero_or_pos l.length with h | h
    · exact .inl h
    · obtain ⟨a, rfl, _⟩ := hs.elem 0 h
      exact .inr ⟨a, rfl⟩
end Go.Proofs.Ytfgpchffkpomoaa
